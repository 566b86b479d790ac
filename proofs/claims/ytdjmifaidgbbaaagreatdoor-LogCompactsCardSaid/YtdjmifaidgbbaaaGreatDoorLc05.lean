/-
  Names: which texts may be names: plain data. A text is all of some bytes just if nothing is left when these are trimmed.
-/
import Derived.Lib.SlTrimSet
import Derived.Lib.Bytealg
import Derived.Test.YtdjmifaidgbbaaaGreatDoorLc01
import Derived.Test.YtdjmifaidgbbaaaGreatDoorLc04
import Derived.Test.YtdjmifaidgbbaaaGreatDoorProg
import Derived.Maps.OwnSet
import Derived.Maps.Views
import Derived.StringKeys
namespace Go.Proofs.YtdjmifaidgbbaaaGreatDoor

def cutDisk : List UInt8 := [97, 98, 99, 100, 101, 102, 103, 104, 105, 106, 107, 108, 109, 110, 111, 112, 113, 114, 115, 116, 117, 118, 119, 120, 121, 122, 48, 49, 50, 51, 52, 53, 54, 55, 56, 57, 45, 46, 47]
def cutTopic : List UInt8 := [97, 98, 99, 100, 101, 102, 103, 104, 105, 106, 107, 108, 109, 110, 111, 112, 113, 114, 115, 116, 117, 118, 119, 120, 121, 122, 48, 49, 50, 51, 52, 53, 54, 55, 56, 57]
/-- Whether a text may be a name: of 1 to 'most' bytes of these. -/
def nameOk (most : Nat) (cs : List UInt8) (l : List UInt8) : Bool := !l.isEmpty && decide (l.length ≤ most) && l.all (cs.contains ·)

theorem dropWhile_nil {p : UInt8 → Bool} : ∀ {l : List UInt8}, l.dropWhile p = [] ↔ l.all p = true
  | [] => by simp
  | a :: l => by
    rw [List.dropWhile_cons]
    by_cases h : p a = true
    · rw [if_pos h, dropWhile_nil, List.all_cons, h, Bool.true_and]
    · rw [if_neg h, List.all_cons]
      simp [h]
theorem trim_nil {l cs : List UInt8} : Lib.trimS l cs = [] ↔ l.all (cs.contains ·) = true := by
  unfold Lib.trimS Lib.trimLeftS Lib.trimRightS
  rw [dropWhile_nil, List.all_reverse]
  constructor
  · intro h
    -- what is left is of them, and so is what went
    have hsplit := List.takeWhile_append_dropWhile (p := fun b => cs.contains b) (l := l.reverse)
    have h2 : l.reverse.all (cs.contains ·) = true := by
      rw [← hsplit, List.all_append, h, Bool.and_true, List.all_eq_true]
      intro x hx
      exact List.all_eq_true.1 (List.all_takeWhile) x hx
    rwa [List.all_reverse] at h2
  · intro h
    rw [List.all_eq_true] at h ⊢
    intro x hx
    exact h x (List.mem_reverse.1 ((List.dropWhile_sublist _).mem hx))

theorem indexByte_neg : ∀ {l : List UInt8} {c : UInt8}, Lib.indexByte l c < 0 ↔ l.contains c = false
  | [], c => by simp [Lib.indexByte]
  | b :: l, c => by
    have ih := indexByte_neg (l := l) (c := c)
    have hge := Lib.indexByte_ge l c
    unfold Lib.indexByte
    by_cases h : (b == c) = true
    · have hbc : c = b := (beq_iff_eq.1 h).symm
      rw [if_pos h]
      subst hbc
      simp
    · have hcb : (c == b) = false := by
        rw [beq_eq_false_iff_ne]
        intro e
        exact h (by rw [e]; simp)
      rw [if_neg h, List.contains_cons, hcb, Bool.false_or, ← ih]
      by_cases h2 : (Lib.indexByte l c == -1) = true
      · rw [if_pos h2]
        have := beq_iff_eq.1 h2
        omega
      · rw [if_neg h2]
        have : Lib.indexByte l c ≠ -1 := fun e => h2 (by rw [e]; rfl)
        omega
end Go.Proofs.YtdjmifaidgbbaaaGreatDoor

/-
  The plain disk: files by names in an order, room, operations left. Of no program.
-/
namespace Go.Proofs.YtdjmifaidgbbaaaGreatDoor

abbrev Nm := List UInt8
/-- A file: bytes, of which the first ones are safe. -/
structure Fl where
  bytes : List UInt8
  safe : Nat
structure Dk where
  fs : List (Nm × Fl)
  room : Nat
  left : Int

def Dk.names (d : Dk) : List Nm := d.fs.map (·.1)
def Dk.find (d : Dk) (x : Nm) : Option Fl := d.fs.lookup x
def Dk.used (d : Dk) : Nat := (d.fs.map fun p => p.2.bytes.length).sum
def Dk.size (d : Dk) (x : Nm) : Int := match d.find x with | some f => f.bytes.length | none => -1
/-- A file's bytes from one on, at most so many. -/
def readOf (l : List UInt8) (frm most : Int) : List UInt8 := if frm < 0 ∨ most ≤ 0 then [] else (l.drop frm.toNat).take most.toNat
def Dk.read (d : Dk) (x : Nm) (frm most : Int) : List UInt8 := match d.find x with | some f => readOf f.bytes frm most | none => []
/-- Whether an operation is done. -/
def didB (l : Int) : Bool := decide (l ≠ 0)
def stepL (l : Int) : Int := if 0 < l then l - 1 else l
def Dk.does (d : Dk) : Bool := didB d.left
def Dk.step (d : Dk) : Dk := { d with left := stepL d.left }
def Dk.turn (d : Dk) (x : Nm) (f : Fl) : Dk := { d with fs := d.fs.map fun p => if p.1 = x then (p.1, f) else p }
def Dk.del (d : Dk) (x : Nm) : Dk := { d with fs := d.fs.filter fun p => decide (p.1 ≠ x) }
def Dk.put (d : Dk) (x : Nm) (f : Fl) : Dk := { d with fs := (d.fs.filter fun p => decide (p.1 ≠ x)) ++ [(x, f)] }
def Dk.fresh (room : Nat) : Dk := { fs := [], room := room, left := -1 }

/-- What is wrong (0: nothing), and the disk behind it. -/
def dkName (x : Nm) : Bool := nameOk 40 cutDisk x
def Dk.make (d : Dk) (x : Nm) : Nat × Dk :=
  if d.does = false then (14, d) else
    if dkName x = false then (5, d.step) else
      if (d.find x).isSome = true then (9, d.step) else
        if d.fs.length = 200 then (4, d.step) else (0, d.step.put x ⟨[], 0⟩)
/-- An operation at a file. -/
def Dk.at (d : Dk) (x : Nm) (g : Fl → Nat × (Dk → Dk)) : Nat × Dk :=
  if d.does = false then (14, d) else
    match d.find x with
    | none => (7, d.step)
    | some f => ((g f).1, (g f).2 d.step)
def Dk.add (d : Dk) (x : Nm) (b : List UInt8) : Nat × Dk :=
  d.at x fun f => if d.room < d.used + b.length then (12, id) else (0, fun d => d.turn x ⟨f.bytes ++ b, f.safe⟩)
def Dk.cut (d : Dk) (x : Nm) (n : Int) : Nat × Dk :=
  d.at x fun f => if n < 0 ∨ (f.bytes.length : Int) < n then (2, id) else (0, fun d => d.turn x ⟨f.bytes.take n.toNat, min f.safe n.toNat⟩)
def Dk.sync (d : Dk) (x : Nm) : Nat × Dk :=
  d.at x fun f => (0, fun d => d.turn x ⟨f.bytes, f.bytes.length⟩)
def Dk.rename (d : Dk) (x y : Nm) : Nat × Dk :=
  d.at x fun f => if dkName y = false then (5, id) else (0, fun d => (d.del x).put y f)
def Dk.remove (d : Dk) (x : Nm) : Nat × Dk :=
  d.at x fun _ => (0, fun d => d.del x)

/-- Names in order. -/
def sortN (l : List Nm) : List Nm := l.mergeSort fun x y => decide (x ≤ y)
def Dk.list (d : Dk) (begin : Nm) : List Nm := sortN (d.names.filter fun x => begin.isPrefixOf x)
/-- What a crash leaves of a file. -/
def keepOf (f : Fl) (fates : List UInt8) (i : Nat) : Nat :=
  if fates = [] then f.safe else min f.bytes.length (f.safe + (fates.getD (i % fates.length) 0).toNat)
def crashed (f : Fl) (fates : List UInt8) (i : Nat) : Fl := ⟨f.bytes.take (keepOf f fates i), keepOf f fates i⟩
def Dk.crash1 (fates : List UInt8) (d : Dk) (i : Nat) (x : Nm) : Dk := match d.find x with | some f => d.turn x (crashed f fates i) | none => d
def Dk.crashGo (fates : List UInt8) : Nat → List Nm → Dk → Dk
  | _, [], d => d
  | i, x :: r, d => Dk.crashGo fates (i + 1) r (d.crash1 fates i x)
def Dk.crash (d : Dk) (fates : List UInt8) : Dk := { Dk.crashGo fates 0 (d.list []) d with left := -1 }

/-- The disk is in order: no name twice; what is safe is there; all within its bounds. -/
structure Dk.Ok (d : Dk) : Prop where
  nodup : d.names.Nodup
  safe : ∀ p ∈ d.fs, p.2.safe ≤ p.2.bytes.length
  fits : d.used ≤ d.room
  room : d.room ≤ 1048576
  few : d.fs.length ≤ 200
  left : -1 ≤ d.left ∧ d.left ≤ 9223372036854775807
  short : ∀ x ∈ d.names, x.length ≤ 40

theorem dkName_len {x : Nm} (h : dkName x = true) : x.length ≤ 40 := by
  unfold dkName nameOk at h
  simp only [Bool.and_eq_true, decide_eq_true_eq] at h
  exact h.1.2

theorem stepL_ok {l : Int} (h : -1 ≤ l ∧ l ≤ 9223372036854775807) : -1 ≤ stepL l ∧ stepL l ≤ 9223372036854775807 := by
  unfold stepL
  split <;> omega
theorem Dk.Ok.step {d : Dk} (h : d.Ok) : d.step.Ok := ⟨h.nodup, h.safe, h.fits, h.room, h.few, stepL_ok h.left, h.short⟩

theorem find_none {d : Dk} {x : Nm} (h : d.find x = none) : x ∉ d.names := by
  unfold Dk.find at h
  intro hx
  obtain ⟨q, hq, rfl⟩ := List.mem_map.1 hx
  rw [List.lookup_eq_none_iff] at h
  have := h q hq
  simp at this
theorem sum_sub : ∀ {a b : List Nat}, a.Sublist b → a.sum ≤ b.sum
  | _, _, .slnil => Nat.le_refl _
  | _, _, .cons x h => by have := sum_sub h; simp; omega
  | _, _, .cons_cons x h => by have := sum_sub h; simp; omega
theorem used_filter (d : Dk) (x : Nm) : (d.del x).used ≤ d.used := by
  unfold Dk.used Dk.del
  exact sum_sub (List.Sublist.map _ List.filter_sublist)
theorem names_filter {d : Dk} {x : Nm} (h : x ∉ d.names) : (d.fs.filter fun p => decide (p.1 ≠ x)) = d.fs := by
  rw [List.filter_eq_self]
  intro q hq
  simp
  intro e
  exact h (List.mem_map.2 ⟨q, hq, e⟩)
theorem Dk.Ok.make {d : Dk} (h : d.Ok) (x : Nm) : (d.make x).2.Ok := by
  unfold Dk.make
  split
  · exact h
  · split
    · exact h.step
    · rename_i hn
      split
      · exact h.step
      · rename_i hf
        split
        · exact h.step
        · rename_i hl
          have hf0 : d.find x = none := by
            cases hq : d.find x with
            | none => rfl
            | some _ => rw [hq] at hf; exact absurd rfl hf
          have hnot := find_none hf0
          have e : d.step.put x ⟨[], 0⟩ = { d.step with fs := d.fs ++ [(x, ⟨[], 0⟩)] } := by
            unfold Dk.put
            rw [show d.step.fs = d.fs from rfl, names_filter hnot]
          rw [e]
          refine ⟨?_, ?_, ?_, h.room, ?_, stepL_ok h.left, ?_⟩
          · show ((d.fs ++ [(x, (⟨[], 0⟩ : Fl))]).map (·.1)).Nodup
            rw [List.map_append]
            refine List.nodup_append.2 ⟨h.nodup, by simp, fun y hy z hz e => ?_⟩
            simp at hz
            exact hnot (by rw [← hz, ← e]; exact hy)
          · intro p hp
            rcases List.mem_append.1 hp with hp | hp
            · exact h.safe p hp
            · simp at hp; subst hp; exact Nat.le_refl _
          · show ((d.fs ++ [(x, (⟨[], 0⟩ : Fl))]).map _).sum ≤ d.room
            rw [List.map_append, List.sum_append]
            have := h.fits
            unfold Dk.used at this
            simpa using this
          · show (d.fs ++ [(x, (⟨[], 0⟩ : Fl))]).length ≤ 200
            rw [List.length_append]
            have := h.few
            simp
            omega
          · intro y hy
            have hy : y ∈ (d.fs ++ [(x, (⟨[], 0⟩ : Fl))]).map (·.1) := hy
            rw [List.map_append] at hy
            rcases List.mem_append.1 hy with hy | hy
            · exact h.short y hy
            · simp at hy; subst hy
              cases hd : dkName y with
              | true => exact dkName_len hd
              | false => exact absurd hd hn
end Go.Proofs.YtdjmifaidgbbaaaGreatDoor

/-
  The disk's map of files in memory: names to blocks; and the disk itself.
-/
set_option linter.unusedSimpArgs false
set_option linter.unusedVariables false
namespace Go.Proofs.YtdjmifaidgbbaaaGreatDoor
open Go.RowKit Go.Maps

abbrev DU := DataW Unit
theorem keyedS : Keyed Tryz.prog 9 := string_keyed Tryz.underlying9
theorem zeroPtr (w : World) : (zeroValue 139).run Tryz.prog w = .ok (.pointer none) w := by kernel_rfl

/-- How a pointer to a file reads: its block's number. -/
def ptrElem : Value → Option (DU × List MemPlace)
  | .pointer none => some (.nil, [])
  | .pointer (some ⟨b, 0, none⟩) => some (.lit (.int .i64 b), [])
  | _ => none
def ptrOf (o : Option Nat) : Value := .pointer (o.map fun b => ⟨b, 0, none⟩)
def datOf : Option Nat → DU
  | none => .nil
  | some b => .lit (.int .i64 b)
theorem ptrElem_of (o : Option Nat) : ptrElem (ptrOf o) = some (datOf o, []) := by cases o <;> rfl
theorem ptrElem_inv {v : Value} {o : Option Nat} {ps : List MemPlace} (h : ptrElem v = some (datOf o, ps)) : v = ptrOf o := by
  unfold ptrElem at h
  split at h
  · cases o with
    | none => rfl
    | some b => simp [datOf] at h
  · rename_i b
    cases o with
    | none => simp [datOf] at h
    | some b' =>
      simp only [datOf, Option.some.injEq, Prod.mk.injEq, DataW.lit.injEq, Lit.int.injEq, true_and] at h
      have : b = b' := by omega
      rw [this]; rfl
  · cases h

/-! ### lists of names -/
theorem lookup_filter {α : Type} (x y : Nm) : ∀ fs : List (Nm × α), (fs.filter fun p => decide (p.1 ≠ x)).lookup y = if y = x then none else fs.lookup y
  | [] => by simp
  | (a, b) :: r => by
    have ih := lookup_filter x y r
    by_cases hax : a = x
    · subst hax
      rw [List.filter_cons_of_neg (by simp), ih]
      by_cases hy : y = a
      · simp [hy]
      · have : (y == a) = false := beq_eq_false_iff_ne.2 hy
        simp [hy, List.lookup_cons, this]
    · rw [List.filter_cons_of_pos (by simpa using hax), List.lookup_cons, List.lookup_cons, ih]
      by_cases hya : y = a
      · subst hya; simp [hax]
      · have : (y == a) = false := beq_eq_false_iff_ne.2 hya
        simp [this]
theorem lookup_put {α : Type} (x y : Nm) (b : α) (fs : List (Nm × α)) : ((fs.filter fun p => decide (p.1 ≠ x)) ++ [(x, b)]).lookup y = if y = x then some b else fs.lookup y := by
  rw [List.lookup_append, lookup_filter]
  by_cases h : y = x
  · subst h; simp
  · have : (y == x) = false := beq_eq_false_iff_ne.2 h
    simp [h, List.lookup_cons, this]
theorem lookup_some {α : Type} {x : Nm} {b : α} : ∀ {fs : List (Nm × α)}, fs.lookup x = some b → (x, b) ∈ fs
  | (a, c) :: r, h => by
    rw [List.lookup_cons] at h
    by_cases hxa : x = a
    · subst hxa
      simp at h
      subst h
      simp
    · have : (x == a) = false := beq_eq_false_iff_ne.2 hxa
      simp only [this, Bool.false_eq_true, if_false] at h
      exact List.mem_cons_of_mem _ (lookup_some h)
theorem lookup_none {α : Type} {x : Nm} : ∀ {fs : List (Nm × α)}, fs.lookup x = none ↔ x ∉ fs.map (·.1)
  | [] => by simp
  | (a, c) :: r => by
    rw [List.lookup_cons]
    by_cases hxa : x = a
    · subst hxa; simp
    · have : (x == a) = false := beq_eq_false_iff_ne.2 hxa
      simp only [this, Bool.false_eq_true, if_false, List.map_cons, List.mem_cons, not_or]
      rw [lookup_none (fs := r)]
      simp [hxa]
theorem lookup_mem {α : Type} {x : Nm} {b : α} : ∀ {fs : List (Nm × α)}, (fs.map (·.1)).Nodup → (x, b) ∈ fs → fs.lookup x = some b
  | (a, c) :: r, hn, h => by
    rw [List.map_cons, List.nodup_cons] at hn
    rw [List.lookup_cons]
    rcases List.mem_cons.1 h with h | h
    · cases h; simp
    · have hxa : x ≠ a := fun e => hn.1 (by rw [← e]; exact List.mem_map_of_mem (f := (·.1)) h)
      have : (x == a) = false := beq_eq_false_iff_ne.2 hxa
      simp only [this, Bool.false_eq_true, if_false]
      exact lookup_mem hn.2 h
theorem filter_fst_nodup {α : Type} {fs : List (Nm × α)} (h : (fs.map (·.1)).Nodup) (x : Nm) : ((fs.filter fun p => decide (p.1 ≠ x)).map (·.1)).Nodup :=
  h.sublist (List.Sublist.map _ List.filter_sublist)
theorem put_fst_nodup {α : Type} {fs : List (Nm × α)} (h : (fs.map (·.1)).Nodup) (x : Nm) (b : α) : (((fs.filter fun p => decide (p.1 ≠ x)) ++ [(x, b)]).map (·.1)).Nodup := by
  rw [List.map_append]
  refine List.nodup_append.2 ⟨filter_fst_nodup h x, by simp, fun y hy z hz e => ?_⟩
  simp at hz
  obtain ⟨q, hq, rfl⟩ := List.mem_map.1 hy
  have := (List.mem_filter.1 hq).2
  simp at this
  exact this (by rw [e, hz])
theorem filter_length {α : Type} (x : Nm) : ∀ {fs : List (Nm × α)}, (fs.map (·.1)).Nodup → (fs.filter fun p => decide (p.1 ≠ x)).length + (if (fs.lookup x).isSome = true then 1 else 0) = fs.length
  | [], _ => by simp
  | (a, c) :: r, hn => by
    rw [List.map_cons, List.nodup_cons] at hn
    have ih := filter_length x hn.2
    by_cases hxa : a = x
    · subst hxa
      rw [List.filter_cons_of_neg (by simp), List.lookup_cons]
      have h0 : r.lookup a = none := lookup_none.2 hn.1
      rw [h0] at ih
      simp at ih ⊢
      exact ih
    · rw [List.filter_cons_of_pos (by simpa using hxa), List.lookup_cons]
      have : (x == a) = false := beq_eq_false_iff_ne.2 (fun e => hxa e.symm)
      simp only [this, Bool.false_eq_true, if_false, List.length_cons]
      omega

/-! ### the map of files -/
/-- The map's names are just these, each with its block. -/
def MapAt (w : World) (mb : Nat) (fs : List (Nm × Nat)) : Prop :=
  (fs.map (·.1)).Nodup ∧ ∃ D : DU, w.ownsMap Tryz.prog 9 ptrElem mb fs.length D ∧ Maps.size D = fs.length ∧
    ∀ x : Nm, D.atKey (.string x) .nil = datOf (fs.lookup x) ∧ Maps.has D (.string x) = (fs.lookup x).isSome
theorem ownsMap_grown {S : Nat → Prop} {w w' : World} {P : Program} {k : TypeId} {R : Value → Option (DU × List MemPlace)} {b n : Nat} {D : DU} (h : w.ownsMap P k R b n D) (hc : Chg S w w') (hn : ¬ S b) : w'.ownsMap P k R b n D := by
  have hlt := h.lt
  obtain ⟨es, clock, hb, F, hs, hD⟩ := h
  exact ⟨es, clock, (hc.block b hlt hn).trans hb, F, hs, hD⟩
theorem MapAt.chg {S : Nat → Prop} {w w' : World} {mb : Nat} {fs : List (Nm × Nat)} (h : MapAt w mb fs) (hc : Chg S w w') (hn : ¬ S mb) : MapAt w' mb fs := by
  obtain ⟨hnd, D, ho, rest⟩ := h
  exact ⟨hnd, D, ownsMap_grown ho hc hn, rest⟩
theorem MapAt.lt {w : World} {mb : Nat} {fs : List (Nm × Nat)} (h : MapAt w mb fs) : mb < w.heap.size := by
  obtain ⟨_, D, ho, _⟩ := h
  exact ho.lt
/-- The map's block is no row. -/
theorem MapAt.ne_row {w : World} {mb : Nat} {fs : List (Nm × Nat)} (h : MapAt w mb fs) {g : Nat} {cs : Array Value} {e : TypeId} {fr : Nat × Nat} (hg : w.heap[g]? = some (.cells cs e fr)) : mb ≠ g := by
  obtain ⟨_, D, ho, _⟩ := h
  intro e1
  subst e1
  obtain ⟨es, clock, hb, _⟩ := ho
  rw [hg] at hb; cases hb
theorem mapTurned_chg {w w' : World} {b : Nat} (h : w.mapTurned w' b) : Chg (fun i => i = b) w w' := by
  have g := h.grown
  exact ⟨g.os, g.tape, g.output, g.size, fun k hk hn => g.block k hk (fun e => hn (Option.some.inj e))⟩
theorem ownsMap_tight {w : World} {P : Program} {k : TypeId} {R : Value → Option (DU × List MemPlace)} {b n : Nat} {D : DU} (h : w.ownsMap P k R b n D) : w.ownsMap P k R b (Maps.size D) D := by
  obtain ⟨es, clock, hb, F, hs, rfl⟩ := h
  exact ⟨es, clock, hb, F, by simp [Maps.size, length_sorted], rfl⟩
theorem key_str {s : ByteArray} (hs : s.size ≤ maxLen) : keyOf Tryz.prog 9 (.string s) = some (.string s.data.toList) := WideMaps.keyOf_string_mk Tryz.underlying9 hs
theorem lit_ne {x y : Nm} (h : x ≠ y) : (Lit.string x) ≠ .string y := fun e => h (by cases e; rfl)
theorem keyLit (x : Nm) : WideAt.IsKeyLit (.string x) := trivial
theorem MapAt.made (w : World) : MapAt (w.alloc (.map #[] 0)) w.heap.size [] :=
  ⟨List.nodup_nil, _, World.ownsMap_made _ _ _ _, rfl, fun _ => ⟨rfl, rfl⟩⟩
theorem MapAt.look {w : World} {mb : Nat} {fs : List (Nm × Nat)} (h : MapAt w mb fs) {s : ByteArray} (hs : s.size ≤ maxLen) :
    (Instr.lookup 94 (.map (some mb)) (.string s) false).run Tryz.prog w = .ok (ptrOf (fs.lookup s.data.toList)) w := by
  obtain ⟨_, D, ho, _, hD⟩ := h
  obtain ⟨v, ps, hrun, hv⟩ := ho.lookup keyedS (t := 94) (e := 139) Tryz.underlying94 (zeroPtr w) (zd := .nil) (zp := []) rfl (key_str hs)
  rw [(hD s.data.toList).1] at hv
  rw [hrun, ptrElem_inv hv]
theorem MapAt.len {w : World} {mb : Nat} {fs : List (Nm × Nat)} (h : MapAt w mb fs) (ty : TypeId) : (Builtin.len_ #[94] ty #[.map (some mb)]).run Tryz.prog w = .ok (.int .i64 (fs.length : Nat)) w := by
  obtain ⟨_, D, ho, hs, _⟩ := h
  rw [← hs]; exact ho.len Tryz.underlying94 ty
/-- 'm[name] = f'. -/
theorem MapAt.store {w : World} {mb : Nat} {fs : List (Nm × Nat)} (h : MapAt w mb fs) (hn : fs.length < maxLen) {s : ByteArray} (hs : s.size ≤ maxLen) (b : Nat) :
    ∃ w', (Instr.mapUpdate 94 (.map (some mb)) (.string s) (.pointer (some ⟨b, 0, none⟩))).run Tryz.prog w = .ok () w' ∧
      MapAt w' mb ((fs.filter fun p => decide (p.1 ≠ s.data.toList)) ++ [(s.data.toList, b)]) ∧ Chg (fun i => i = mb) w w' := by
  obtain ⟨hnd, D, ho, hsz, hD⟩ := h
  obtain ⟨w', hrun, r1, r2⟩ := ho.store keyedS (t := 94) (e := 139) Tryz.underlying94 hn (key_str hs) (ptrElem_of (some b))
  have hT := ho.tidy keyedS
  have hsz2 : Maps.size (D.put (.string s.data.toList) (datOf (some b))) = ((fs.filter fun p => decide (p.1 ≠ s.data.toList)) ++ [(s.data.toList, b)]).length := by
    rw [size_put hT, (hD _).2, List.length_append, List.length_singleton]
    have := filter_length s.data.toList hnd
    split at this
    · rename_i h; rw [if_pos h]; omega
    · rename_i h; rw [if_neg h]; omega
  refine ⟨w', hrun, ⟨put_fst_nodup hnd _ _, _, ?_, hsz2, fun y => ?_⟩, mapTurned_chg r2⟩
  · rw [← hsz2]; exact ownsMap_tight r1
  · rw [lookup_put]
    by_cases e : y = s.data.toList
    · subst e
      rw [atKey_put_same hT.isMap (keyLit _), has_put_same hT.isMap (keyLit _)]
      simp
    · rw [atKey_put_other (lit_ne e), has_put_other (lit_ne e), (hD y).1, (hD y).2]
      simp [e]
/-- What 'delete' leaves. -/
theorem MapAt.drop {w : World} {mb : Nat} {fs : List (Nm × Nat)} (h : MapAt w mb fs) {s : ByteArray} (hs : s.size ≤ maxLen) (ty : TypeId) :
    ∃ w', (Builtin.delete_ #[94, 9] ty #[.map (some mb), .string s]).run Tryz.prog w = .ok (.tuple #[]) w' ∧
      MapAt w' mb (fs.filter fun p => decide (p.1 ≠ s.data.toList)) ∧ Chg (fun i => i = mb) w w' := by
  obtain ⟨hnd, D, ho, hsz, hD⟩ := h
  obtain ⟨w', hrun, r1, r2⟩ := ho.drop keyedS (t := 94) (e := 139) Tryz.underlying94 (key_str hs) ty
  have hT := ho.tidy keyedS
  have hsz2 : Maps.size (D.del (.string s.data.toList)) = (fs.filter fun p => decide (p.1 ≠ s.data.toList)).length := by
    have h1 := size_del (k := .string s.data.toList) hT
    rw [(hD _).2] at h1
    have := filter_length s.data.toList hnd
    omega
  refine ⟨w', hrun, ⟨filter_fst_nodup hnd _, _, ?_, hsz2, fun y => ?_⟩, mapTurned_chg r2⟩
  · rw [← hsz2]; exact ownsMap_tight r1
  · rw [lookup_filter]
    by_cases e : y = s.data.toList
    · subst e
      rw [atKey_del_same, has_del_same]
      simp [datOf]
    · rw [atKey_del_other (lit_ne e), has_del_other (lit_ne e), (hD y).1, (hD y).2]
      simp [e]
end Go.Proofs.YtdjmifaidgbbaaaGreatDoor

/-
  A map of numbers by texts. (Of the logs' seat.)
-/
set_option linter.unusedSimpArgs false
set_option linter.unusedVariables false
namespace Go.Proofs.YtdjmifaidgbbaaaGreatDoor
open Go.RowKit Go.Maps

def numElem : Value → Option (DU × List MemPlace)
  | .int .i64 n => some (.lit (.int .i64 n), [])
  | _ => none
def numOf (o : Option Int) : DU := .lit (.int .i64 (o.getD 0))
theorem numElem_of (n : Int) : numElem (.int .i64 n) = some (numOf (some n), []) := rfl
theorem numElem_inv {v : Value} {o : Option Int} {ps : List MemPlace} (h : numElem v = some (numOf o, ps)) : v = .int .i64 (o.getD 0) := by
  unfold numElem at h
  split at h
  · simp only [numOf, Option.some.injEq, Prod.mk.injEq, DataW.lit.injEq, Lit.int.injEq, true_and] at h
    rw [h.1]
  · cases h
theorem zeroInt (w : World) : (zeroValue 3).run Tryz.prog w = .ok (.int .i64 0) w := by kernel_rfl
/-- The map's texts are just these, each with its number. -/
def NumsAt (w : World) (mb : Nat) (fs : List (Nm × Int)) : Prop :=
  (fs.map (·.1)).Nodup ∧ ∃ D : DU, w.ownsMap Tryz.prog 9 numElem mb fs.length D ∧ Maps.size D = fs.length ∧
    ∀ x : Nm, D.atKey (.string x) (numOf none) = numOf (fs.lookup x) ∧ Maps.has D (.string x) = (fs.lookup x).isSome
theorem NumsAt.chg {S : Nat → Prop} {w w' : World} {mb : Nat} {fs : List (Nm × Int)} (h : NumsAt w mb fs) (hc : Chg S w w') (hn : ¬ S mb) : NumsAt w' mb fs := by
  obtain ⟨hnd, D, ho, rest⟩ := h
  exact ⟨hnd, D, ownsMap_grown ho hc hn, rest⟩
theorem NumsAt.lt {w : World} {mb : Nat} {fs : List (Nm × Int)} (h : NumsAt w mb fs) : mb < w.heap.size := by
  obtain ⟨_, D, ho, _⟩ := h
  exact ho.lt
/-- The map's block is no row. -/
theorem NumsAt.ne_row {w : World} {mb : Nat} {fs : List (Nm × Int)} (h : NumsAt w mb fs) {g : Nat} {cs : Array Value} {e : TypeId} {fr : Nat × Nat} (hg : w.heap[g]? = some (.cells cs e fr)) : mb ≠ g := by
  obtain ⟨_, D, ho, _⟩ := h
  intro e1
  subst e1
  obtain ⟨es, clock, hb, _⟩ := ho
  rw [hg] at hb; cases hb
theorem NumsAt.made (w : World) : NumsAt (w.alloc (.map #[] 0)) w.heap.size [] :=
  ⟨List.nodup_nil, _, World.ownsMap_made _ _ _ _, rfl, fun _ => ⟨rfl, rfl⟩⟩
theorem NumsAt.look {w : World} {mb : Nat} {fs : List (Nm × Int)} (h : NumsAt w mb fs) {s : ByteArray} (hs : s.size ≤ maxLen) :
    (Instr.lookup 49 (.map (some mb)) (.string s) false).run Tryz.prog w = .ok (.int .i64 ((fs.lookup s.data.toList).getD 0)) w := by
  obtain ⟨_, D, ho, _, hD⟩ := h
  obtain ⟨v, ps, hrun, hv⟩ := ho.lookup keyedS (t := 49) (e := 3) Tryz.underlying49 (zeroInt w) (zd := numOf none) (zp := []) rfl (key_str hs)
  rw [(hD s.data.toList).1] at hv
  rw [hrun, numElem_inv hv]
/-- 'm[text] = n'. -/
theorem NumsAt.store {w : World} {mb : Nat} {fs : List (Nm × Int)} (h : NumsAt w mb fs) (hn : fs.length < maxLen) {s : ByteArray} (hs : s.size ≤ maxLen) (n : Int) :
    ∃ w', (Instr.mapUpdate 49 (.map (some mb)) (.string s) (.int .i64 n)).run Tryz.prog w = .ok () w' ∧
      NumsAt w' mb ((fs.filter fun p => decide (p.1 ≠ s.data.toList)) ++ [(s.data.toList, n)]) ∧ Chg (fun i => i = mb) w w' := by
  obtain ⟨hnd, D, ho, hsz, hD⟩ := h
  obtain ⟨w', hrun, r1, r2⟩ := ho.store keyedS (t := 49) (e := 3) Tryz.underlying49 hn (key_str hs) (numElem_of n)
  have hT := ho.tidy keyedS
  have hsz2 : Maps.size (D.put (.string s.data.toList) (numOf (some n))) = ((fs.filter fun p => decide (p.1 ≠ s.data.toList)) ++ [(s.data.toList, n)]).length := by
    rw [size_put hT, (hD _).2, List.length_append, List.length_singleton]
    have := filter_length s.data.toList hnd
    split at this
    · rename_i h; rw [if_pos h]; omega
    · rename_i h; rw [if_neg h]; omega
  refine ⟨w', hrun, ⟨put_fst_nodup hnd _ _, _, ?_, hsz2, fun y => ?_⟩, mapTurned_chg r2⟩
  · rw [← hsz2]; exact ownsMap_tight r1
  · rw [lookup_put]
    by_cases e : y = s.data.toList
    · subst e
      rw [atKey_put_same hT.isMap (keyLit _), has_put_same hT.isMap (keyLit _)]
      simp
    · rw [atKey_put_other (lit_ne e), has_put_other (lit_ne e), (hD y).1, (hD y).2]
      simp [e]
end Go.Proofs.YtdjmifaidgbbaaaGreatDoor
