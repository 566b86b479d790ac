/-
  A slice of the call's own that may have less room than its block (cut by x[:n:n]), or none at all; what an append to it leaves. Over any program.
-/
import Derived.Test.YtdjmifaidgbbaaaGreatDoorLb03
import Derived.Test.YtdjmifaidgbbaaaGreatDoorLb01
import Derived.Test.YtdjmifaidgbbaaaGreatDoorLb05
set_option linter.unusedSimpArgs false
set_option linter.unusedVariables false
namespace Go.Proofs.YtdjmifaidgbbaaaGreatDoor
open Go.RowKit

/-- The slice v holds these cells: n elements, each of so many. -/
def SlcRow (w : World) (e : TypeId) (size : Nat) (v : Value) (n : Nat) (xs : List Value) : Prop :=
  xs.length = n * size ∧ ((v = .slice none 0 0 ∧ n = 0) ∨ (∃ a, v = .slice (some a) 0 0 ∧ n = 0) ∨
    ∃ g cap cur, v = .slice (some ⟨g, 0, none⟩) n cap ∧ w.heap[g]? = some (.cells cur e (0, 0)) ∧ n ≤ cap ∧ cap ≤ maxLen ∧ cap * size ≤ cur.size ∧ cur.toList.take (n * size) = xs)

/-- The block that such a slice may write. -/
def Value.room : Value → Option Nat
  | .slice (some a) _ (c + 1) => some a.block
  | _ => none
def Room (v : Value) : Nat → Prop := fun k => Value.room v = some k

theorem SlcRow.of_own {w : World} {e : TypeId} {size : Nat} {v : Value} {n : Nat} {xs : List Value} (h : w.ownsRow 0 e size v n xs) : SlcRow w e size v n xs := by
  refine ⟨h.1, ?_⟩
  rcases h.2 with h | ⟨g, cap, cur, h1, _, h2, h3, h4, h5, h6⟩
  · exact .inl h
  · exact .inr (.inr ⟨g, cap, cur, h1, h2, h3, h4, by omega, h6⟩)
theorem SlcRow.nil (w : World) (e : TypeId) (size : Nat) : SlcRow w e size (.slice none 0 0) 0 [] := ⟨by simp, .inl ⟨rfl, rfl⟩⟩
theorem SlcRow.zero (w : World) (e : TypeId) (size : Nat) (a : Addr) : SlcRow w e size (.slice (some a) 0 0) 0 [] := ⟨by simp, .inr (.inl ⟨a, rfl, rfl⟩)⟩

/-- The slice's own row stays what it is. -/
theorem SlcRow.chg {S : Nat → Prop} {w w' : World} {e : TypeId} {size : Nat} {v : Value} {n : Nat} {xs : List Value} (h : SlcRow w e size v n xs) (hc : Chg S w w') (hn : ∀ k, Value.room v = some k → ¬ S k) : SlcRow w' e size v n xs := by
  refine ⟨h.1, ?_⟩
  rcases h.2 with h | h | ⟨g, cap, cur, h1, h2, h3, h4, h5, h6⟩
  · exact .inl h
  · exact .inr (.inl h)
  · cases cap with
    | zero =>
      obtain rfl : n = 0 := by omega
      exact .inr (.inl ⟨_, h1, rfl⟩)
    | succ c => exact .inr (.inr ⟨g, c + 1, cur, h1, (hc.block g (by have := (Array.getElem?_eq_some_iff.1 h2).1; exact this) (hn g (by rw [h1]; rfl))).trans h2, h3, h4, h5, h6⟩)
theorem SlcRow.lt {w : World} {e : TypeId} {size : Nat} {v : Value} {n : Nat} {xs : List Value} (h : SlcRow w e size v n xs) : ∀ k, Value.room v = some k → k < w.heap.size := by
  intro k hk
  rcases h.2 with ⟨rfl, _⟩ | ⟨a, rfl, _⟩ | ⟨g, cap, cur, rfl, h2, _⟩
  · cases hk
  · cases hk
  · cases cap with
    | zero => cases hk
    | succ c => obtain rfl : g = k := Option.some.inj hk; exact (Array.getElem?_eq_some_iff.1 h2).1
/-- Its block holds cells of this type. -/
theorem SlcRow.row {w : World} {e : TypeId} {size : Nat} {v : Value} {n : Nat} {xs : List Value} (h : SlcRow w e size v n xs) : ∀ k, Value.room v = some k → ∃ cur, w.heap[k]? = some (.cells cur e (0, 0)) := by
  intro k hk
  rcases h.2 with ⟨rfl, _⟩ | ⟨a, rfl, _⟩ | ⟨g, cap, cur, rfl, h2, _⟩
  · cases hk
  · cases hk
  · cases cap with
    | zero => cases hk
    | succ c => obtain rfl : g = k := Option.some.inj hk; exact ⟨cur, h2⟩
theorem SlcRow.form {w : World} {e : TypeId} {size : Nat} {v : Value} {n : Nat} {xs : List Value} (h : SlcRow w e size v n xs) : ∃ a c, v = .slice a n c ∧ n ≤ c ∧ n ≤ maxLen := by
  rcases h.2 with ⟨rfl, rfl⟩ | ⟨a, rfl, rfl⟩ | ⟨g, cap, cur, rfl, h2, h3, h4, _⟩
  · exact ⟨_, _, rfl, Nat.le_refl _, Nat.zero_le _⟩
  · exact ⟨_, _, rfl, Nat.le_refl _, Nat.zero_le _⟩
  · exact ⟨_, _, rfl, h3, Nat.le_trans h3 h4⟩

/-- What an append leaves: the slice's own block and new ones alone; a new slice has its own block. -/
structure Grewn (w w' : World) (v v' : Value) : Prop where
  chg : Chg (Room v) w w'
  own : ∀ k, Value.room v' = some k → Value.room v = some k ∨ w.heap.size ≤ k

theorem run_append_slc {P : Program} (w : World) (t u ty e : TypeId) (d : TypeDesc) (i : TypeInfo) (z : Value) (ht : P.underlying t = some (.slice e)) (hu : P.underlying u = some d) (hd : ∀ k, d ≠ .int k)
    (hi : P.info? e = some i) (hz : i.zero = some z) (hzs : z.cells.size = i.size) (v : Value) (n : Nat) (xs : List Value) (hown : SlcRow w e i.size v n xs)
    (x : Value) (m : Nat) (news : List Value) (hx : Source P w i.size x m news) (h63 : n + m ≤ maxLen) (hbytes : (n + m) * i.bytes ≤ 140737488355328) :
    ∃ v' w', (Builtin.append_ #[t, u] ty #[v, x]).run P w = .ok v' w' ∧ SlcRow w' e i.size v' (n + m) (xs ++ news) ∧ Grewn w w' v v' := by
  have hlen : (xs ++ news).length = (n + m) * i.size := by rw [List.length_append, hown.1, hx.length, Nat.add_mul]
  have hlx := hx.len
  have hfx := hx.first w (fun _ => rfl)
  have hfd := hx.first w.drew (fun _ => rfl)
  have hsmall : n + m ≤ 9223372036854775807 := by simp only [maxLen] at h63; omega
  -- a new array
  have grown : ∀ (old : Nat), old < n + m →
      SlcRow (w.drew.alloc (.cells (xs.toArray ++ news.toArray ++ Builtin.zeroCells z.cells (grownCap w (n + m) old e - (n + m))) e)) e i.size
        (.slice (some ⟨w.heap.size, 0, none⟩) (n + m) (grownCap w (n + m) old e)) (n + m) (xs ++ news) ∧
      Grewn w (w.drew.alloc (.cells (xs.toArray ++ news.toArray ++ Builtin.zeroCells z.cells (grownCap w (n + m) old e - (n + m))) e)) v (.slice (some ⟨w.heap.size, 0, none⟩) (n + m) (grownCap w (n + m) old e)) := by
    intro old ho
    have hge := grownCap_ge w (n + m) old e
    have hcm : grownCap w (n + m) old e ≤ maxLen := grownCap_le_maxLen w (n + m) old e h63
    refine ⟨⟨hlen, .inr (.inr ⟨w.heap.size, _, _, rfl, heap_alloc_new w.drew _, hge, hcm, ?_, ?_⟩)⟩, ⟨(Chg.refl _ _).drew.alloc _, fun k hk => .inr ?_⟩⟩
    · simp only [Array.size_append, List.size_toArray, size_zeroCells, hzs, hown.1, hx.length, ← Nat.add_mul]
      refine Nat.le_of_eq ?_
      congr 1
      omega
    · simp only [Array.toList_append, List.append_assoc]
      rw [← List.append_assoc, ← hlen]
      exact List.take_left
    · cases hc : grownCap w (n + m) old e with
      | zero => rw [hc] at hk; cases hk
      | succ c =>
        rw [hc] at hk
        have : w.heap.size = k := Option.some.inj hk
        omega
  rcases hown.2 with ⟨rfl, rfl⟩ | ⟨a, rfl, rfl⟩ | ⟨g, cap, cur, rfl, hg, hnc, hcm, hcs, htake⟩
  · have hxs : xs = [] := List.eq_nil_of_length_eq_zero (by simpa using hown.1)
    subst hxs
    by_cases hm : m = 0
    · subst hm
      have hn : news = [] := List.eq_nil_of_length_eq_zero (by simpa using hx.length)
      subst hn
      refine ⟨.slice none 0 0, w, ?_, SlcRow.nil w e i.size, ⟨Chg.refl _ _, fun k hk => .inl hk⟩⟩
      simp [Builtin.append_, run_underlying ht, run_underlying hu, sizeOf, typeInfo, hi, hlx, hfx]
    · have h63' : ¬ (9223372036854775807 < (m : Int)) := by omega
      have h48' : ¬ (281474976710656 < Builtin.nextslicecap m 0 * i.bytes) := by
        rw [nextslicecap_zero (by omega)]; simp only [Nat.zero_add] at hbytes; omega
      have hgr := grown 0 (by omega)
      simp only [Nat.zero_add, List.nil_append, Array.empty_append] at hgr ⊢
      refine ⟨_, _, ?_, hgr.1, hgr.2⟩
      simp [Builtin.append_, run_underlying ht, run_underlying hu, sizeOf, typeInfo, zeroValue, hi, hz, hlx, hfd, hm, h63', h48', Question.forced, run_firstCells_none, newRow, grownCap]
  · have hxs : xs = [] := List.eq_nil_of_length_eq_zero (by simpa using hown.1)
    subst hxs
    have hfo := run_firstCells_some (P := P) w.drew i.size 0 a 0 0 [] (by simp) (by simp)
    by_cases hm : m = 0
    · subst hm
      have hn : news = [] := List.eq_nil_of_length_eq_zero (by simpa using hx.length)
      subst hn
      refine ⟨.slice (some a) 0 0, w, ?_, SlcRow.zero w e i.size a, ⟨Chg.refl _ _, fun k hk => .inl hk⟩⟩
      simp [Builtin.append_, run_underlying ht, run_underlying hu, sizeOf, typeInfo, hi, hlx, hfx, storeCells, Result.andThen]
    · have h63' : ¬ (9223372036854775807 < (m : Int)) := by omega
      have h48' : ¬ (281474976710656 < Builtin.nextslicecap m 0 * i.bytes) := by
        rw [nextslicecap_zero (by omega)]; simp only [Nat.zero_add] at hbytes; omega
      have hgr := grown 0 (by omega)
      simp only [Nat.zero_add, List.nil_append, Array.empty_append] at hgr ⊢
      refine ⟨_, _, ?_, hgr.1, hgr.2⟩
      simp [Builtin.append_, run_underlying ht, run_underlying hu, sizeOf, typeInfo, zeroValue, hi, hz, hlx, hfd, hfo, hm, h63', h48', Question.forced, newRow, grownCap]
  · by_cases hroom : n + m ≤ cap
    · have hfit : n * i.size + news.length ≤ cur.size := by rw [hx.length, ← Nat.add_mul]; exact Nat.le_trans (Nat.mul_le_mul_right _ hroom) hcs
      have hst := run_storeCells_at P g (n * i.size) e news 0 cur w hg (by simpa using hfit) hx.one
      simp only [Nat.add_zero] at hst
      refine ⟨.slice (some ⟨g, 0, none⟩) (n + m) cap, w.setRow g (cur.toList.take (n * i.size) ++ news ++ cur.toList.drop (n * i.size + news.length)).toArray, ?_,
        ⟨hlen, .inr (.inr ⟨g, cap, _, rfl, setRow_heap w g cur _ e _ hg, hroom, hcm, ?_, ?_⟩)⟩, ?_⟩
      · simp [Builtin.append_, run_underlying ht, run_underlying hu, sizeOf, typeInfo, hi, hlx, hroom, hfx, Addr.add_lit, hst]
      · simp only [List.size_toArray, List.length_append, List.length_take, List.length_drop, Array.length_toList]
        omega
      · rw [htake, ← hlen]
        exact List.take_left
      · cases cap with
        | zero =>
          have hm : m = 0 := by omega
          obtain rfl : n = 0 := by omega
          have hn : news = [] := List.eq_nil_of_length_eq_zero (by rw [hx.length, hm, Nat.zero_mul])
          subst hn
          have e1 : w.setRow g (cur.toList.take (0 * i.size) ++ [] ++ cur.toList.drop (0 * i.size + ([] : List Value).length)).toArray = w := by
            simp only [List.append_nil, List.length_nil, Nat.add_zero, List.take_append_drop, Array.toArray_toList]
            exact setRow_self w g cur e (0, 0) hg
          rw [e1]
          exact ⟨Chg.refl _ _, fun k hk => .inl hk⟩
        | succ c => exact ⟨⟨rfl, rfl, rfl, by simp [World.setRow], fun k _ hk => setRow_other w g k _ (fun e => hk (by simp [Room, Value.room, e]))⟩, fun k hk => .inl hk⟩
    · have holds : ∀ j y, xs[j]? = some y → w.cell? ((⟨g, 0, none⟩ : Addr).add j) = some y := by
        intro j y hj
        have e1 : (⟨g, 0, none⟩ : Addr).add j = ⟨g, j, none⟩ := by unfold Addr.add; split <;> simp_all
        rw [e1, cell_of_row w g j cur e (0, 0) hg]
        rw [← htake, List.getElem?_take] at hj
        split at hj
        · simpa using hj
        · cases hj
      have hfo := run_firstCells_some (P := P) w.drew i.size n ⟨g, 0, none⟩ n cap xs hown.1 (by simpa using holds)
      have h63' : ¬ (9223372036854775807 < ((n : Int) + (m : Int))) := by omega
      have h48' : ¬ (281474976710656 < Builtin.nextslicecap (n + m) cap * i.bytes) := by
        have := growslice_fits (need := n + m) (old := cap) (by omega) hbytes
        omega
      have hgr := grown cap (by omega)
      refine ⟨_, _, ?_, hgr.1, hgr.2⟩
      simp [Builtin.append_, run_underlying ht, run_underlying hu, sizeOf, typeInfo, zeroValue, hi, hz, hlx, hfd, hfo, hroom, h63', h48', Question.forced, newRow, grownCap]
      congr 2
      apply Array.ext'
      simp [List.append_assoc]
end Go.Proofs.YtdjmifaidgbbaaaGreatDoor

/-
  The plain disk: files by names in an order, room, operations left. Of no program.
-/
namespace Go.Proofs.YtdjmifaidgbbaaaGreatDoor

abbrev Nm := List UInt8
/-- A file: bytes, of which the first ones are safe. -/
structure Fl where
  bytes : List UInt8
  safe : Nat
structure Dk where
  fs : List (Nm × Fl)
  room : Nat
  left : Int

def Dk.names (d : Dk) : List Nm := d.fs.map (·.1)
def Dk.find (d : Dk) (x : Nm) : Option Fl := d.fs.lookup x
def Dk.used (d : Dk) : Nat := (d.fs.map fun p => p.2.bytes.length).sum
def Dk.size (d : Dk) (x : Nm) : Int := match d.find x with | some f => f.bytes.length | none => -1
/-- A file's bytes from one on, at most so many. -/
def readOf (l : List UInt8) (frm most : Int) : List UInt8 := if frm < 0 ∨ most ≤ 0 then [] else (l.drop frm.toNat).take most.toNat
def Dk.read (d : Dk) (x : Nm) (frm most : Int) : List UInt8 := match d.find x with | some f => readOf f.bytes frm most | none => []
/-- Whether an operation is done. -/
def didB (l : Int) : Bool := decide (l ≠ 0)
def stepL (l : Int) : Int := if 0 < l then l - 1 else l
def Dk.does (d : Dk) : Bool := didB d.left
def Dk.step (d : Dk) : Dk := { d with left := stepL d.left }
def Dk.turn (d : Dk) (x : Nm) (f : Fl) : Dk := { d with fs := d.fs.map fun p => if p.1 = x then (p.1, f) else p }
def Dk.del (d : Dk) (x : Nm) : Dk := { d with fs := d.fs.filter fun p => decide (p.1 ≠ x) }
def Dk.put (d : Dk) (x : Nm) (f : Fl) : Dk := { d with fs := (d.fs.filter fun p => decide (p.1 ≠ x)) ++ [(x, f)] }
def Dk.fresh (room : Nat) : Dk := { fs := [], room := room, left := -1 }

/-- What is wrong (0: nothing), and the disk behind it. -/
def dkName (x : Nm) : Bool := nameOk 40 cutDisk x
def Dk.make (d : Dk) (x : Nm) : Nat × Dk :=
  if d.does = false then (14, d) else
    if dkName x = false then (5, d.step) else
      if (d.find x).isSome = true then (9, d.step) else
        if d.fs.length = 200 then (4, d.step) else (0, d.step.put x ⟨[], 0⟩)
/-- An operation at a file. -/
def Dk.at (d : Dk) (x : Nm) (g : Fl → Nat × (Dk → Dk)) : Nat × Dk :=
  if d.does = false then (14, d) else
    match d.find x with
    | none => (7, d.step)
    | some f => ((g f).1, (g f).2 d.step)
def Dk.add (d : Dk) (x : Nm) (b : List UInt8) : Nat × Dk :=
  d.at x fun f => if d.room < d.used + b.length then (12, id) else (0, fun d => d.turn x ⟨f.bytes ++ b, f.safe⟩)
def Dk.cut (d : Dk) (x : Nm) (n : Int) : Nat × Dk :=
  d.at x fun f => if n < 0 ∨ (f.bytes.length : Int) < n then (2, id) else (0, fun d => d.turn x ⟨f.bytes.take n.toNat, min f.safe n.toNat⟩)
def Dk.sync (d : Dk) (x : Nm) : Nat × Dk :=
  d.at x fun f => (0, fun d => d.turn x ⟨f.bytes, f.bytes.length⟩)
def Dk.rename (d : Dk) (x y : Nm) : Nat × Dk :=
  d.at x fun f => if dkName y = false then (5, id) else (0, fun d => (d.del x).put y f)
def Dk.remove (d : Dk) (x : Nm) : Nat × Dk :=
  d.at x fun _ => (0, fun d => d.del x)

/-- Names in order. -/
def sortN (l : List Nm) : List Nm := l.mergeSort fun x y => decide (x ≤ y)
def Dk.list (d : Dk) (begin : Nm) : List Nm := sortN (d.names.filter fun x => begin.isPrefixOf x)
/-- What a crash leaves of a file. -/
def keepOf (f : Fl) (fates : List UInt8) (i : Nat) : Nat :=
  if fates = [] then f.safe else min f.bytes.length (f.safe + (fates.getD (i % fates.length) 0).toNat)
def crashed (f : Fl) (fates : List UInt8) (i : Nat) : Fl := ⟨f.bytes.take (keepOf f fates i), keepOf f fates i⟩
def Dk.crash1 (fates : List UInt8) (d : Dk) (i : Nat) (x : Nm) : Dk := match d.find x with | some f => d.turn x (crashed f fates i) | none => d
def Dk.crashGo (fates : List UInt8) : Nat → List Nm → Dk → Dk
  | _, [], d => d
  | i, x :: r, d => Dk.crashGo fates (i + 1) r (d.crash1 fates i x)
def Dk.crash (d : Dk) (fates : List UInt8) : Dk := { Dk.crashGo fates 0 (d.list []) d with left := -1 }

/-- The disk is in order: no name twice; what is safe is there; all within its bounds. -/
structure Dk.Ok (d : Dk) : Prop where
  nodup : d.names.Nodup
  safe : ∀ p ∈ d.fs, p.2.safe ≤ p.2.bytes.length
  fits : d.used ≤ d.room
  room : d.room ≤ 1048576
  few : d.fs.length ≤ 200
  left : -1 ≤ d.left ∧ d.left ≤ 9223372036854775807
  short : ∀ x ∈ d.names, x.length ≤ 40

theorem dkName_len {x : Nm} (h : dkName x = true) : x.length ≤ 40 := by
  unfold dkName nameOk at h
  simp only [Bool.and_eq_true, decide_eq_true_eq] at h
  exact h.1.2

theorem stepL_ok {l : Int} (h : -1 ≤ l ∧ l ≤ 9223372036854775807) : -1 ≤ stepL l ∧ stepL l ≤ 9223372036854775807 := by
  unfold stepL
  split <;> omega
theorem Dk.Ok.step {d : Dk} (h : d.Ok) : d.step.Ok := ⟨h.nodup, h.safe, h.fits, h.room, h.few, stepL_ok h.left, h.short⟩

theorem find_none {d : Dk} {x : Nm} (h : d.find x = none) : x ∉ d.names := by
  unfold Dk.find at h
  intro hx
  obtain ⟨q, hq, rfl⟩ := List.mem_map.1 hx
  rw [List.lookup_eq_none_iff] at h
  have := h q hq
  simp at this
theorem sum_sub : ∀ {a b : List Nat}, a.Sublist b → a.sum ≤ b.sum
  | _, _, .slnil => Nat.le_refl _
  | _, _, .cons x h => by have := sum_sub h; simp; omega
  | _, _, .cons_cons x h => by have := sum_sub h; simp; omega
theorem used_filter (d : Dk) (x : Nm) : (d.del x).used ≤ d.used := by
  unfold Dk.used Dk.del
  exact sum_sub (List.Sublist.map _ List.filter_sublist)
theorem names_filter {d : Dk} {x : Nm} (h : x ∉ d.names) : (d.fs.filter fun p => decide (p.1 ≠ x)) = d.fs := by
  rw [List.filter_eq_self]
  intro q hq
  simp
  intro e
  exact h (List.mem_map.2 ⟨q, hq, e⟩)
theorem Dk.Ok.make {d : Dk} (h : d.Ok) (x : Nm) : (d.make x).2.Ok := by
  unfold Dk.make
  split
  · exact h
  · split
    · exact h.step
    · rename_i hn
      split
      · exact h.step
      · rename_i hf
        split
        · exact h.step
        · rename_i hl
          have hf0 : d.find x = none := by
            cases hq : d.find x with
            | none => rfl
            | some _ => rw [hq] at hf; exact absurd rfl hf
          have hnot := find_none hf0
          have e : d.step.put x ⟨[], 0⟩ = { d.step with fs := d.fs ++ [(x, ⟨[], 0⟩)] } := by
            unfold Dk.put
            rw [show d.step.fs = d.fs from rfl, names_filter hnot]
          rw [e]
          refine ⟨?_, ?_, ?_, h.room, ?_, stepL_ok h.left, ?_⟩
          · show ((d.fs ++ [(x, (⟨[], 0⟩ : Fl))]).map (·.1)).Nodup
            rw [List.map_append]
            refine List.nodup_append.2 ⟨h.nodup, by simp, fun y hy z hz e => ?_⟩
            simp at hz
            exact hnot (by rw [← hz, ← e]; exact hy)
          · intro p hp
            rcases List.mem_append.1 hp with hp | hp
            · exact h.safe p hp
            · simp at hp; subst hp; exact Nat.le_refl _
          · show ((d.fs ++ [(x, (⟨[], 0⟩ : Fl))]).map _).sum ≤ d.room
            rw [List.map_append, List.sum_append]
            have := h.fits
            unfold Dk.used at this
            simpa using this
          · show (d.fs ++ [(x, (⟨[], 0⟩ : Fl))]).length ≤ 200
            rw [List.length_append]
            have := h.few
            simp
            omega
          · intro y hy
            have hy : y ∈ (d.fs ++ [(x, (⟨[], 0⟩ : Fl))]).map (·.1) := hy
            rw [List.map_append] at hy
            rcases List.mem_append.1 hy with hy | hy
            · exact h.short y hy
            · simp at hy; subst hy
              cases hd : dkName y with
              | true => exact dkName_len hd
              | false => exact absurd hd hn
end Go.Proofs.YtdjmifaidgbbaaaGreatDoor
