/-
  A reader of bytes: what is left, and whether they were bad. (For a seat that has no record.Decode: what XReaderW, XDecL, XDecW, XTakerW hold for the others.)
-/
import Derived.Test.YtmklicodfiggnaaDoorBoxW
import Derived.Test.YtmklicodfiggnaaDoorGetW
namespace Go.Proofs.YtmklicodfiggnaaDoor
open Go.RowKit

/-- A reader at block g: what is left of its bytes, and whether they were bad. -/
structure Rd (w : World) (g b off cap : Nat) (l : List UInt8) (bad : Bool) : Prop where
  ne : b ≠ g
  fits : l.length ≤ cap
  most : cap ≤ maxLen
  c0 : w.cell? ⟨g, 0, none⟩ = some (.slice (some ⟨b, off, none⟩) l.length cap)
  c1 : w.cell? ⟨g, 1, none⟩ = some (.bool bad)
  f0 : w.frozen? ⟨g, 0, none⟩ = false
  f1 : w.frozen? ⟨g, 1, none⟩ = false
  bytes : BytesAt w (some ⟨b, off, none⟩) l

theorem cell_set {w : World} {g j k : Nat} {v u : Value} (hj : w.cell? ⟨g, j, none⟩ = some v) : (w.setCell ⟨g, k, none⟩ u).cell? ⟨g, j, none⟩ = some (if k = j then u else v) := by
  unfold World.cell? at hj
  cases hg : w.heap[g]? with
  | none => simp [hg] at hj
  | some o =>
    cases o with
    | cells c e fr =>
      simp only [hg] at hj
      have hlt : j < c.size := by
        simp at hj
        exact (Array.getElem?_eq_some_iff.1 hj).1
      simp only [World.cell?, World.setCell, Array.getElem?_modify, if_true, hg, Option.map_some]
      simp only [Option.isSome_none, Bool.false_eq_true, if_false, Array.getElem?_setIfInBounds]
      by_cases e : k = j
      · subst e; simp [hlt]
      · rw [if_neg e, if_neg e]
        simpa using hj
    | _ => simp [hg] at hj
theorem frozen_set {w : World} {p q : Addr} {u : Value} : (w.setCell p u).frozen? q = w.frozen? q := by
  simp only [World.frozen?, World.setCell, Array.getElem?_modify]
  by_cases e : p.block = q.block
  · rw [if_pos e]
    cases w.heap[q.block]? with
    | none => rfl
    | some o => cases o <;> rfl
  · rw [if_neg e]

/-- The reader goes on by k bytes. -/
theorem Rd.move {w w' : World} {g b off cap : Nat} {l : List UInt8} {bad bad' : Bool} (h : Rd w g b off cap l bad) (k off' : Nat) (hk : k ≤ l.length) (ho : k < cap → off' = off + k)
    (c0 : w'.cell? ⟨g, 0, none⟩ = some (.slice (some ⟨b, off', none⟩) (l.length - k) (cap - k))) (c1 : w'.cell? ⟨g, 1, none⟩ = some (.bool bad')) (hf : ∀ q, w'.frozen? q = w.frozen? q) (hc : Chg (fun i => i = g) w w') :
    Rd w' g b off' (cap - k) (l.drop k) bad' := by
  refine ⟨h.ne, by rw [List.length_drop]; have := h.fits; omega, by have := h.most; omega, by rw [List.length_drop]; exact c0, c1, by rw [hf]; exact h.f0, by rw [hf]; exact h.f1, ?_⟩
  have hb := hc.bytesAt h.bytes (fun x hx e => h.ne (by cases hx; exact e))
  by_cases hkc : k < cap
  · rw [ho hkc]; exact hb.drop k
  · intro i hi
    rw [List.length_drop] at hi
    have := h.fits
    omega

theorem Rd.chg {S : Nat → Prop} {w w' : World} {g b off cap : Nat} {l : List UInt8} {bad : Bool} (h : Rd w g b off cap l bad) (hc : Chg S w w') (hg : ¬ S g) (hb : ¬ S b) : Rd w' g b off cap l bad := by
  have hlt := World.block_lt_of_cell? _ _ h.c0
  exact ⟨h.ne, h.fits, h.most, hc.cell h.c0 hg, hc.cell h.c1 hg, (hc.frozen (a := ⟨g, 0, none⟩) hlt hg).trans h.f0, (hc.frozen (a := ⟨g, 1, none⟩) hlt hg).trans h.f1, hc.bytesAt h.bytes (fun x hx => by cases hx; exact hb)⟩

/-- What is left, and whether it was bad. -/
abbrev St := List UInt8 × Bool
def numS (s : St) : Nat × St := ((get s.1).1, (s.1.drop (get s.1).2, s.2 || (get s.1).2 == 0))
theorem numS_le (s : St) : (numS s).1 ≤ 1099511627776 := get_le s.1
theorem numS_len (s : St) : (numS s).2.1.length ≤ s.1.length := by
  unfold numS
  rw [List.length_drop]
  omega
/-- A number that was none leaves all as it was, and it stays bad. -/
theorem numS_short {s : St} (h : (numS s).2.2 = false) : s.2 = false ∧ (numS s).2.1.length < s.1.length := by
  unfold numS at *
  simp only [Bool.or_eq_false_iff, beq_eq_false_iff_ne, ne_eq] at h
  have := (get_size s.1).1
  rw [List.length_drop]
  exact ⟨h.1, by omega⟩
/-- A reader whose state is this. -/
def RdS (w : World) (g b : Nat) (s : St) : Prop := ∃ off cap, Rd w g b off cap s.1 s.2
theorem RdS.chg {S : Nat → Prop} {w w' : World} {g b : Nat} {s : St} (h : RdS w g b s) (hc : Chg S w w') (hg : ¬ S g) (hb : ¬ S b) : RdS w' g b s := by
  obtain ⟨off, cap, h⟩ := h
  have hlt := World.block_lt_of_cell? _ _ h.c0
  exact ⟨off, cap, h.ne, h.fits, h.most, hc.cell h.c0 hg, hc.cell h.c1 hg, (hc.frozen (a := ⟨g, 0, none⟩) hlt hg).trans h.f0, (hc.frozen (a := ⟨g, 1, none⟩) hlt hg).trans h.f1, hc.bytesAt h.bytes (fun x hx => by cases hx; exact hb)⟩
theorem BytesAt.some {w : World} {a : Option Addr} {l : List UInt8} (h : BytesAt w a l) (h0 : 0 < l.length) : ∃ b off, a = some ⟨b, off, none⟩ := by
  obtain ⟨b, off, ha, _⟩ := h 0 h0
  exact ⟨b, off, ha⟩
theorem numS_sticky {s : St} (h : s.2 = true) : (numS s).2.2 = true := by unfold numS; simp [h]
theorem numS_bad {s : St} (h : (numS s).2.2 = false) : s.2 = false := by
  unfold numS at h
  simp only [Bool.or_eq_false_iff] at h
  exact h.1
theorem st_eta {s : St} (h : s.2 = false) : s = (s.1, false) := by rw [← h]

/-- A truth value; a text of the program's reader; a text of the document's. -/
def truthS (s : St) : Bool × St := (decide ((numS s).1 = 1), ((numS s).2.1, (numS s).2.2 || decide (1 < (numS s).1)))
def wText (most : Nat) (s : St) : List UInt8 × St :=
  if most < (numS s).1 ∨ (numS s).2.1.length < (numS s).1 then ([], ((numS s).2.1, true))
  else ((numS s).2.1.take (numS s).1, ((numS s).2.1.drop (numS s).1, (numS s).2.2))
def tkText (most : Nat) (s : St) : List UInt8 × St :=
  if (numS s).2.2 = true ∨ most < (numS s).1 ∨ (numS s).2.1.length < (numS s).1 then ([], ((numS s).2.1, true))
  else ((numS s).2.1.take (numS s).1, ((numS s).2.1.drop (numS s).1, false))
/-- Records, by whichever reader of texts. -/
def offS (wi : Bool) (s : St) : Nat × St := if wi = true then numS s else (0, s)
def keyS (txt : Nat → St → List UInt8 × St) (kd : Bool) (s : St) : List UInt8 × St := if kd = true then txt 60 s else ([], s)
def valS (txt : Nat → St → List UInt8 × St) (gn : Bool) (s : St) : List UInt8 × St := if gn = true then ([], s) else txt 500 s
def recS (txt : Nat → St → List UInt8 × St) (wi : Bool) (s : St) : Rec × St :=
  let o := offS wi s
  let t := numS o.2
  let kd := truthS t.2
  let key := keyS txt kd.1 kd.2
  let gn := truthS key.2
  let val := valS txt gn.1 gn.2
  ({ off := o.1, time := t.1, keyed := kd.1, key := ⟨key.1.toArray⟩, gone := gn.1, value := ⟨val.1.toArray⟩ }, val.2)
def recsL (txt : Nat → St → List UInt8 × St) (wi : Bool) : Nat → St → List Rec → List Rec × St
  | 0, s, acc => (acc, s)
  | n + 1, s, acc => if s.2 = true then (acc, s) else recsL txt wi n (recS txt wi s).2 (acc ++ [(recS txt wi s).1])
theorem recsL_bad {txt : Nat → St → List UInt8 × St} {wi : Bool} {n : Nat} {s : St} {acc : List Rec} (h : s.2 = true) : recsL txt wi n s acc = (acc, s) := by
  cases n with
  | zero => rfl
  | succ n => rw [recsL, if_pos h]
theorem recsL_on {txt : Nat → St → List UInt8 × St} {wi : Bool} {n : Nat} {s : St} {acc : List Rec} (h : s.2 = false) : recsL txt wi (n + 1) s acc = recsL txt wi n (recS txt wi s).2 (acc ++ [(recS txt wi s).1]) := by
  rw [recsL, if_neg (by rw [h]; simp)]
def recsS (txt : Nat → St → List UInt8 × St) (wi : Bool) (s : St) : List Rec × St := recsL txt wi (numS s).1 (numS s).2 []
end Go.Proofs.YtmklicodfiggnaaDoor
