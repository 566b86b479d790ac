/-
  A frame's parts, as they are written: plain data: the bytes so far, and what was bad.
-/
import Derived.Test.YtmklicodfiggnaaDoorBoxW
namespace Go.Proofs.YtmklicodfiggnaaDoor
open Go.RowKit

theorem length_two {α : Type} {l : List α} (h : l.length = 2) : ∃ a b, l = [a, b] := by
  match l, h with
  | [a, b], _ => exact ⟨a, b, rfl⟩

abbrev WS := List UInt8 × Nat
def numW (s : WS) (n : Int) : WS := if n < 0 ∨ 1099511627776 < n then (s.1 ++ put 0, 2) else (s.1 ++ put n.toNat, s.2)
def numsW (s : WS) (l : List Int) : WS := l.foldl numW s
def truthW (s : WS) (b : Bool) : WS := numsW s [if b = true then 1 else 0]
def textW (s : WS) (t : ByteArray) (most : Nat) : WS := ((numsW (s.1, if most < t.size then 4 else s.2) [(t.size : Int)]).1 ++ t.data.toList, (numsW (s.1, if most < t.size then 4 else s.2) [(t.size : Int)]).2)
def offW (wi : Bool) (s : WS) (r : Rec) : WS := if wi = true then numsW s [r.off] else s
def keyW (s : WS) (r : Rec) : WS := if r.keyed = true then textW s r.key 60 else s
def valW (s : WS) (r : Rec) : WS := if r.gone = true then s else textW s r.value 500
def recW (wi : Bool) (s : WS) (r : Rec) : WS := valW (truthW (keyW (truthW (numsW (offW wi s r) [r.time]) r.keyed) r) r.gone) r
def recsW (wi : Bool) (s : WS) (rs : List Rec) : WS := rs.foldl (recW wi) (numsW s [(rs.length : Int)])
/-- What is wrong with a frame; its bytes. -/
def frameErr (s : WS) : Nat := if s.2 ≠ 0 then s.2 else if 10000 < s.1.length then 4 else 0
def frameB (s : WS) : List UInt8 := four s.1.length ++ s.1

theorem numW_len (s : WS) (n : Int) : (numW s n).1.length ≤ s.1.length + 6 := by
  have h0 : (put 0).length ≤ 6 := put_length (k := 5) (by omega)
  unfold numW
  by_cases h : n < 0 ∨ 1099511627776 < n
  · rw [if_pos h]; simp only [List.length_append]; omega
  · rw [if_neg h]
    have : (put n.toNat).length ≤ 6 := put_length (k := 5) (by omega)
    simp only [List.length_append]; omega
theorem numsW_snoc (s : WS) (l : List Int) (n : Int) : numsW s (l ++ [n]) = numW (numsW s l) n := by simp [numsW]
theorem numsW_one (s : WS) (n : Int) : numsW s [n] = numW s n := rfl
theorem numsW_len (s : WS) : ∀ l : List Int, (numsW s l).1.length ≤ s.1.length + 6 * l.length := by
  intro l
  induction l generalizing s with
  | nil => simp [numsW]
  | cons x l ih =>
    have h1 := numW_len s x
    have h2 := ih (numW s x)
    have e : numsW s (x :: l) = numsW (numW s x) l := rfl
    rw [e, List.length_cons]
    omega
theorem truthW_len (s : WS) (b : Bool) : (truthW s b).1.length ≤ s.1.length + 6 := numW_len s _
theorem textW_len (s : WS) (t : ByteArray) (most : Nat) : (textW s t most).1.length ≤ s.1.length + 6 + t.size := by
  have h := numW_len (s.1, if most < t.size then 4 else s.2) (t.size : Int)
  have e : t.data.toList.length = t.size := by rw [Array.length_toList]; rfl
  unfold textW
  rw [numsW_one]
  simp only [List.length_append] at h ⊢
  omega
theorem recW_len (wi : Bool) (s : WS) (r : Rec) : (recW wi s r).1.length ≤ s.1.length + 36 + r.key.size + r.value.size := by
  have h1 : (offW wi s r).1.length ≤ s.1.length + 6 := by
    unfold offW
    split
    · exact numW_len s _
    · omega
  have h2 := numW_len (offW wi s r) r.time
  have h3 := truthW_len (numsW (offW wi s r) [r.time]) r.keyed
  have h4 : (keyW (truthW (numsW (offW wi s r) [r.time]) r.keyed) r).1.length ≤ (truthW (numsW (offW wi s r) [r.time]) r.keyed).1.length + 6 + r.key.size := by
    unfold keyW
    split
    · exact textW_len _ _ _
    · omega
  have h5 := truthW_len (keyW (truthW (numsW (offW wi s r) [r.time]) r.keyed) r) r.gone
  have h6 : (recW wi s r).1.length ≤ (truthW (keyW (truthW (numsW (offW wi s r) [r.time]) r.keyed) r) r.gone).1.length + 6 + r.value.size := by
    unfold recW valW
    split
    · omega
    · exact textW_len _ _ _
  rw [numsW_one] at h3 h4 h5 h6
  omega
theorem recs_len (wi : Bool) (s : WS) : ∀ rs : List Rec, (∀ r ∈ rs, r.key.size ≤ 1048576 ∧ r.value.size ≤ 1048576) → (rs.foldl (recW wi) s).1.length ≤ s.1.length + 2100000 * rs.length := by
  intro rs h
  induction rs generalizing s with
  | nil => simp
  | cons r rs ih =>
    have h1 := recW_len wi s r
    have h2 := ih (recW wi s r) (fun x hx => h x (by simp [hx]))
    have h3 := h r (by simp)
    simp only [List.foldl_cons, List.length_cons]
    omega
theorem recsW_len (wi : Bool) (s : WS) (rs : List Rec) (h : ∀ r ∈ rs, r.key.size ≤ 1048576 ∧ r.value.size ≤ 1048576) : (recsW wi s rs).1.length ≤ s.1.length + 6 + 2100000 * rs.length := by
  have h1 := recs_len wi (numsW s [(rs.length : Int)]) rs h
  have h2 := numW_len s (rs.length : Int)
  rw [← numsW_one] at h2
  unfold recsW
  omega

/-- What a writer's walk may turn: the writer's own block, and its bytes' block. -/
structure Step (g : Nat) (w w' : World) (v v' : Value) : Prop where
  chg : Chg (fun k => k = g ∨ v.ownBlock = some k) w w'
  own : ∀ k, v'.ownBlock = some k → v.ownBlock = some k ∨ w.heap.size ≤ k
theorem Step.refl (g : Nat) (w : World) (v : Value) : Step g w w v v := ⟨Chg.refl _ _, fun _ h => .inl h⟩
theorem Step.trans {g : Nat} {a b c : World} {u v x : Value} (h : Step g a b u v) (k : Step g b c v x) : Step g a c u x :=
  ⟨h.chg.trans k.chg (fun i hi => hi.elim (fun e => .inl (.inl e)) fun e => (h.own i e).imp .inr id), fun i hi => (k.own i hi).elim (fun e => h.own i e) fun e => .inr (Nat.le_trans h.chg.size e)⟩
theorem Step.pre {g : Nat} {a b c : World} {u v : Value} (h : Chg Nil a b) (k : Step g b c u v) : Step g a c u v :=
  ⟨(h.weak (fun _ e => e.elim)).trans k.chg (fun _ e => .inl e), fun i hi => (k.own i hi).imp id fun e => Nat.le_trans h.size e⟩
theorem Step.keeps {g : Nat} {w w' : World} {v v' : Value} (h : Step g w w' v v') {a : Nat} {cs : List Value} {t : TypeId} (hb : Box w a cs t) (hg : a ≠ g) (hv : v.ownBlock ≠ some a) : Box w' a cs t ∧ v'.ownBlock ≠ some a :=
  ⟨hb.chg h.chg (fun e => e.elim hg hv), fun e => (h.own a e).elim hv fun l => by have := (Array.getElem?_eq_some_iff.1 hb).1; omega⟩

/-- A writer at block g: its bytes, and what was bad. -/
structure Wr (t : TypeId) (w : World) (g : Nat) (v : Value) (s : WS) : Prop where
  box : Box w g [v, .int .i64 (s.2 : Nat)] t
  own : OwnB 5 w v s.1
  ne : v.ownBlock ≠ some g
theorem Wr.chg {t : TypeId} {S : Nat → Prop} {w w' : World} {g : Nat} {v : Value} {s : WS} (h : Wr t w g v s) (hc : Chg S w w') (hg : ¬ S g) (hv : ∀ k, v.ownBlock = some k → ¬ S k) : Wr t w' g v s :=
  ⟨h.box.chg hc hg, h.own.chg hc hv, h.ne⟩
theorem Wr.alloc {t : TypeId} {w : World} {g : Nat} {v : Value} {s : WS} (h : Wr t w g v s) (o : Obj) : Wr t (w.alloc o) g v s := h.chg ((Chg.refl Nil w).alloc o) (fun h => h) (fun _ _ h => h)
theorem Wr.lt {t : TypeId} {w : World} {g : Nat} {v : Value} {s : WS} (h : Wr t w g v s) : g < w.heap.size := (Array.getElem?_eq_some_iff.1 h.box).1
end Go.Proofs.YtmklicodfiggnaaDoor
