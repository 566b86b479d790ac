/-
  A request's parts, as they are written: plain data.
-/
import Derived.Test.YtmklicodfiggnaaDoorWriteL
namespace Go.Proofs.YtmklicodfiggnaaDoor
open Go.RowKit

structure Rq where
  kind : Int
  corr : Int
  topic : ByteArray
  part : Int
  offset : Int
  most : Int
  least : Int
  wait : Int
  time : Int
  parts : Int
  sure : Bool
  compact : Bool
  recs : List Rec
def topW (s : WS) (x : Rq) : WS := if x.kind = 7 then s else textW s x.topic 40
def endW (s : WS) (x : Rq) : WS :=
  if x.kind = 1 then recsW false (truthW (numsW s [x.part]) x.sure) x.recs
  else if x.kind = 2 then numsW (numsW s [x.part]) [x.offset, x.most, x.least, x.wait]
  else if x.kind = 3 then numsW (numsW s [x.part]) [x.time]
  else if x.kind = 4 then numsW (numsW s [x.part]) [x.offset]
  else if x.kind = 5 then truthW (numsW s [x.parts]) x.compact
  else s
def reqW (s : WS) (x : Rq) : WS := endW (topW (numsW s [x.kind, x.corr]) x) x
/-- What is wrong with a request that is to be written; its bytes. -/
def askErr (x : Rq) : Nat := if x.kind < 1 ∨ 7 < x.kind then 1 else frameErr (reqW ([], 0) x)
def askB (x : Rq) : List UInt8 := frameB (reqW ([], 0) x)

theorem numsW_bad (s : WS) (l : List Int) (h : s.2 ≤ 4) : (numsW s l).2 ≤ 4 := by
  induction l generalizing s with
  | nil => exact h
  | cons x l ih =>
    refine ih (numW s x) ?_
    unfold numW
    split
    · simp
    · exact h
theorem textW_bad (s : WS) (t : ByteArray) (m : Nat) (h : s.2 ≤ 4) : (textW s t m).2 ≤ 4 := by
  unfold textW
  refine numsW_bad _ _ ?_
  simp only
  split <;> omega
theorem recW_bad (wi : Bool) (s : WS) (r : Rec) (h : s.2 ≤ 4) : (recW wi s r).2 ≤ 4 := by
  unfold recW
  have h1 : (offW wi s r).2 ≤ 4 := by
    unfold offW
    split
    · exact numsW_bad _ _ h
    · exact h
  have h3 := numsW_bad _ [if r.keyed = true then 1 else 0] (numsW_bad _ [r.time] h1)
  have h4 : (keyW (truthW (numsW (offW wi s r) [r.time]) r.keyed) r).2 ≤ 4 := by
    unfold keyW
    split
    · exact textW_bad _ _ _ h3
    · exact h3
  have h5 := numsW_bad _ [if r.gone = true then 1 else 0] h4
  unfold valW
  split
  · exact h5
  · exact textW_bad _ _ _ h5
theorem recs_bad (wi : Bool) : ∀ (rs : List Rec) (s : WS), s.2 ≤ 4 → (rs.foldl (recW wi) s).2 ≤ 4
  | [], _, h => h
  | r :: rs, s, h => recs_bad wi rs _ (recW_bad wi s r h)
theorem recsW_bad (wi : Bool) (s : WS) (rs : List Rec) (h : s.2 ≤ 4) : (recsW wi s rs).2 ≤ 4 := recs_bad wi rs _ (numsW_bad _ _ h)
theorem topW_bad (s : WS) (x : Rq) (h : s.2 ≤ 4) : (topW s x).2 ≤ 4 := by
  unfold topW
  split
  · exact h
  · exact textW_bad _ _ _ h
theorem endW_bad (s : WS) (x : Rq) (h : s.2 ≤ 4) : (endW s x).2 ≤ 4 := by
  unfold endW
  split
  · exact recsW_bad _ _ _ (numsW_bad _ _ (numsW_bad _ _ h))
  split
  · exact numsW_bad _ _ (numsW_bad _ _ h)
  split
  · exact numsW_bad _ _ (numsW_bad _ _ h)
  split
  · exact numsW_bad _ _ (numsW_bad _ _ h)
  split
  · exact numsW_bad _ _ (numsW_bad _ _ h)
  · exact h
theorem reqW_bad (s : WS) (x : Rq) (h : s.2 ≤ 4) : (reqW s x).2 ≤ 4 := endW_bad _ _ (topW_bad _ _ (numsW_bad _ _ h))
theorem topW_len (s : WS) (x : Rq) : (topW s x).1.length ≤ s.1.length + 6 + x.topic.size := by
  unfold topW
  split
  · omega
  · exact textW_len _ _ _
theorem endW_len (s : WS) (x : Rq) (hl : x.recs.length ≤ 20000) (h : ∀ r ∈ x.recs, r.key.size ≤ 1048576 ∧ r.value.size ≤ 1048576) : (endW s x).1.length ≤ s.1.length + 70000000000 := by
  have n1 := fun (s : WS) (l : List Int) => numsW_len s l
  unfold endW
  split
  · have h1 := recsW_len false (truthW (numsW s [x.part]) x.sure) x.recs h
    have h2 := truthW_len (numsW s [x.part]) x.sure
    have h3 := numsW_len s [x.part]
    simp only [List.length_cons, List.length_nil] at h3
    have h4 : 2100000 * x.recs.length ≤ 2100000 * 20000 := Nat.mul_le_mul_left _ hl
    omega
  split
  · have h2 := numsW_len (numsW s [x.part]) [x.offset, x.most, x.least, x.wait]
    have h3 := numsW_len s [x.part]
    simp only [List.length_cons, List.length_nil] at h2 h3
    omega
  split
  · have h2 := numsW_len (numsW s [x.part]) [x.time]
    have h3 := numsW_len s [x.part]
    simp only [List.length_cons, List.length_nil] at h2 h3
    omega
  split
  · have h2 := numsW_len (numsW s [x.part]) [x.offset]
    have h3 := numsW_len s [x.part]
    simp only [List.length_cons, List.length_nil] at h2 h3
    omega
  split
  · have h2 := truthW_len (numsW s [x.parts]) x.compact
    have h3 := numsW_len s [x.parts]
    simp only [List.length_cons, List.length_nil] at h3
    omega
  · omega
theorem reqW_len (s : WS) (x : Rq) (ht : x.topic.size ≤ 1048576) (hl : x.recs.length ≤ 20000) (h : ∀ r ∈ x.recs, r.key.size ≤ 1048576 ∧ r.value.size ≤ 1048576) : (reqW s x).1.length ≤ s.1.length + 100000000000 := by
  have h1 := endW_len (topW (numsW s [x.kind, x.corr]) x) x hl h
  have h2 := topW_len (numsW s [x.kind, x.corr]) x
  have h3 := numsW_len s [x.kind, x.corr]
  simp only [List.length_cons, List.length_nil] at h3
  unfold reqW
  omega

/-- Records that lie neither in the writer's block nor in its bytes' stay. -/
theorem Step.recs {g : Nat} {w w' : World} {v v' : Value} (hS : Step g w w' v v') {a : Option Addr} {rs : List Rec} (hr : RecsAt w a rs) (ha : 0 < rs.length → ∀ x, a = some x → x.block ≠ g ∧ v.ownBlock ≠ some x.block) :
    RecsAt w' a rs ∧ (0 < rs.length → ∀ x, a = some x → x.block ≠ g ∧ v'.ownBlock ≠ some x.block) := by
  refine ⟨fun i hi => ?_, fun h0 x hx => ?_⟩
  · obtain ⟨b, off, rfl, hc⟩ := hr i hi
    have h1 := ha (by omega) _ rfl
    exact ⟨b, off, rfl, fun j u hj => hS.chg.cell (hc j u hj) (fun e => e.elim h1.1 h1.2)⟩
  · obtain ⟨b, off, rfl, hc⟩ := hr 0 h0
    have h1 := ha h0 _ rfl
    have hlt := World.block_lt_of_cell? _ _ (hc 0 _ rfl)
    cases hx
    refine ⟨h1.1, fun e => (hS.own _ e).elim h1.2 fun l => ?_⟩
    have hlt' : b < w.heap.size := hlt
    have l' : w.heap.size ≤ b := l
    omega
end Go.Proofs.YtmklicodfiggnaaDoor
