/-
  An answer's parts, as they are written: plain data.
-/
import Derived.Test.YtmklicodfiggnaaDoorAskL
namespace Go.Proofs.YtmklicodfiggnaaDoor
open Go.RowKit

structure Tp where
  name : ByteArray
  parts : Int
  compact : Bool
def Tp.cells (t : Tp) : List Value := [.string t.name, .int .i64 t.parts, .bool t.compact]
/-- A slice's first cells are these topics (nil: there are none). -/
def TopsAt (w : World) (a : Option Addr) (ts : List Tp) : Prop :=
  ∀ i (h : i < ts.length), ∃ b off, a = some ⟨b, off, none⟩ ∧ ∀ j u, ts[i].cells[j]? = some u → w.cell? ⟨b, off + i * 3 + j, none⟩ = some u
theorem TopsAt.chg {S : Nat → Prop} {w w' : World} (h : Chg S w w') {a : Option Addr} {ts : List Tp} (hb : TopsAt w a ts) (hn : ∀ x, a = some x → ¬ S x.block) : TopsAt w' a ts := by
  intro i hi
  obtain ⟨b, off, ha, hc⟩ := hb i hi
  exact ⟨b, off, ha, fun j u hj => h.cell (hc j u hj) (show ¬ S b from hn ⟨b, off, none⟩ ha)⟩
theorem Step.tops {g : Nat} {w w' : World} {v v' : Value} (hS : Step g w w' v v') {a : Option Addr} {rs : List Tp} (hr : TopsAt w a rs) (ha : 0 < rs.length → ∀ x, a = some x → x.block ≠ g ∧ v.ownBlock ≠ some x.block) :
    TopsAt w' a rs ∧ (0 < rs.length → ∀ x, a = some x → x.block ≠ g ∧ v'.ownBlock ≠ some x.block) := by
  refine ⟨fun i hi => ?_, fun h0 x hx => ?_⟩
  · obtain ⟨b, off, rfl, hc⟩ := hr i hi
    have h1 := ha (by omega) _ rfl
    exact ⟨b, off, rfl, fun j u hj => hS.chg.cell (hc j u hj) (fun e => e.elim h1.1 h1.2)⟩
  · obtain ⟨b, off, rfl, hc⟩ := hr 0 h0
    have h1 := ha h0 _ rfl
    have hlt := World.block_lt_of_cell? _ _ (hc 0 _ rfl)
    cases hx
    refine ⟨h1.1, fun e => (hS.own _ e).elim h1.2 fun l => ?_⟩
    have hlt' : b < w.heap.size := hlt
    have l' : w.heap.size ≤ b := l
    omega

structure Ar where
  kind : Int
  corr : Int
  err : Int
  offset : Int
  start : Int
  fin : Int
  found : Bool
  recs : List Rec
  tops : List Tp
def tpW (s : WS) (t : Tp) : WS := truthW (numsW (textW s t.name 40) [t.parts]) t.compact
def topsW (s : WS) (ts : List Tp) : WS := ts.foldl tpW (numsW s [(ts.length : Int)])
def ansW (s : WS) (x : Ar) : WS :=
  if x.kind = 1 then numsW s [x.offset]
  else if x.kind = 2 then recsW true (numsW s [x.start, x.fin]) x.recs
  else if x.kind = 3 then (if x.found = true then numsW (truthW s true) [x.offset] else truthW s false)
  else if x.kind = 4 then numsW s [x.start]
  else if x.kind = 7 then topsW s x.tops
  else s
def tellW (s : WS) (x : Ar) : WS := if x.err = 0 then ansW (numsW s [x.kind, x.corr, x.err]) x else numsW s [x.kind, x.corr, x.err]
/-- What is wrong with an answer that is to be written; its bytes. -/
def tellErr (x : Ar) : Nat := if x.kind < 1 ∨ 7 < x.kind ∨ x.err < 0 ∨ 15 < x.err then 1 else frameErr (tellW ([], 0) x)
def tellB (x : Ar) : List UInt8 := frameB (tellW ([], 0) x)

theorem truthW_bad (s : WS) (b : Bool) (h : s.2 ≤ 4) : (truthW s b).2 ≤ 4 := numsW_bad _ _ h
theorem tops_bad : ∀ (ts : List Tp) (s : WS), s.2 ≤ 4 → (ts.foldl tpW s).2 ≤ 4
  | [], _, h => h
  | _ :: ts, _, h => tops_bad ts _ (truthW_bad _ _ (numsW_bad _ _ (textW_bad _ _ _ h)))
theorem ansW_bad (s : WS) (x : Ar) (h : s.2 ≤ 4) : (ansW s x).2 ≤ 4 := by
  unfold ansW
  split
  · exact numsW_bad _ _ h
  split
  · exact recsW_bad _ _ _ (numsW_bad _ _ h)
  split
  · split
    · exact numsW_bad _ _ (truthW_bad _ _ h)
    · exact truthW_bad _ _ h
  split
  · exact numsW_bad _ _ h
  split
  · exact tops_bad _ _ (numsW_bad _ _ h)
  · exact h
theorem tellW_bad (s : WS) (x : Ar) (h : s.2 ≤ 4) : (tellW s x).2 ≤ 4 := by
  unfold tellW
  split
  · exact ansW_bad _ _ (numsW_bad _ _ h)
  · exact numsW_bad _ _ h
theorem tpW_len (s : WS) (t : Tp) : (tpW s t).1.length ≤ s.1.length + 18 + t.name.size := by
  have h1 := textW_len s t.name 40
  have h2 := numsW_len (textW s t.name 40) [t.parts]
  have h3 := truthW_len (numsW (textW s t.name 40) [t.parts]) t.compact
  simp only [List.length_cons, List.length_nil] at h2
  unfold tpW
  omega
theorem tops_len : ∀ (ts : List Tp) (s : WS), (∀ t ∈ ts, t.name.size ≤ 1048576) → (ts.foldl tpW s).1.length ≤ s.1.length + 1100000 * ts.length
  | [], s, _ => by simp
  | t :: ts, s, h => by
    have h1 := tpW_len s t
    have h2 := tops_len ts (tpW s t) (fun x hx => h x (by simp [hx]))
    have h3 := h t (by simp)
    simp only [List.foldl_cons, List.length_cons]
    omega
theorem ansW_len (s : WS) (x : Ar) (hl : x.recs.length ≤ 20000) (h : ∀ r ∈ x.recs, r.key.size ≤ 1048576 ∧ r.value.size ≤ 1048576) (hl2 : x.tops.length ≤ 20000) (h2 : ∀ t ∈ x.tops, t.name.size ≤ 1048576) : (ansW s x).1.length ≤ s.1.length + 70000000000 := by
  unfold ansW
  split
  · have h3 := numsW_len s [x.offset]
    simp only [List.length_cons, List.length_nil] at h3
    omega
  split
  · have h1 := recsW_len true (numsW s [x.start, x.fin]) x.recs h
    have h3 := numsW_len s [x.start, x.fin]
    simp only [List.length_cons, List.length_nil] at h3
    have h4 : 2100000 * x.recs.length ≤ 2100000 * 20000 := Nat.mul_le_mul_left _ hl
    omega
  split
  · split
    · have h3 := numsW_len (truthW s true) [x.offset]
      have h4 := truthW_len s true
      simp only [List.length_cons, List.length_nil] at h3
      omega
    · have h4 := truthW_len s false
      omega
  split
  · have h3 := numsW_len s [x.start]
    simp only [List.length_cons, List.length_nil] at h3
    omega
  split
  · have h1 := tops_len x.tops (numsW s [(x.tops.length : Int)]) h2
    have h3 := numsW_len s [(x.tops.length : Int)]
    simp only [List.length_cons, List.length_nil] at h3
    have h4 : 1100000 * x.tops.length ≤ 1100000 * 20000 := Nat.mul_le_mul_left _ hl2
    unfold topsW
    omega
  · omega
theorem tellW_len (s : WS) (x : Ar) (hl : x.recs.length ≤ 20000) (h : ∀ r ∈ x.recs, r.key.size ≤ 1048576 ∧ r.value.size ≤ 1048576) (hl2 : x.tops.length ≤ 20000) (h2 : ∀ t ∈ x.tops, t.name.size ≤ 1048576) : (tellW s x).1.length ≤ s.1.length + 100000000000 := by
  have h3 := numsW_len s [x.kind, x.corr, x.err]
  simp only [List.length_cons, List.length_nil] at h3
  unfold tellW
  split
  · have h1 := ansW_len (numsW s [x.kind, x.corr, x.err]) x hl h hl2 h2
    omega
  · omega
end Go.Proofs.YtmklicodfiggnaaDoor
