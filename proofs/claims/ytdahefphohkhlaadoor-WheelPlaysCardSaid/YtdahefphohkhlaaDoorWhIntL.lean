/-
  Slices of numbers of the call's own; what is deleted, one by one.
-/
import Derived.Test.YtdahefphohkhlaaDoorWhNextW
set_option linter.unusedSimpArgs false
set_option linter.unusedVariables false
namespace Go.Proofs.YtdahefphohkhlaaDoor
open Go.RowKit Go.Maps

def ival (n : Int) : Value := .int .i64 n
/-- The facts on slices of numbers. -/
theorem intsT : SliceT Tryd.prog 40 3 1 8 :=
  ⟨Tryd.underlying40, by
    have h : (Tryd.prog.info? 3).map (fun i => (i.zero, i.size, i.bytes)) = some (some (.int .i64 0), 1, 8) := by kernel_rfl
    obtain ⟨i, hi, hz, h1, h2⟩ := info_parts h
    exact ⟨i, _, hi, hz, rfl, h1, h2⟩⟩
/-- A slice of numbers that is the call's own. -/
def OwnI (w : World) (v : Value) (l : List Int) : Prop := w.ownsRow 0 3 1 v l.length (l.map ival)
theorem OwnI.nil (w : World) : OwnI w (.slice none 0 0) [] := World.ownsRow_nil w 0 _ 1
theorem OwnI.chg {S : Nat → Prop} {w w' : World} {v : Value} {l : List Int} (h : OwnI w v l) (hc : Chg S w w') (hn : ∀ k, v.ownBlock = some k → ¬ S k) : OwnI w' v l := ownsRow_chg h hc hn
theorem OwnI.lt {w : World} {v : Value} {l : List Int} (h : OwnI w v l) : ∀ k, v.ownBlock = some k → k < w.heap.size := ownsRow_lt h
/-- A slice's first cells are these numbers (nil: there are none). -/
def IntsAt (w : World) (a : Option Addr) (l : List Int) : Prop := ∀ i (h : i < l.length), ∃ b off, a = some ⟨b, off, none⟩ ∧ w.cell? ⟨b, off + i, none⟩ = some (ival l[i])
theorem IntsAt.chg {S : Nat → Prop} {w w' : World} {a : Option Addr} {l : List Int} (hb : IntsAt w a l) (h : Chg S w w') (hn : ∀ x, a = some x → ¬ S x.block) : IntsAt w' a l := by
  intro i hi
  obtain ⟨b, off, ha, hc⟩ := hb i hi
  exact ⟨b, off, ha, h.cell hc (show ¬ S b from hn ⟨b, off, none⟩ ha)⟩
theorem OwnI.val {w : World} {v : Value} {l : List Int} (h : OwnI w v l) : ∃ a cap, v = .slice a l.length cap ∧ IntsAt w a l ∧ l.length ≤ cap ∧ l.length ≤ maxLen ∧ (∀ x, a = some x → v.ownBlock = some x.block) := by
  rcases h.2 with ⟨rfl, hn⟩ | ⟨g, cap, cur, rfl, _, hg, hnc, hcm, hcs, htake⟩
  · have hl : l = [] := List.eq_nil_of_length_eq_zero hn
    subst hl
    exact ⟨none, 0, rfl, fun i hi => absurd hi (Nat.not_lt_zero _), Nat.le_refl _, Nat.zero_le _, fun x hx => by cases hx⟩
  · refine ⟨_, cap, rfl, fun i hi => ⟨g, 0, rfl, ?_⟩, hnc, Nat.le_trans hnc hcm, fun x hx => by cases hx; rfl⟩
    rw [Nat.zero_add, cell_of_row w g i cur _ (0, 0) hg]
    rw [Nat.mul_one] at htake
    have h1 : (cur.toList.take l.length)[i]? = (l.map ival)[i]? := by rw [htake]
    rw [List.getElem?_take, if_pos hi, List.getElem?_map, List.getElem?_eq_getElem hi] at h1
    simpa using h1

/-- The order of what is told. -/
def ltT (x y : Tm) : Prop := x.at' < y.at' ∨ (x.at' = y.at' ∧ x.num < y.num)
theorem erase_step {ids : List Int} {t : Tm} {S R : List Tm} (h : List.Perm ids ((t :: S ++ R).map Tm.id)) : List.Perm (ids.erase t.id) ((S ++ R).map Tm.id) := by
  have := h.erase t.id
  rwa [List.cons_append, List.map_cons, List.erase_cons_head] at this
theorem row_le {f : Nat → List Tm} {n j : Nat} (hj : j < n) : (f j).length ≤ (allT f n).length := by
  have := (allT_take (f := f) hj).length_eq
  rw [List.length_append] at this
  omega
/-- The clock of a wheel, read off the world. -/
def clockAt (p : Nat) (w : World) : Nat := match w.cell? ⟨p, 0, none⟩ with | some v => (RowKit.intOf v).toNat | none => 0
theorem Wl.clockAt {w : World} {p : Nat} {s : Wh} {ids : List Int} {added : Nat} {sv : Nat → Value} {mb : Option Nat} (h : Wl w p s ids added sv mb) : clockAt p w = s.now := by
  unfold Go.Proofs.YtdahefphohkhlaaDoor.clockAt
  rw [h.c0]
  simp [RowKit.intOf]
end Go.Proofs.YtdahefphohkhlaaDoor
