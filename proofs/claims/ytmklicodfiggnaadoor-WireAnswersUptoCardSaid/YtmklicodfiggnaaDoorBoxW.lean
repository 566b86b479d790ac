/-
  Blocks known whole; slices of records of the call's own; four. (For a seat that has no record.Encode: what XBatchW, XOwnL, XRefTextW hold for the others.)
-/
import Derived.Test.YtmklicodfiggnaaDoorNumW
import Derived.Test.YtmklicodfiggnaaDoorRecL
import Derived.Test.YtmklicodfiggnaaDoorFourW
namespace Go.Proofs.YtmklicodfiggnaaDoor
open Go.RowKit

/-- The facts on slices of records. -/
theorem recsT : SliceT Tryd.prog 22 99 6 64 :=
  ⟨Tryd.underlying22, by
    have h : (Tryd.prog.info? 99).map (fun i => (i.zero, i.size, i.bytes)) = some (some (.agg #[.int .i64 0, .int .i64 0, .bool false, .string ⟨#[]⟩, .bool false, .string ⟨#[]⟩]), 6, 64) := by kernel_rfl
    obtain ⟨i, hi, hz, h1, h2⟩ := info_parts h
    exact ⟨i, _, hi, hz, rfl, h1, h2⟩⟩

/-- A block that holds just these cells, and may be written. -/
def Box (w : World) (g : Nat) (cs : List Value) (t : TypeId) : Prop := w.heap[g]? = some (.cells cs.toArray t (0, 0))
theorem Box.cell {w : World} {g : Nat} {cs : List Value} {t : TypeId} (h : Box w g cs t) {j : Nat} {u : Value} (hj : cs[j]? = some u) : w.cell? ⟨g, j, none⟩ = some u := by
  rw [cell_of_row w g j cs.toArray t (0, 0) h]
  simpa using hj
theorem Box.free {w : World} {g : Nat} {cs : List Value} {t : TypeId} (h : Box w g cs t) (j : Nat) : w.frozen? ⟨g, j, none⟩ = false := by
  have h' : w.heap[g]? = _ := h
  simp [World.frozen?, h']
theorem Box.chg {S : Nat → Prop} {w w' : World} {g : Nat} {cs : List Value} {t : TypeId} (h : Box w g cs t) (hc : Chg S w w') (hn : ¬ S g) : Box w' g cs t :=
  (hc.block g (Array.getElem?_eq_some_iff.1 h).1 hn).trans h
theorem Box.set {w : World} {g : Nat} {cs : List Value} {t : TypeId} (h : Box w g cs t) (j : Nat) (u : Value) : Box (w.setCell ⟨g, j, none⟩ u) g (cs.set j u) t := by
  have h' : w.heap[g]? = _ := h
  unfold Box
  simp only [World.setCell, Array.getElem?_modify, if_true, h', Option.map_some]
  simp
theorem Box.new (w : World) (cs : List Value) (t : TypeId) : Box (w.alloc (.cells cs.toArray t)) w.heap.size cs t := heap_alloc_new w _

theorem Source.box {P : Program} {w : World} {g size m c : Nat} {cs : List Value} {t : TypeId} (h : Box w g cs t) (hl : cs.length = m * size) (h1 : ∀ u ∈ cs, u.oneCell' = true) : Source P w size (.slice (some ⟨g, 0, none⟩) m c) m cs :=
  Source.slice hl (fun j u hj => by
    have e1 : (⟨g, 0, none⟩ : Addr).add j = ⟨g, j, none⟩ := by unfold Addr.add; split <;> simp_all
    rw [e1]
    exact h.cell hj) h1
theorem Rec.cells_one (r : Rec) : ∀ u ∈ r.cells, u.oneCell' = true := by
  intro u hu
  simp only [Rec.cells, List.mem_cons, List.not_mem_nil, or_false] at hu
  rcases hu with rfl | rfl | rfl | rfl | rfl | rfl <;> rfl

theorem ownsRow_form {w : World} {e : TypeId} {size n : Nat} {v : Value} {xs : List Value} (h : w.ownsRow 0 e size v n xs) : ∃ x k c, v = .slice x k c := by
  rcases h.2 with ⟨rfl, _⟩ | ⟨g, cap, cur, rfl, _⟩
  · exact ⟨_, _, _, rfl⟩
  · exact ⟨_, _, _, rfl⟩

/-- A slice of records that is the call's own. -/
def OwnR (e : TypeId) (w : World) (v : Value) (rs : List Rec) : Prop := w.ownsRow 0 e 6 v rs.length (rs.flatMap Rec.cells)
theorem OwnR.nil (e : TypeId) (w : World) : OwnR e w (.slice none 0 0) [] := World.ownsRow_nil w 0 e 6

theorem cells_get (rs : List Rec) : ∀ (i : Nat) (hi : i < rs.length) (j : Nat) (u : Value), rs[i].cells[j]? = some u → (rs.flatMap Rec.cells)[i * 6 + j]? = some u := by
  induction rs with
  | nil => intro i hi; simp at hi
  | cons r rs ih =>
    intro i hi j u hj
    rw [List.flatMap_cons]
    cases i with
    | zero =>
      have hj6 : j < r.cells.length := by
        have h : r.cells[j]? = some u := hj
        exact (List.getElem?_eq_some_iff.1 h).1
      rw [Nat.zero_mul, Nat.zero_add, List.getElem?_append_left hj6]
      exact hj
    | succ i =>
      have h6 : r.cells.length = 6 := rfl
      rw [List.getElem?_append_right (by omega), show (i + 1) * 6 + j - r.cells.length = i * 6 + j by omega]
      exact ih i (by simpa using hi) j u hj

theorem OwnR.recs {e : TypeId} {w : World} {v : Value} {rs : List Rec} (h : OwnR e w v rs) : ∃ a cap, v = .slice a rs.length cap ∧ RecsAt w a rs ∧ rs.length ≤ cap := by
  rcases h.2 with ⟨rfl, hn⟩ | ⟨g, cap, cur, rfl, _, _, hle, _⟩
  · refine ⟨none, 0, by rw [hn], fun i hi => by omega, by omega⟩
  · refine ⟨some ⟨g, 0, none⟩, cap, rfl, fun i hi => ⟨g, 0, rfl, fun j u hj => ?_⟩, hle⟩
    have := World.ownsRow.cells h (g := g) rfl (i * 6 + j) u (cells_get rs i hi j u hj)
    have e1 : (⟨g, 0, none⟩ : Addr).add (i * 6 + j) = ⟨g, i * 6 + j, none⟩ := by unfold Addr.add; split <;> simp_all
    rw [e1] at this
    rw [Nat.zero_add]
    exact this

theorem OwnR.le {e : TypeId} {w : World} {v : Value} {rs : List Rec} (h : OwnR e w v rs) : rs.length ≤ maxLen := by
  rcases h.2 with ⟨_, hn⟩ | ⟨g, cap, cur, _, _, _, hle, hm, _⟩
  · omega
  · exact Nat.le_trans hle hm

theorem OwnB.room {e : TypeId} {w : World} {v : Value} {l : List UInt8} (h : OwnB e w v l) : ∃ a cap, v = .slice a l.length cap ∧ BytesAt w a l ∧ l.length ≤ cap ∧ cap ≤ maxLen := by
  obtain ⟨a, cap, hv, hb, _⟩ := h.val
  rcases h.2 with ⟨hn, hz⟩ | ⟨g, cap', cur, hv', _, _, hle, hm, _⟩
  · rw [hn] at hv
    simp only [Value.slice.injEq] at hv
    refine ⟨none, 0, by rw [hn, ← hv.2.1], fun i hi => by omega, by omega, Nat.zero_le _⟩
  · exact ⟨_, _, hv', by rw [hv'] at hv; simp only [Value.slice.injEq] at hv; rw [hv.1]; exact hb, hle, hm⟩

/-- What Encode writes is read again. -/
theorem length_three {α : Type} {l : List α} (h : l.length = 3) : ∃ a b c, l = [a, b, c] := by
  rcases l with _ | ⟨a, _ | ⟨b, _ | ⟨c, _ | ⟨d, t⟩⟩⟩⟩ <;> simp at h
  exact ⟨a, b, c, rfl⟩
theorem length_four {α : Type} {l : List α} (h : l.length = 4) : ∃ a b c d, l = [a, b, c, d] := by
  rcases l with _ | ⟨a, l⟩
  · simp at h
  · obtain ⟨b, c, d, rfl⟩ := length_three (l := l) (by simpa using h)
    exact ⟨a, b, c, d, rfl⟩

set_option maxRecDepth 100000 in
theorem refFour_any (n : Nat) (w : World) (hn : n < 4294967296) :
    Calls Tryd.prog 49 #[.int .i64 n] w fun e w' => ∃ v', e = .returned v' ∧ FreshB w w' v' (four n) := by
  go_enter Tryd.func49, Tryd.ntmps49
  go_wp2
  go_ret
  refine ⟨_, rfl, ?_, (Chg.refl _ _).alloc _, fun k hk => by simp [Value.ownBlock] at hk; omega⟩
  have e : (#[.int .u8 ((n : Int) / 16777216), .int .u8 ((n : Int) / 65536 % 256), .int .u8 ((n : Int) / 256 % 256), .int .u8 ((n : Int) % 256)] : Array Value) = ((four n).map bval).toArray := by
    have h : ∀ m : Nat, bval (UInt8.ofNat m) = .int .u8 ((m : Int) % 256) := by
      intro m
      unfold bval
      rw [UInt8.toNat_ofNat']
      congr 1
    simp only [four, fourAt, List.map_cons, List.map_nil, h]
    have e0 : (n : Int) / 16777216 = ((n / 2 ^ (8 * (3 - 0)) : Nat) : Int) % 256 := by simp; omega
    have e1 : (n : Int) / 65536 % 256 = ((n / 2 ^ (8 * (3 - 1)) : Nat) : Int) % 256 := by simp
    have e2 : (n : Int) / 256 % 256 = ((n / 2 ^ (8 * (3 - 2)) : Nat) : Int) % 256 := by simp
    have e3 : (n : Int) % 256 = ((n / 2 ^ (8 * (3 - 3)) : Nat) : Int) % 256 := by simp
    rw [e0, e1, e2, e3]
  rw [e]
  exact OwnB.new (l := four n) (by simp [four, maxLen])
end Go.Proofs.YtmklicodfiggnaaDoor
