/-
  Slices of topics that are the call's own; an append of whole elements inside a drawn region.
-/
import Derived.Test.YtmklicodfiggnaaDoorToldL
import Derived.Test.YtmklicodfiggnaaDoorAppC
set_option linter.unusedSimpArgs false
namespace Go.Proofs.YtmklicodfiggnaaDoor
open Go.RowKit

/-- The facts on slices of topics. -/
theorem topsT : SliceT Tryd.prog 35 74 3 32 :=
  ⟨Tryd.underlying35, by
    have h : (Tryd.prog.info? 74).map (fun i => (i.zero, i.size, i.bytes)) = some (some (.agg #[.string ⟨#[]⟩, .int .i64 0, .bool false]), 3, 32) := by kernel_rfl
    obtain ⟨i, hi, hz, h1, h2⟩ := info_parts h
    exact ⟨i, _, hi, hz, rfl, h1, h2⟩⟩
/-- A slice of topics that is the call's own. -/
def OwnT (e : TypeId) (w : World) (v : Value) (ts : List Tp) : Prop := w.ownsRow 0 e 3 v ts.length (ts.flatMap Tp.cells)
theorem OwnT.nil (e : TypeId) (w : World) : OwnT e w (.slice none 0 0) [] := World.ownsRow_nil w 0 e 3
theorem Tp.cells_one (r : Tp) : ∀ u ∈ r.cells, u.oneCell' = true := by
  intro u hu
  simp only [Tp.cells, List.mem_cons, List.not_mem_nil, or_false] at hu
  rcases hu with rfl | rfl | rfl <;> rfl
theorem tcells_get (rs : List Tp) : ∀ (i : Nat) (hi : i < rs.length) (j : Nat) (u : Value), rs[i].cells[j]? = some u → (rs.flatMap Tp.cells)[i * 3 + j]? = some u := by
  induction rs with
  | nil => intro i hi; simp at hi
  | cons r rs ih =>
    intro i hi j u hj
    rw [List.flatMap_cons]
    cases i with
    | zero =>
      have hl : j < r.cells.length := (List.getElem?_eq_some_iff.1 hj).1
      rw [List.getElem?_append_left (by omega)]
      simpa using hj
    | succ i =>
      have hlen : r.cells.length = 3 := rfl
      rw [List.getElem?_append_right (by rw [hlen]; omega), hlen, show (i + 1) * 3 + j - 3 = i * 3 + j by omega]
      exact ih i (by simpa using hi) j u (by simpa using hj)
theorem OwnT.tops {e : TypeId} {w : World} {v : Value} {rs : List Tp} (h : OwnT e w v rs) : ∃ a cap, v = .slice a rs.length cap ∧ TopsAt w a rs ∧ rs.length ≤ cap := by
  rcases h.2 with ⟨rfl, hn⟩ | ⟨g, cap, cur, rfl, _, _, hle, _⟩
  · refine ⟨none, 0, by rw [hn], fun i hi => by omega, by omega⟩
  · refine ⟨some ⟨g, 0, none⟩, cap, rfl, fun i hi => ⟨g, 0, rfl, fun j u hj => ?_⟩, hle⟩
    have := World.ownsRow.cells h (g := g) rfl (i * 3 + j) u (tcells_get rs i hi j u hj)
    have e1 : (⟨g, 0, none⟩ : Addr).add (i * 3 + j) = ⟨g, i * 3 + j, none⟩ := by unfold Addr.add; split <;> simp_all
    rw [e1] at this
    rw [Nat.zero_add]
    exact this
theorem OwnT.le {e : TypeId} {w : World} {v : Value} {rs : List Tp} (h : OwnT e w v rs) : rs.length ≤ maxLen := by
  rcases h.2 with ⟨_, hn⟩ | ⟨g, cap, cur, _, _, _, hle, hm, _⟩
  · omega
  · exact Nat.le_trans hle hm

theorem length_five {α : Type} {l : List α} (h : l.length = 5) : ∃ a b c d e, l = [a, b, c, d, e] := by
  rcases l with _ | ⟨a, _ | ⟨b, _ | ⟨c, _ | ⟨d, _ | ⟨e, _ | ⟨f, t⟩⟩⟩⟩⟩⟩ <;> simp at h
  exact ⟨a, b, c, d, e, rfl⟩
theorem Ch.if_append_row {P : Program} {o : Oper} {a : Act} {w : World} {N : Value → World → Prop} {y : Nat → Option Bool} (hgd : o.guard = none) (s x : Operand) (t u : TypeId)
    (ho : o.op = .call { callee := .builtin .append, args := #[s, x], argTypes := #[t, u] })
    {e : TypeId} {size bytes : Nat} (hT : SliceT P t e size bytes) (d : TypeDesc) (hu : P.underlying u = some d) (hd : ∀ k, d ≠ .int k)
    (v : Value) (n : Nat) (xs : List Value) (hs : a.eval s = v) (hown : w.ownsRow 0 e size v n xs)
    (xv : Value) (m : Nat) (news : List Value) (hx : a.eval x = xv) (hsrc : Source P w size xv m news)
    (h63 : n + m ≤ maxLen) (hb : (n + m) * bytes ≤ 140737488355328)
    (h : ∀ v' w', w'.ownsRow 0 e size v' (n + m) (xs ++ news) → Grew w w' v v' → N v' w') : if Region.wanted o y = true then Ch.gives P N ((execOp a.eval o).run P w) else N undef w := by
  have hw : Region.wanted o y = true := by unfold Region.wanted; rw [hgd]
  rw [if_pos hw]
  obtain ⟨ht, i, z, hi, hz, hzs, rfl, rfl⟩ := hT
  obtain ⟨v', w', hr, g2, g3, _⟩ := run_append_grew (P := P) w t u o.type e d i z ht hu hd hi hz hzs v n xs hown xv m news hsrc h63 hb
  unfold execOp
  simp only [ho, resolve, invoke, builtin, Sem.run_bind, Sem.run_pure, Result.andThen_ok, List.map_toArray, List.map_cons, List.map_nil, hs, hx, hr]
  exact h v' w' g2 g3
end Go.Proofs.YtmklicodfiggnaaDoor
