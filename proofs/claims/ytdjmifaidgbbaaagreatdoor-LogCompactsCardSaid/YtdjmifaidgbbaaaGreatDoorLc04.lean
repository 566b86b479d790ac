/-
  Blocks known whole; rows of the call's own; cells behind a store. Over any program.
-/
import Derived.Test.YtdjmifaidgbbaaaGreatDoorLc03
set_option linter.unusedSimpArgs false
namespace Go.Proofs.YtdjmifaidgbbaaaGreatDoor
open Go.RowKit

/-- A block that holds just these cells, and may be written. -/
def Box (w : World) (g : Nat) (cs : List Value) (t : TypeId) : Prop := w.heap[g]? = some (.cells cs.toArray t (0, 0))
theorem Box.cell {w : World} {g : Nat} {cs : List Value} {t : TypeId} (h : Box w g cs t) {j : Nat} {u : Value} (hj : cs[j]? = some u) : w.cell? ⟨g, j, none⟩ = some u := by
  rw [cell_of_row w g j cs.toArray t (0, 0) h]
  simpa using hj
theorem Box.free {w : World} {g : Nat} {cs : List Value} {t : TypeId} (h : Box w g cs t) (j : Nat) : w.frozen? ⟨g, j, none⟩ = false := by
  have h' : w.heap[g]? = _ := h
  simp [World.frozen?, h']
theorem Box.chg {S : Nat → Prop} {w w' : World} {g : Nat} {cs : List Value} {t : TypeId} (h : Box w g cs t) (hc : Chg S w w') (hn : ¬ S g) : Box w' g cs t :=
  (hc.block g (Array.getElem?_eq_some_iff.1 h).1 hn).trans h
theorem Box.set {w : World} {g : Nat} {cs : List Value} {t : TypeId} (h : Box w g cs t) (j : Nat) (u : Value) : Box (w.setCell ⟨g, j, none⟩ u) g (cs.set j u) t := by
  have h' : w.heap[g]? = _ := h
  unfold Box
  simp only [World.setCell, Array.getElem?_modify, if_true, h', Option.map_some]
  simp
theorem Box.new (w : World) (cs : List Value) (t : TypeId) : Box (w.alloc (.cells cs.toArray t)) w.heap.size cs t := heap_alloc_new w _

theorem Source.box {P : Program} {w : World} {g size m c : Nat} {cs : List Value} {t : TypeId} (h : Box w g cs t) (hl : cs.length = m * size) (h1 : ∀ u ∈ cs, u.oneCell' = true) : Source P w size (.slice (some ⟨g, 0, none⟩) m c) m cs :=
  Source.slice hl (fun j u hj => by
    have e1 : (⟨g, 0, none⟩ : Addr).add j = ⟨g, j, none⟩ := by unfold Addr.add; split <;> simp_all
    rw [e1]
    exact h.cell hj) h1

theorem ownsRow_form {w : World} {e : TypeId} {size n : Nat} {v : Value} {xs : List Value} (h : w.ownsRow 0 e size v n xs) : ∃ x k c, v = .slice x k c := by
  rcases h.2 with ⟨rfl, _⟩ | ⟨g, cap, cur, rfl, _⟩
  · exact ⟨_, _, _, rfl⟩
  · exact ⟨_, _, _, rfl⟩

theorem cell_set {w : World} {g j k : Nat} {v u : Value} (hj : w.cell? ⟨g, j, none⟩ = some v) : (w.setCell ⟨g, k, none⟩ u).cell? ⟨g, j, none⟩ = some (if k = j then u else v) := by
  unfold World.cell? at hj
  cases hg : w.heap[g]? with
  | none => simp [hg] at hj
  | some o =>
    cases o with
    | cells c e fr =>
      simp only [hg] at hj
      have hlt : j < c.size := by
        simp at hj
        exact (Array.getElem?_eq_some_iff.1 hj).1
      simp only [World.cell?, World.setCell, Array.getElem?_modify, if_true, hg, Option.map_some]
      simp only [Option.isSome_none, Bool.false_eq_true, if_false, Array.getElem?_setIfInBounds]
      by_cases e : k = j
      · subst e; simp [hlt]
      · rw [if_neg e, if_neg e]
        simpa using hj
    | _ => simp [hg] at hj
theorem frozen_set {w : World} {p q : Addr} {u : Value} : (w.setCell p u).frozen? q = w.frozen? q := by
  simp only [World.frozen?, World.setCell, Array.getElem?_modify]
  by_cases e : p.block = q.block
  · rw [if_pos e]
    cases w.heap[q.block]? with
    | none => rfl
    | some o => cases o <;> rfl
  · rw [if_neg e]

def vA : Value → Option Addr | .slice a _ _ => a | _ => none
def vN : Value → Nat | .slice _ n _ => n | _ => 0
def vC : Value → Nat | .slice _ _ c => c | _ => 0
theorem form_eq {v : Value} (h : ∃ x k c, v = .slice x k c) : v = .slice (vA v) (vN v) (vC v) := by
  obtain ⟨x, k, c, rfl⟩ := h
  rfl
theorem length_two {α : Type} {l : List α} (h : l.length = 2) : ∃ a b, l = [a, b] := by
  match l, h with
  | [a, b], _ => exact ⟨a, b, rfl⟩
theorem Ch.if_append_row {P : Program} {o : Oper} {a : Act} {w : World} {N : Value → World → Prop} {y : Nat → Option Bool} (hgd : o.guard = none) (s x : Operand) (t u : TypeId)
    (ho : o.op = .call { callee := .builtin .append, args := #[s, x], argTypes := #[t, u] })
    {e : TypeId} {size bytes : Nat} (hT : SliceT P t e size bytes) (d : TypeDesc) (hu : P.underlying u = some d) (hd : ∀ k, d ≠ .int k)
    (v : Value) (n : Nat) (xs : List Value) (hs : a.eval s = v) (hown : w.ownsRow 0 e size v n xs)
    (xv : Value) (m : Nat) (news : List Value) (hx : a.eval x = xv) (hsrc : Source P w size xv m news)
    (h63 : n + m ≤ maxLen) (hb : (n + m) * bytes ≤ 140737488355328)
    (h : ∀ v' w', w'.ownsRow 0 e size v' (n + m) (xs ++ news) → Grew w w' v v' → N v' w') : if Region.wanted o y = true then Ch.gives P N ((execOp a.eval o).run P w) else N undef w := by
  have hw : Region.wanted o y = true := by unfold Region.wanted; rw [hgd]
  rw [if_pos hw]
  obtain ⟨ht, i, z, hi, hz, hzs, rfl, rfl⟩ := hT
  obtain ⟨v', w', hr, g2, g3, _⟩ := run_append_grew (P := P) w t u o.type e d i z ht hu hd hi hz hzs v n xs hown xv m news hsrc h63 hb
  unfold execOp
  simp only [ho, resolve, invoke, builtin, Sem.run_bind, Sem.run_pure, Result.andThen_ok, List.map_toArray, List.map_cons, List.map_nil, hs, hx, hr]
  exact h v' w' g2 g3
end Go.Proofs.YtdjmifaidgbbaaaGreatDoor

/-
  A slice of the call's own that may have less room than its block (cut by x[:n:n]), or none at all; what an append to it leaves. Over any program.
-/
set_option linter.unusedSimpArgs false
set_option linter.unusedVariables false
namespace Go.Proofs.YtdjmifaidgbbaaaGreatDoor
open Go.RowKit

/-- The slice v holds these cells: n elements, each of so many. -/
def SlcRow (w : World) (e : TypeId) (size : Nat) (v : Value) (n : Nat) (xs : List Value) : Prop :=
  xs.length = n * size ∧ ((v = .slice none 0 0 ∧ n = 0) ∨ (∃ a, v = .slice (some a) 0 0 ∧ n = 0) ∨
    ∃ g cap cur, v = .slice (some ⟨g, 0, none⟩) n cap ∧ w.heap[g]? = some (.cells cur e (0, 0)) ∧ n ≤ cap ∧ cap ≤ maxLen ∧ cap * size ≤ cur.size ∧ cur.toList.take (n * size) = xs)

/-- The block that such a slice may write. -/
def Value.room : Value → Option Nat
  | .slice (some a) _ (c + 1) => some a.block
  | _ => none
def Room (v : Value) : Nat → Prop := fun k => Value.room v = some k

theorem SlcRow.of_own {w : World} {e : TypeId} {size : Nat} {v : Value} {n : Nat} {xs : List Value} (h : w.ownsRow 0 e size v n xs) : SlcRow w e size v n xs := by
  refine ⟨h.1, ?_⟩
  rcases h.2 with h | ⟨g, cap, cur, h1, _, h2, h3, h4, h5, h6⟩
  · exact .inl h
  · exact .inr (.inr ⟨g, cap, cur, h1, h2, h3, h4, by omega, h6⟩)
theorem SlcRow.nil (w : World) (e : TypeId) (size : Nat) : SlcRow w e size (.slice none 0 0) 0 [] := ⟨by simp, .inl ⟨rfl, rfl⟩⟩
theorem SlcRow.zero (w : World) (e : TypeId) (size : Nat) (a : Addr) : SlcRow w e size (.slice (some a) 0 0) 0 [] := ⟨by simp, .inr (.inl ⟨a, rfl, rfl⟩)⟩

/-- The slice's own row stays what it is. -/
theorem SlcRow.chg {S : Nat → Prop} {w w' : World} {e : TypeId} {size : Nat} {v : Value} {n : Nat} {xs : List Value} (h : SlcRow w e size v n xs) (hc : Chg S w w') (hn : ∀ k, Value.room v = some k → ¬ S k) : SlcRow w' e size v n xs := by
  refine ⟨h.1, ?_⟩
  rcases h.2 with h | h | ⟨g, cap, cur, h1, h2, h3, h4, h5, h6⟩
  · exact .inl h
  · exact .inr (.inl h)
  · cases cap with
    | zero =>
      obtain rfl : n = 0 := by omega
      exact .inr (.inl ⟨_, h1, rfl⟩)
    | succ c => exact .inr (.inr ⟨g, c + 1, cur, h1, (hc.block g (by have := (Array.getElem?_eq_some_iff.1 h2).1; exact this) (hn g (by rw [h1]; rfl))).trans h2, h3, h4, h5, h6⟩)
theorem SlcRow.lt {w : World} {e : TypeId} {size : Nat} {v : Value} {n : Nat} {xs : List Value} (h : SlcRow w e size v n xs) : ∀ k, Value.room v = some k → k < w.heap.size := by
  intro k hk
  rcases h.2 with ⟨rfl, _⟩ | ⟨a, rfl, _⟩ | ⟨g, cap, cur, rfl, h2, _⟩
  · cases hk
  · cases hk
  · cases cap with
    | zero => cases hk
    | succ c => obtain rfl : g = k := Option.some.inj hk; exact (Array.getElem?_eq_some_iff.1 h2).1
/-- Its block holds cells of this type. -/
theorem SlcRow.row {w : World} {e : TypeId} {size : Nat} {v : Value} {n : Nat} {xs : List Value} (h : SlcRow w e size v n xs) : ∀ k, Value.room v = some k → ∃ cur, w.heap[k]? = some (.cells cur e (0, 0)) := by
  intro k hk
  rcases h.2 with ⟨rfl, _⟩ | ⟨a, rfl, _⟩ | ⟨g, cap, cur, rfl, h2, _⟩
  · cases hk
  · cases hk
  · cases cap with
    | zero => cases hk
    | succ c => obtain rfl : g = k := Option.some.inj hk; exact ⟨cur, h2⟩
theorem SlcRow.form {w : World} {e : TypeId} {size : Nat} {v : Value} {n : Nat} {xs : List Value} (h : SlcRow w e size v n xs) : ∃ a c, v = .slice a n c ∧ n ≤ c ∧ n ≤ maxLen := by
  rcases h.2 with ⟨rfl, rfl⟩ | ⟨a, rfl, rfl⟩ | ⟨g, cap, cur, rfl, h2, h3, h4, _⟩
  · exact ⟨_, _, rfl, Nat.le_refl _, Nat.zero_le _⟩
  · exact ⟨_, _, rfl, Nat.le_refl _, Nat.zero_le _⟩
  · exact ⟨_, _, rfl, h3, Nat.le_trans h3 h4⟩

/-- What an append leaves: the slice's own block and new ones alone; a new slice has its own block. -/
structure Grewn (w w' : World) (v v' : Value) : Prop where
  chg : Chg (Room v) w w'
  own : ∀ k, Value.room v' = some k → Value.room v = some k ∨ w.heap.size ≤ k

theorem run_append_slc {P : Program} (w : World) (t u ty e : TypeId) (d : TypeDesc) (i : TypeInfo) (z : Value) (ht : P.underlying t = some (.slice e)) (hu : P.underlying u = some d) (hd : ∀ k, d ≠ .int k)
    (hi : P.info? e = some i) (hz : i.zero = some z) (hzs : z.cells.size = i.size) (v : Value) (n : Nat) (xs : List Value) (hown : SlcRow w e i.size v n xs)
    (x : Value) (m : Nat) (news : List Value) (hx : Source P w i.size x m news) (h63 : n + m ≤ maxLen) (hbytes : (n + m) * i.bytes ≤ 140737488355328) :
    ∃ v' w', (Builtin.append_ #[t, u] ty #[v, x]).run P w = .ok v' w' ∧ SlcRow w' e i.size v' (n + m) (xs ++ news) ∧ Grewn w w' v v' := by
  have hlen : (xs ++ news).length = (n + m) * i.size := by rw [List.length_append, hown.1, hx.length, Nat.add_mul]
  have hlx := hx.len
  have hfx := hx.first w (fun _ => rfl)
  have hfd := hx.first w.drew (fun _ => rfl)
  have hsmall : n + m ≤ 9223372036854775807 := by simp only [maxLen] at h63; omega
  -- a new array
  have grown : ∀ (old : Nat), old < n + m →
      SlcRow (w.drew.alloc (.cells (xs.toArray ++ news.toArray ++ Builtin.zeroCells z.cells (grownCap w (n + m) old e - (n + m))) e)) e i.size
        (.slice (some ⟨w.heap.size, 0, none⟩) (n + m) (grownCap w (n + m) old e)) (n + m) (xs ++ news) ∧
      Grewn w (w.drew.alloc (.cells (xs.toArray ++ news.toArray ++ Builtin.zeroCells z.cells (grownCap w (n + m) old e - (n + m))) e)) v (.slice (some ⟨w.heap.size, 0, none⟩) (n + m) (grownCap w (n + m) old e)) := by
    intro old ho
    have hge := grownCap_ge w (n + m) old e
    have hcm : grownCap w (n + m) old e ≤ maxLen := grownCap_le_maxLen w (n + m) old e h63
    refine ⟨⟨hlen, .inr (.inr ⟨w.heap.size, _, _, rfl, heap_alloc_new w.drew _, hge, hcm, ?_, ?_⟩)⟩, ⟨(Chg.refl _ _).drew.alloc _, fun k hk => .inr ?_⟩⟩
    · simp only [Array.size_append, List.size_toArray, size_zeroCells, hzs, hown.1, hx.length, ← Nat.add_mul]
      refine Nat.le_of_eq ?_
      congr 1
      omega
    · simp only [Array.toList_append, List.append_assoc]
      rw [← List.append_assoc, ← hlen]
      exact List.take_left
    · cases hc : grownCap w (n + m) old e with
      | zero => rw [hc] at hk; cases hk
      | succ c =>
        rw [hc] at hk
        have : w.heap.size = k := Option.some.inj hk
        omega
  rcases hown.2 with ⟨rfl, rfl⟩ | ⟨a, rfl, rfl⟩ | ⟨g, cap, cur, rfl, hg, hnc, hcm, hcs, htake⟩
  · have hxs : xs = [] := List.eq_nil_of_length_eq_zero (by simpa using hown.1)
    subst hxs
    by_cases hm : m = 0
    · subst hm
      have hn : news = [] := List.eq_nil_of_length_eq_zero (by simpa using hx.length)
      subst hn
      refine ⟨.slice none 0 0, w, ?_, SlcRow.nil w e i.size, ⟨Chg.refl _ _, fun k hk => .inl hk⟩⟩
      simp [Builtin.append_, run_underlying ht, run_underlying hu, sizeOf, typeInfo, hi, hlx, hfx]
    · have h63' : ¬ (9223372036854775807 < (m : Int)) := by omega
      have h48' : ¬ (281474976710656 < Builtin.nextslicecap m 0 * i.bytes) := by
        rw [nextslicecap_zero (by omega)]; simp only [Nat.zero_add] at hbytes; omega
      have hgr := grown 0 (by omega)
      simp only [Nat.zero_add, List.nil_append, Array.empty_append] at hgr ⊢
      refine ⟨_, _, ?_, hgr.1, hgr.2⟩
      simp [Builtin.append_, run_underlying ht, run_underlying hu, sizeOf, typeInfo, zeroValue, hi, hz, hlx, hfd, hm, h63', h48', Question.forced, run_firstCells_none, newRow, grownCap]
  · have hxs : xs = [] := List.eq_nil_of_length_eq_zero (by simpa using hown.1)
    subst hxs
    have hfo := run_firstCells_some (P := P) w.drew i.size 0 a 0 0 [] (by simp) (by simp)
    by_cases hm : m = 0
    · subst hm
      have hn : news = [] := List.eq_nil_of_length_eq_zero (by simpa using hx.length)
      subst hn
      refine ⟨.slice (some a) 0 0, w, ?_, SlcRow.zero w e i.size a, ⟨Chg.refl _ _, fun k hk => .inl hk⟩⟩
      simp [Builtin.append_, run_underlying ht, run_underlying hu, sizeOf, typeInfo, hi, hlx, hfx, storeCells, Result.andThen]
    · have h63' : ¬ (9223372036854775807 < (m : Int)) := by omega
      have h48' : ¬ (281474976710656 < Builtin.nextslicecap m 0 * i.bytes) := by
        rw [nextslicecap_zero (by omega)]; simp only [Nat.zero_add] at hbytes; omega
      have hgr := grown 0 (by omega)
      simp only [Nat.zero_add, List.nil_append, Array.empty_append] at hgr ⊢
      refine ⟨_, _, ?_, hgr.1, hgr.2⟩
      simp [Builtin.append_, run_underlying ht, run_underlying hu, sizeOf, typeInfo, zeroValue, hi, hz, hlx, hfd, hfo, hm, h63', h48', Question.forced, newRow, grownCap]
  · by_cases hroom : n + m ≤ cap
    · have hfit : n * i.size + news.length ≤ cur.size := by rw [hx.length, ← Nat.add_mul]; exact Nat.le_trans (Nat.mul_le_mul_right _ hroom) hcs
      have hst := run_storeCells_at P g (n * i.size) e news 0 cur w hg (by simpa using hfit) hx.one
      simp only [Nat.add_zero] at hst
      refine ⟨.slice (some ⟨g, 0, none⟩) (n + m) cap, w.setRow g (cur.toList.take (n * i.size) ++ news ++ cur.toList.drop (n * i.size + news.length)).toArray, ?_,
        ⟨hlen, .inr (.inr ⟨g, cap, _, rfl, setRow_heap w g cur _ e _ hg, hroom, hcm, ?_, ?_⟩)⟩, ?_⟩
      · simp [Builtin.append_, run_underlying ht, run_underlying hu, sizeOf, typeInfo, hi, hlx, hroom, hfx, Addr.add_lit, hst]
      · simp only [List.size_toArray, List.length_append, List.length_take, List.length_drop, Array.length_toList]
        omega
      · rw [htake, ← hlen]
        exact List.take_left
      · cases cap with
        | zero =>
          have hm : m = 0 := by omega
          obtain rfl : n = 0 := by omega
          have hn : news = [] := List.eq_nil_of_length_eq_zero (by rw [hx.length, hm, Nat.zero_mul])
          subst hn
          have e1 : w.setRow g (cur.toList.take (0 * i.size) ++ [] ++ cur.toList.drop (0 * i.size + ([] : List Value).length)).toArray = w := by
            simp only [List.append_nil, List.length_nil, Nat.add_zero, List.take_append_drop, Array.toArray_toList]
            exact setRow_self w g cur e (0, 0) hg
          rw [e1]
          exact ⟨Chg.refl _ _, fun k hk => .inl hk⟩
        | succ c => exact ⟨⟨rfl, rfl, rfl, by simp [World.setRow], fun k _ hk => setRow_other w g k _ (fun e => hk (by simp [Room, Value.room, e]))⟩, fun k hk => .inl hk⟩
    · have holds : ∀ j y, xs[j]? = some y → w.cell? ((⟨g, 0, none⟩ : Addr).add j) = some y := by
        intro j y hj
        have e1 : (⟨g, 0, none⟩ : Addr).add j = ⟨g, j, none⟩ := by unfold Addr.add; split <;> simp_all
        rw [e1, cell_of_row w g j cur e (0, 0) hg]
        rw [← htake, List.getElem?_take] at hj
        split at hj
        · simpa using hj
        · cases hj
      have hfo := run_firstCells_some (P := P) w.drew i.size n ⟨g, 0, none⟩ n cap xs hown.1 (by simpa using holds)
      have h63' : ¬ (9223372036854775807 < ((n : Int) + (m : Int))) := by omega
      have h48' : ¬ (281474976710656 < Builtin.nextslicecap (n + m) cap * i.bytes) := by
        have := growslice_fits (need := n + m) (old := cap) (by omega) hbytes
        omega
      have hgr := grown cap (by omega)
      refine ⟨_, _, ?_, hgr.1, hgr.2⟩
      simp [Builtin.append_, run_underlying ht, run_underlying hu, sizeOf, typeInfo, zeroValue, hi, hz, hlx, hfd, hfo, hroom, h63', h48', Question.forced, newRow, grownCap]
      congr 2
      apply Array.ext'
      simp [List.append_assoc]
end Go.Proofs.YtdjmifaidgbbaaaGreatDoor
