/-
  A wheel in memory: its cells, its rows, each the call's own and none another's, and the map of its ids.
-/
import Derived.Test.YtdahefphohkhlaaDoorBoxG
import Derived.Test.YtdahefphohkhlaaDoorRows
import Derived.Test.YtdahefphohkhlaaDoorWhL
import Derived.Maps.OwnSet
set_option linter.unusedSimpArgs false
namespace Go.Proofs.YtdahefphohkhlaaDoor
open Go.RowKit Go.Maps

def Tm.cells (t : Tm) : List Value := [.int .i64 (t.at' : Nat), .int .i64 t.id, .int .i64 (t.num : Nat)]
theorem Tm.cells_one (t : Tm) : ∀ u ∈ t.cells, u.oneCell' = true := by
  intro u hu
  simp only [Tm.cells, List.mem_cons, List.not_mem_nil, or_false] at hu
  rcases hu with rfl | rfl | rfl <;> rfl
/-- The facts on slices of timers. -/
theorem tmsT : SliceT Tryd.prog 23 51 3 24 :=
  ⟨Tryd.underlying23, by
    have h : (Tryd.prog.info? 51).map (fun i => (i.zero, i.size, i.bytes)) = some (some (.agg #[.int .i64 0, .int .i64 0, .int .i64 0]), 3, 24) := by kernel_rfl
    obtain ⟨i, hi, hz, h1, h2⟩ := info_parts h
    exact ⟨i, _, hi, hz, rfl, h1, h2⟩⟩
/-- A slice of timers that is the call's own. -/
def OwnTm (w : World) (v : Value) (ts : List Tm) : Prop := w.ownsRow 0 51 3 v ts.length (ts.flatMap Tm.cells)
theorem OwnTm.nil (w : World) : OwnTm w (.slice none 0 0) [] := World.ownsRow_nil w 0 _ 3
theorem OwnTm.chg {S : Nat → Prop} {w w' : World} {v : Value} {ts : List Tm} (h : OwnTm w v ts) (hc : Chg S w w') (hn : ∀ k, v.ownBlock = some k → ¬ S k) : OwnTm w' v ts := ownsRow_chg h hc hn
/-- A slice's first cells are these timers (nil: there are none). -/
def TmsAt (w : World) (a : Option Addr) (ts : List Tm) : Prop :=
  ∀ i (h : i < ts.length), ∃ b off, a = some ⟨b, off, none⟩ ∧ ∀ j u, ts[i].cells[j]? = some u → w.cell? ⟨b, off + i * 3 + j, none⟩ = some u
theorem TmsAt.chg {S : Nat → Prop} {w w' : World} {a : Option Addr} {ts : List Tm} (hb : TmsAt w a ts) (h : Chg S w w') (hn : ∀ x, a = some x → ¬ S x.block) : TmsAt w' a ts := by
  intro i hi
  obtain ⟨b, off, ha, hc⟩ := hb i hi
  exact ⟨b, off, ha, fun j u hj => h.cell (hc j u hj) (show ¬ S b from hn ⟨b, off, none⟩ ha)⟩
theorem tmcells_get (rs : List Tm) : ∀ (i : Nat) (hi : i < rs.length) (j : Nat) (u : Value), rs[i].cells[j]? = some u → (rs.flatMap Tm.cells)[i * 3 + j]? = some u := by
  induction rs with
  | nil => intro i hi; simp at hi
  | cons r rs ih =>
    intro i hi j u hj
    rw [List.flatMap_cons]
    cases i with
    | zero =>
      have hl : j < r.cells.length := (List.getElem?_eq_some_iff.1 hj).1
      rw [List.getElem?_append_left (by omega)]
      simpa using hj
    | succ i =>
      have hlen : r.cells.length = 3 := rfl
      rw [List.getElem?_append_right (by rw [hlen]; omega), hlen, show (i + 1) * 3 + j - 3 = i * 3 + j by omega]
      exact ih i (by simpa using hi) j u (by simpa using hj)
theorem OwnTm.rows {w : World} {v : Value} {rs : List Tm} (h : OwnTm w v rs) : ∃ a cap, v = .slice a rs.length cap ∧ TmsAt w a rs ∧ rs.length ≤ cap ∧ (∀ x, a = some x → v.ownBlock = some x.block) := by
  rcases h.2 with ⟨rfl, hn⟩ | ⟨g, cap, cur, rfl, _, _, hle, _⟩
  · refine ⟨none, 0, by rw [hn], fun i hi => by omega, by omega, fun x hx => by cases hx⟩
  · refine ⟨some ⟨g, 0, none⟩, cap, rfl, fun i hi => ⟨g, 0, rfl, fun j u hj => ?_⟩, hle, fun x hx => by cases hx; rfl⟩
    have := World.ownsRow.cells h (g := g) rfl (i * 3 + j) u (tmcells_get rs i hi j u hj)
    have e1 : (⟨g, 0, none⟩ : Addr).add (i * 3 + j) = ⟨g, i * 3 + j, none⟩ := by unfold Addr.add; split <;> simp_all
    rw [e1] at this
    rw [Nat.zero_add]
    exact this
theorem OwnTm.le {w : World} {v : Value} {rs : List Tm} (h : OwnTm w v rs) : rs.length ≤ maxLen := by
  rcases h.2 with ⟨_, hn⟩ | ⟨g, cap, cur, _, _, _, hle, hm, _⟩
  · omega
  · exact Nat.le_trans hle hm
theorem OwnTm.lt {w : World} {v : Value} {rs : List Tm} (h : OwnTm w v rs) : ∀ k, v.ownBlock = some k → k < w.heap.size := ownsRow_lt h

/-! ### the map of ids -/
theorem keyed3 : Keyed Tryd.prog 3 := int_keyed Tryd.underlying3
theorem zeroBool (w : World) : (zeroValue 4).run Tryd.prog w = .ok (.bool false) w := by kernel_rfl
abbrev DU := DataW Unit
/-- The map's keys are just these, each with the element true. -/
def IdsAt (w : World) (mb : Option Nat) (ids : List Int) : Prop :=
  ids.Nodup ∧ ((mb = none ∧ ids = []) ∨ ∃ (b : Nat) (D : DU), mb = some b ∧ w.ownsMap Tryd.prog 3 (plainElem Tryd.prog 4) b ids.length D ∧ Maps.size D = ids.length ∧
    ∀ x : Int, (Lit.int .i64 x).wf = true → D.atKey (.int .i64 x) (.lit (.bool false)) = .lit (.bool (decide (x ∈ ids))) ∧ Maps.has D (.int .i64 x) = decide (x ∈ ids))
theorem IdsAt.none (w : World) : IdsAt w .none [] := ⟨List.nodup_nil, .inl ⟨rfl, rfl⟩⟩
theorem ownsMap_grown {S : Nat → Prop} {w w' : World} {P : Program} {k : TypeId} {R : Value → Option (DU × List MemPlace)} {b n : Nat} {D : DU} (h : w.ownsMap P k R b n D) (hc : Chg S w w') (hn : ¬ S b) : w'.ownsMap P k R b n D := by
  have hlt := h.lt
  obtain ⟨es, clock, hb, F, hs, hD⟩ := h
  exact ⟨es, clock, (hc.block b hlt hn).trans hb, F, hs, hD⟩
theorem IdsAt.chg {S : Nat → Prop} {w w' : World} {mb : Option Nat} {ids : List Int} (h : IdsAt w mb ids) (hc : Chg S w w') (hn : ∀ b, mb = some b → ¬ S b) : IdsAt w' mb ids := by
  obtain ⟨hnd, h | ⟨b, D, rfl, ho, rest⟩⟩ := h
  · exact ⟨hnd, .inl h⟩
  · exact ⟨hnd, .inr ⟨b, D, rfl, ownsMap_grown ho hc (hn b rfl), rest⟩⟩
theorem IdsAt.lt {w : World} {mb : Option Nat} {ids : List Int} (h : IdsAt w mb ids) : ∀ b, mb = some b → b < w.heap.size := by
  obtain ⟨_, ⟨rfl, _⟩ | ⟨b, D, rfl, ho, _⟩⟩ := h
  · intro b hb; cases hb
  · intro b' hb; cases hb; exact ho.lt
/-- The map's block is no row. -/
theorem IdsAt.ne_row {w : World} {mb : Option Nat} {ids : List Int} (h : IdsAt w mb ids) {g : Nat} {cs : Array Value} {e : TypeId} {fr : Nat × Nat} (hg : w.heap[g]? = some (.cells cs e fr)) : mb ≠ some g := by
  obtain ⟨_, ⟨rfl, _⟩ | ⟨b, D, rfl, ho, _⟩⟩ := h
  · simp
  · intro e1
    cases e1
    obtain ⟨es, clock, hb, _⟩ := ho
    rw [hg] at hb; cases hb
theorem IdsAt.look {w : World} {mb : Option Nat} {ids : List Int} (h : IdsAt w mb ids) {x : Int} (hx : (Lit.int .i64 x).wf = true) :
    (Instr.lookup 26 (.map mb) (.int .i64 x) false).run Tryd.prog w = .ok (.bool (decide (x ∈ ids))) w := by
  have hkey : keyOf Tryd.prog 3 (.int .i64 x) = some (.int .i64 x) := keyOf_int_mk Tryd.underlying3 hx
  obtain ⟨_, ⟨rfl, rfl⟩ | ⟨b, D, rfl, ho, _, hD⟩⟩ := h
  · have := Maps.look_nil (P := Tryd.prog) (w := w) (t := 26) (e := 4) false keyed3 Tryd.underlying26 (zeroBool w) hkey
    simpa using this
  · obtain ⟨v, ps, hrun, hv⟩ := ho.lookup keyed3 (t := 26) (e := 4) Tryd.underlying26 (zeroBool w) (plainElem_bool Tryd.underlying4 false) hkey
    rw [(hD x hx).1] at hv
    rw [hrun]
    unfold plainElem at hv
    rw [show Tryd.prog.underlying 4 = some .bool from Tryd.underlying4] at hv
    cases v <;> simp at hv
    rw [hv.1]
theorem IdsAt.len {w : World} {mb : Option Nat} {ids : List Int} (h : IdsAt w mb ids) (ty : TypeId) : (Builtin.len_ #[26] ty #[.map mb]).run Tryd.prog w = .ok (.int .i64 (ids.length : Nat)) w := by
  obtain ⟨_, ⟨rfl, rfl⟩ | ⟨b, D, rfl, ho, hs, _⟩⟩ := h
  · exact Maps.len_nil Tryd.underlying26 ty
  · rw [← hs]; exact ho.len Tryd.underlying26 ty
theorem IdsAt.made (w : World) : IdsAt (w.alloc (.map #[] 0)) (some w.heap.size) [] :=
  ⟨List.nodup_nil, .inr ⟨_, _, rfl, World.ownsMap_made _ _ _ _, rfl, fun _ _ => ⟨rfl, rfl⟩⟩⟩
theorem mapTurned_chg {w w' : World} {b : Nat} (h : w.mapTurned w' b) : Chg (fun i => i = b) w w' := by
  have g := h.grown
  exact ⟨g.os, g.tape, g.output, g.size, fun k hk hn => g.block k hk (fun e => hn (Option.some.inj e))⟩
theorem ownsMap_tight {w : World} {P : Program} {k : TypeId} {R : Value → Option (DU × List MemPlace)} {b n : Nat} {D : DU} (h : w.ownsMap P k R b n D) : w.ownsMap P k R b (Maps.size D) D := by
  obtain ⟨es, clock, hb, F, hs, rfl⟩ := h
  exact ⟨es, clock, hb, F, by simp [Maps.size, length_sorted], rfl⟩
theorem keyLit (x : Int) : WideAt.IsKeyLit (.int .i64 x) := trivial
theorem lit_ne {x y : Int} (h : x ≠ y) : (Lit.int .i64 x) ≠ .int .i64 y := fun e => h (by cases e; rfl)
theorem IdsAt.perm {w : World} {mb : Option Nat} {ids ids' : List Int} (h : IdsAt w mb ids) (hp : List.Perm ids ids') : IdsAt w mb ids' := by
  obtain ⟨hnd, ⟨rfl, rfl⟩ | ⟨b, D, rfl, ho, hs, hD⟩⟩ := h
  · rw [List.nil_perm.1 hp]; exact IdsAt.none w
  · refine ⟨hp.nodup_iff.1 hnd, .inr ⟨b, D, rfl, ?_, by rw [hs, hp.length_eq], fun x hx => ?_⟩⟩
    · rw [← hp.length_eq]; exact ho
    · have := hD x hx
      simp only [hp.mem_iff] at this
      exact this
theorem wpList_ids_store {w : World} {ops : Array Oper} {rest : List Oper} {o : Oper} {a : Act} {Q : Exit → Act → World → Prop} (hg : o.guard = none) (m x v : Operand) (hop : o.op = Op.mapUpdate 26 m x v)
    (b : Nat) (ids : List Int) (hm : a.eval m = .map (some b)) (h : IdsAt w (some b) ids) (hn : ids.length < maxLen) (key : Int) (hx : a.eval x = .int .i64 key) (hw : (Lit.int .i64 key).wf = true) (hnew : key ∉ ids) (hv : a.eval v = .bool true)
    (hK : ∀ w', IdsAt w' (some b) (ids ++ [key]) → Chg (fun i => i = b) w w' → wpList Tryd.prog ops Q rest (a.put o.dst undef) w') :
    wpList Tryd.prog ops Q (o :: rest) a w := by
  have hkey : keyOf Tryd.prog 3 (.int .i64 key) = some (.int .i64 key) := keyOf_int_mk Tryd.underlying3 hw
  obtain ⟨hnd, ⟨h0, _⟩ | ⟨b', D, hb, ho, hs, hD⟩⟩ := h
  · cases h0
  cases hb
  obtain ⟨w', hrun, r1, r2⟩ := ho.store keyed3 (t := 26) (e := 4) Tryd.underlying26 hn hkey (plainElem_bool Tryd.underlying4 true)
  have hT := ho.tidy keyed3
  refine wpList_plain hg fun K' hK' => ?_
  unfold Oper.wp
  simp [execOp, hop, hm, hx, hv, hrun, Result.andThen]
  refine hK' _ _ (hK w' ⟨?_, .inr ⟨b, D.put (.int .i64 key) (.lit (.bool true)), rfl, ?_, ?_, fun y hy => ?_⟩⟩ (mapTurned_chg r2))
  · refine List.nodup_append.2 ⟨hnd, by simp, fun y hy z hz e => ?_⟩
    simp at hz
    subst hz
    subst e
    exact hnew hy
  · rw [List.length_append]; exact r1
  · rw [size_put hT, (hD key hw).2]
    simp [hnew, hs]
  · by_cases e : y = key
    · subst e
      rw [atKey_put_same hT.isMap (keyLit y), has_put_same hT.isMap (keyLit y)]
      simp
    · rw [atKey_put_other (lit_ne e), has_put_other (lit_ne e), (hD y hy).1, (hD y hy).2]
      simp [e]
/-- What 'delete' leaves. -/
theorem IdsAt.drop {w : World} {b : Nat} {ids : List Int} (h : IdsAt w (some b) ids) {key : Int} (hw : (Lit.int .i64 key).wf = true) (ty : TypeId) :
    ∃ w', (Builtin.delete_ #[26, 3] ty #[.map (some b), .int .i64 key]).run Tryd.prog w = .ok (.tuple #[]) w' ∧ IdsAt w' (some b) (ids.erase key) ∧ Chg (fun i => i = b) w w' := by
  have hkey : keyOf Tryd.prog 3 (.int .i64 key) = some (.int .i64 key) := keyOf_int_mk Tryd.underlying3 hw
  obtain ⟨hnd, ⟨h0, _⟩ | ⟨b', D, hb, ho, hs, hD⟩⟩ := h
  · cases h0
  cases hb
  obtain ⟨w', hrun, r1, r2⟩ := ho.drop keyed3 (t := 26) (e := 4) Tryd.underlying26 hkey ty
  have hT := ho.tidy keyed3
  have hsz : Maps.size (D.del (.int .i64 key)) = (ids.erase key).length := by
    have := size_del (k := .int .i64 key) hT
    rw [(hD key hw).2, hs] at this
    by_cases hm : key ∈ ids
    · rw [List.length_erase_of_mem hm]
      simp [hm] at this
      omega
    · rw [List.erase_of_not_mem hm]
      simp [hm] at this
      omega
  refine ⟨w', hrun, ⟨hnd.erase _, .inr ⟨b, D.del (.int .i64 key), rfl, ?_, hsz, fun y hy => ?_⟩⟩, mapTurned_chg r2⟩
  · rw [← hsz]; exact ownsMap_tight r1
  · by_cases e : y = key
    · subst e
      rw [atKey_del_same, has_del_same]
      simp [hnd.not_mem_erase]
    · rw [atKey_del_other (lit_ne e), has_del_other (lit_ne e), (hD y hy).1, (hD y hy).2]
      simp [List.mem_erase_of_ne e]

/-! ### the wheel -/
structure Wl (w : World) (p : Nat) (s : Wh) (ids : List Int) (added : Nat) (sv : Nat → Value) (mb : Option Nat) : Prop where
  c0 : w.cell? ⟨p, 0, none⟩ = some (.int .i64 (s.now : Nat))
  cs : ∀ j, j < 449 → w.cell? ⟨p, 1 + j, none⟩ = some (sv j)
  cm : w.cell? ⟨p, 450, none⟩ = some (.map mb)
  ca : w.cell? ⟨p, 451, none⟩ = some (.int .i64 (added : Nat))
  fr : ∀ j, w.frozen? ⟨p, j, none⟩ = false
  own : ∀ j, j < 449 → OwnTm w (sv j) (s.sl j)
  apart : ∀ j k b, j < 449 → k < 449 → j ≠ k → (sv j).ownBlock = some b → (sv k).ownBlock ≠ some b
  ne : ∀ j, j < 449 → (sv j).ownBlock ≠ some p
  ids : IdsAt w mb ids
/-- The blocks that a wheel at p holds. -/
def Has (p : Nat) (sv : Nat → Value) (mb : Option Nat) (i : Nat) : Prop := i = p ∨ mb = some i ∨ ∃ j, j < 449 ∧ (sv j).ownBlock = some i
theorem Wl.lt {w : World} {p : Nat} {s : Wh} {ids : List Int} {added : Nat} {sv : Nat → Value} {mb : Option Nat} (h : Wl w p s ids added sv mb) : ∀ i, Has p sv mb i → i < w.heap.size := by
  rintro i (rfl | e | ⟨j, hj, e⟩)
  · exact World.block_lt_of_cell? _ _ h.c0
  · exact h.ids.lt i e
  · exact (h.own j hj).lt i e
theorem Wl.mp {w : World} {p : Nat} {s : Wh} {ids : List Int} {added : Nat} {sv : Nat → Value} {mb : Option Nat} (h : Wl w p s ids added sv mb) : mb ≠ some p := by
  have h0 := h.c0
  unfold World.cell? at h0
  cases hg : w.heap[p]? with
  | none => simp [hg] at h0
  | some o =>
    cases o with
    | cells c e fr => exact h.ids.ne_row hg
    | _ => simp [hg] at h0
theorem Wl.mo {w : World} {p : Nat} {s : Wh} {ids : List Int} {added : Nat} {sv : Nat → Value} {mb : Option Nat} (h : Wl w p s ids added sv mb) {j : Nat} (hj : j < 449) : ∀ b, (sv j).ownBlock = some b → mb ≠ some b := by
  intro b hb
  rcases (h.own j hj).2 with ⟨e, _⟩ | ⟨g, cap, cur, e, _, hg, _⟩
  · rw [e] at hb; simp [Value.ownBlock] at hb
  · rw [e] at hb
    have : g = b := by simpa [Value.ownBlock] using hb
    subst this
    exact h.ids.ne_row hg
/-- Elsewhere something has turned. -/
theorem Wl.chg {S : Nat → Prop} {w w' : World} {p : Nat} {s : Wh} {ids : List Int} {added : Nat} {sv : Nat → Value} {mb : Option Nat} (h : Wl w p s ids added sv mb) (hc : Chg S w w') (hn : ∀ i, Has p sv mb i → ¬ S i) : Wl w' p s ids added sv mb := by
  have hp := hn p (.inl rfl)
  have hlt := h.lt p (.inl rfl)
  exact ⟨hc.cell h.c0 hp, fun j hj => hc.cell (h.cs j hj) hp, hc.cell h.cm hp, hc.cell h.ca hp, fun j => (hc.frozen (a := ⟨p, j, none⟩) hlt hp).trans (h.fr j), fun j hj => (h.own j hj).chg hc (fun k hk => hn k (.inr (.inr ⟨j, hj, hk⟩))), h.apart, h.ne,
    h.ids.chg hc (fun b hb => hn b (.inr (.inl hb)))⟩
theorem setCell_chg (w : World) (p j : Nat) (v : Value) : Chg (fun i => i = p) w (w.setCell ⟨p, j, none⟩ v) := (Chg.refl (fun i => i = p) w).setCell (.inl rfl) v
/-- Row j turns, in its own block or into a new one, and is stored. -/
theorem Wl.row {w w' : World} {p : Nat} {s : Wh} {ids : List Int} {added : Nat} {sv : Nat → Value} {mb : Option Nat} (h : Wl w p s ids added sv mb) {j : Nat} (hj : j < 449) {v' : Value} {l' : List Tm}
    (hc : Chg (Own (sv j)) w w') (ho : OwnTm w' v' l') (hb : ∀ k, v'.ownBlock = some k → (sv j).ownBlock = some k ∨ w.heap.size ≤ k) :
    Wl (w'.setCell ⟨p, 1 + j, none⟩ v') p { s with sl := upd s.sl j l' } ids added (upd sv j v') mb := by
  have hp : ¬ Own (sv j) p := h.ne j hj
  have hs := setCell_chg w' p (1 + j) v'
  have hlt := h.lt p (.inl rfl)
  have hv' : ∀ k, v'.ownBlock = some k → k ≠ p := fun k hk e => by
    subst e
    rcases hb _ hk with g | g
    · exact hp g
    · omega
  have hm : ∀ b, mb = some b → ¬ Own (sv j) b := fun b hb ho => h.mo hj b ho hb
  refine ⟨?_, fun k hk => ?_, ?_, ?_, fun k => ?_, fun k hk => ?_, fun i k b hi hk hik hib => ?_, fun k hk => ?_, ?_⟩
  · rw [cell_set (hc.cell h.c0 hp), if_neg (by omega)]
  · rw [cell_set (hc.cell (h.cs k hk) hp)]
    unfold upd
    by_cases e : k = j
    · rw [if_pos e, if_pos (by omega)]
    · rw [if_neg e, if_neg (by omega)]
  · rw [cell_set (hc.cell h.cm hp), if_neg (by omega)]
  · rw [cell_set (hc.cell h.ca hp), if_neg (by omega)]
  · rw [frozen_set]; exact (hc.frozen (a := ⟨p, k, none⟩) hlt hp).trans (h.fr k)
  · unfold upd
    simp only
    by_cases e : k = j
    · rw [if_pos e, if_pos e]
      exact ho.chg hs (fun b hb e => hv' b hb e)
    · rw [if_neg e, if_neg e]
      exact ((h.own k hk).chg hc (fun b hb ho => h.apart k j b hk hj e hb ho)).chg hs (fun b hb e2 => h.ne k hk (by rw [hb, e2]))
  · unfold upd at hib ⊢
    by_cases e1 : i = j
    · rw [if_pos e1] at hib
      rw [if_neg (by omega : ¬ k = j)]
      rcases hb b hib with g | g
      · exact h.apart j k b hj hk (by omega) g
      · intro hkb
        have := (h.own k hk).lt b hkb
        omega
    · rw [if_neg e1] at hib
      by_cases e2 : k = j
      · rw [if_pos e2]
        intro hkb
        rcases hb b hkb with g | g
        · exact h.apart i j b hi hj e1 hib g
        · have := (h.own i hi).lt b hib
          omega
      · rw [if_neg e2]
        exact h.apart i k b hi hk hik hib
  · unfold upd
    by_cases e : k = j
    · rw [if_pos e]; intro hk2; exact hv' _ hk2 rfl
    · rw [if_neg e]; exact h.ne k hk
  · exact (h.ids.chg hc hm).chg hs (fun b hb e => h.mp (by rw [hb, e]))
theorem Wl.row_has {p : Nat} {sv : Nat → Value} {mb : Option Nat} {w : World} {j : Nat} (hj : j < 449) {v' : Value} (hb : ∀ k, v'.ownBlock = some k → (sv j).ownBlock = some k ∨ w.heap.size ≤ k) :
    ∀ i, Has p (upd sv j v') mb i → Has p sv mb i ∨ w.heap.size ≤ i := by
  rintro i (rfl | e | ⟨k, hk, e⟩)
  · exact .inl (.inl rfl)
  · exact .inl (.inr (.inl e))
  · unfold upd at e
    by_cases ek : k = j
    · rw [if_pos ek] at e
      rcases hb i e with g | g
      · exact .inl (.inr (.inr ⟨j, hj, g⟩))
      · exact .inr g
    · rw [if_neg ek] at e
      exact .inl (.inr (.inr ⟨k, hk, e⟩))
/-- The clock is stored. -/
theorem Wl.clock {w : World} {p : Nat} {s : Wh} {ids : List Int} {added : Nat} {sv : Nat → Value} {mb : Option Nat} (h : Wl w p s ids added sv mb) (n : Nat) : Wl (w.setCell ⟨p, 0, none⟩ (.int .i64 (n : Nat))) p { s with now := n } ids added sv mb := by
  have hs := setCell_chg w p 0 (.int .i64 (n : Nat))
  refine ⟨?_, fun k hk => ?_, ?_, ?_, fun k => ?_, fun k hk => (h.own k hk).chg hs (fun b hb e => h.ne k hk (by rw [hb, e])), h.apart, h.ne, h.ids.chg hs (fun b hb e => h.mp (by rw [hb, e]))⟩
  · rw [cell_set h.c0, if_pos rfl]
  · rw [cell_set (h.cs k hk), if_neg (by omega)]
  · rw [cell_set h.cm, if_neg (by omega)]
  · rw [cell_set h.ca, if_neg (by omega)]
  · rw [frozen_set]; exact h.fr k
/-- The count is stored. -/
theorem Wl.count {w : World} {p : Nat} {s : Wh} {ids : List Int} {added : Nat} {sv : Nat → Value} {mb : Option Nat} (h : Wl w p s ids added sv mb) (n : Nat) : Wl (w.setCell ⟨p, 451, none⟩ (.int .i64 (n : Nat))) p s ids n sv mb := by
  have hs := setCell_chg w p 451 (.int .i64 (n : Nat))
  refine ⟨?_, fun k hk => ?_, ?_, ?_, fun k => ?_, fun k hk => (h.own k hk).chg hs (fun b hb e => h.ne k hk (by rw [hb, e])), h.apart, h.ne, h.ids.chg hs (fun b hb e => h.mp (by rw [hb, e]))⟩
  · rw [cell_set h.c0, if_neg (by omega)]
  · rw [cell_set (h.cs k hk), if_neg (by omega)]
  · rw [cell_set h.cm, if_neg (by omega)]
  · rw [cell_set h.ca, if_pos rfl]
  · rw [frozen_set]; exact h.fr k
/-- The map has turned in its own block. -/
theorem Wl.turned {w w' : World} {p : Nat} {s : Wh} {ids ids' : List Int} {added : Nat} {sv : Nat → Value} {b : Nat} (h : Wl w p s ids added sv (some b)) (hc : Chg (fun i => i = b) w w') (hi : IdsAt w' (some b) ids') : Wl w' p s ids' added sv (some b) := by
  have hp : ¬ p = b := fun e => h.mp (by rw [e])
  have hlt := h.lt p (.inl rfl)
  exact ⟨hc.cell h.c0 hp, fun j hj => hc.cell (h.cs j hj) hp, hc.cell h.cm hp, hc.cell h.ca hp, fun j => (hc.frozen (a := ⟨p, j, none⟩) hlt hp).trans (h.fr j), fun j hj => (h.own j hj).chg hc (fun k hk e => h.mo hj k hk (by rw [e])), h.apart, h.ne, hi⟩
/-- A new map is stored where there was none. -/
theorem Wl.mapped {w : World} {p : Nat} {s : Wh} {ids : List Int} {added : Nat} {sv : Nat → Value} (h : Wl w p s ids added sv none) :
    ids = [] ∧ Wl ((w.alloc (.map #[] 0)).setCell ⟨p, 450, none⟩ (.map (some w.heap.size))) p s [] added sv (some w.heap.size) := by
  have hlt := h.lt p (.inl rfl)
  have hi := h.ids
  obtain ⟨_, ⟨_, rfl⟩ | ⟨b, D, e, _⟩⟩ := hi
  · have ha := (Chg.refl Nil w).alloc (.map #[] 0)
    have h1 := h.chg ha (fun _ _ h => h)
    have hs := setCell_chg (w.alloc (.map #[] 0)) p 450 (.map (some w.heap.size))
    refine ⟨rfl, ?_, fun k hk => ?_, ?_, ?_, fun k => ?_, fun k hk => (h1.own k hk).chg hs (fun b hb e => h1.ne k hk (by rw [hb, e])), h1.apart, h1.ne, (IdsAt.made w).chg hs (fun b hb e => by cases hb; omega)⟩
    · rw [cell_set h1.c0, if_neg (by omega)]
    · rw [cell_set (h1.cs k hk), if_neg (by omega)]
    · rw [cell_set h1.cm, if_pos rfl]
    · rw [cell_set h1.ca, if_neg (by omega)]
    · rw [frozen_set]; exact h1.fr k
  · cases e
end Go.Proofs.YtdahefphohkhlaaDoor
