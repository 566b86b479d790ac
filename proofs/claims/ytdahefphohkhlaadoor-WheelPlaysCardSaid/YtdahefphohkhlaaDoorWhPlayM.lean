/-
  The law's own timers and turns in memory; the small walks of WheelPlays; what a play keeps.
-/
import Derived.Test.YtdahefphohkhlaaDoorWhPlayL
import Derived.Test.YtdahefphohkhlaaDoorWhCanW
import Derived.Test.YtdahefphohkhlaaDoorWhAdvW
import Derived.Test.YtdahefphohkhlaaDoorWhSameLW
import Derived.Test.YtdahefphohkhlaaDoorWhZeroW
import Derived.Test.YtdahefphohkhlaaDoorBareW
set_option linter.unusedSimpArgs false
set_option linter.unusedVariables false
namespace Go.Proofs.YtdahefphohkhlaaDoor
open Go.RowKit Go.Maps

/-! ### the law's timers -/
def two (t : Tm) : List Value := [.int .i64 (t.at' : Nat), .int .i64 t.id]
theorem two_one (t : Tm) : ∀ u ∈ two t, u.oneCell' = true := by
  intro u hu
  simp only [two, List.mem_cons, List.not_mem_nil, or_false] at hu
  rcases hu with rfl | rfl <;> rfl
theorem twos_one (l : List Tm) : ∀ u ∈ l.flatMap two, u.oneCell' = true := by
  intro u hu
  obtain ⟨t, _, ht⟩ := List.mem_flatMap.1 hu
  exact two_one t u ht
theorem twos_len (l : List Tm) : (l.flatMap two).length = l.length * 2 := by
  induction l with
  | nil => rfl
  | cons t l ih => rw [List.flatMap_cons, List.length_append, ih, List.length_cons]; simp only [two, List.length_cons, List.length_nil]; omega
theorem lawT : SliceT Tryd.prog 29 33 2 16 :=
  ⟨Tryd.underlying29, by
    have h : (Tryd.prog.info? 33).map (fun i => (i.zero, i.size, i.bytes)) = some (some (.agg #[.int .i64 0, .int .i64 0]), 2, 16) := by kernel_rfl
    obtain ⟨i, hi, hz, h1, h2⟩ := info_parts h
    exact ⟨i, _, hi, hz, rfl, h1, h2⟩⟩
/-- A slice of the law's timers that is the call's own. -/
def OwnA (w : World) (v : Value) (ts : List Tm) : Prop := w.ownsRow 0 33 2 v ts.length (ts.flatMap two)
theorem OwnA.nil (w : World) : OwnA w (.slice none 0 0) [] := World.ownsRow_nil w 0 _ 2
theorem OwnA.chg {S : Nat → Prop} {w w' : World} {v : Value} {ts : List Tm} (h : OwnA w v ts) (hc : Chg S w w') (hn : ∀ k, v.ownBlock = some k → ¬ S k) : OwnA w' v ts := ownsRow_chg h hc hn
theorem OwnA.lt {w : World} {v : Value} {rs : List Tm} (h : OwnA w v rs) : ∀ k, v.ownBlock = some k → k < w.heap.size := ownsRow_lt h
theorem two_get (rs : List Tm) : ∀ (i : Nat) (hi : i < rs.length) (j : Nat) (u : Value), (two rs[i])[j]? = some u → (rs.flatMap two)[i * 2 + j]? = some u := by
  induction rs with
  | nil => intro i hi; simp at hi
  | cons r rs ih =>
    intro i hi j u hj
    rw [List.flatMap_cons]
    cases i with
    | zero =>
      have hl : j < (two r).length := (List.getElem?_eq_some_iff.1 hj).1
      rw [List.getElem?_append_left (by omega)]
      simpa using hj
    | succ i =>
      have hlen : (two r).length = 2 := rfl
      rw [List.getElem?_append_right (by rw [hlen]; omega), hlen, show (i + 1) * 2 + j - 2 = i * 2 + j by omega]
      exact ih i (by simpa using hi) j u (by simpa using hj)
/-- Its value, and its cells. -/
theorem OwnA.val {w : World} {v : Value} {rs : List Tm} (h : OwnA w v rs) : ∃ a cap, v = .slice a rs.length cap ∧ rs.length ≤ cap ∧ (∀ x, a = some x → v.ownBlock = some x.block) ∧
    ∀ i (h : i < rs.length), ∃ g, a = some ⟨g, 0, none⟩ ∧ w.cell? ⟨g, i * 2, none⟩ = some (.int .i64 (rs[i].at' : Nat)) ∧ w.cell? ⟨g, i * 2 + 1, none⟩ = some (.int .i64 rs[i].id) := by
  rcases h.2 with ⟨rfl, hn⟩ | ⟨g, cap, cur, rfl, _, _, hle, _⟩
  · exact ⟨none, 0, by rw [hn], by omega, fun x hx => (by cases hx), fun i hi => absurd hi (by omega)⟩
  · refine ⟨some ⟨g, 0, none⟩, cap, rfl, hle, fun x hx => (by cases hx; rfl), fun i hi => ⟨g, rfl, ?_, ?_⟩⟩
    · have := World.ownsRow.cells h (g := g) rfl (i * 2 + 0) _ (two_get rs i hi 0 _ rfl)
      have e1 : (⟨g, 0, none⟩ : Addr).add (i * 2 + 0) = ⟨g, i * 2, none⟩ := by unfold Addr.add; split <;> simp_all
      rwa [e1] at this
    · have := World.ownsRow.cells h (g := g) rfl (i * 2 + 1) _ (two_get rs i hi 1 _ rfl)
      have e1 : (⟨g, 0, none⟩ : Addr).add (i * 2 + 1) = ⟨g, i * 2 + 1, none⟩ := by unfold Addr.add; split <;> simp_all
      rwa [e1] at this
theorem lawU : Tryd.prog.underlying 29 = some (.slice (Tryd.prog.elem 29)) := by kernel_rfl
theorem law_size (w : World) : (sizeOf (Tryd.prog.elem 29)).run Tryd.prog w = .ok 2 w := by kernel_rfl
/-- What is ahead of a place, and what is behind it, as slices. -/
theorem OwnA.cut {w : World} {v : Value} {M : List Tm} (h : OwnA w v M) {k : Nat} (hk : k < M.length) : ∃ x1 x2,
    (∀ w', (Instr.slice 29 v none (some (.int .i64 (k : Nat))) none).run Tryd.prog w' = .ok x1 w') ∧
    (∀ w', (Instr.slice 29 v (some (.int .i64 ((k : Int) + 1))) none none).run Tryd.prog w' = .ok x2 w') ∧
    ∀ (S : Nat → Prop) w', Chg S w w' → (∀ b, v.ownBlock = some b → ¬ S b) → Source Tryd.prog w' 2 x1 k ((M.take k).flatMap two) ∧ Source Tryd.prog w' 2 x2 (M.length - (k + 1)) ((M.drop (k + 1)).flatMap two) := by
  obtain ⟨a, cap, rfl, hcap, hob, hcell⟩ := h.val
  obtain ⟨g, rfl, _⟩ := hcell k hk
  have e0 : ∀ j, (⟨g, 0, none⟩ : Addr).add j = ⟨g, j, none⟩ := by intro j; unfold Addr.add; split <;> simp_all
  have hall : ∀ j u, (M.flatMap two)[j]? = some u → w.cell? ⟨g, j, none⟩ = some u := fun j u hj => by
    have := World.ownsRow.cells h (g := g) rfl j u hj
    rwa [e0] at this
  have e1 : (M.take k).flatMap two = (M.flatMap two).take (k * 2) := by
    have e : (M.take k).flatMap two ++ (M.drop k).flatMap two = M.flatMap two := by rw [← List.flatMap_append, List.take_append_drop]
    rw [← e, List.take_append_of_le_length (by rw [twos_len, List.length_take]; omega), List.take_of_length_le (l := (M.take k).flatMap two) (by rw [twos_len, List.length_take]; omega)]
  have e2 : (M.drop (k + 1)).flatMap two = (M.flatMap two).drop ((k + 1) * 2) := by
    have e : (M.take (k + 1)).flatMap two ++ (M.drop (k + 1)).flatMap two = M.flatMap two := by rw [← List.flatMap_append, List.take_append_drop]
    rw [← e, List.drop_append_of_le_length (by rw [twos_len, List.length_take]; omega), List.drop_of_length_le (l := (M.take (k + 1)).flatMap two) (by rw [twos_len, List.length_take]; omega), List.nil_append]
  refine ⟨.slice (some ⟨g, 0, none⟩) k cap, .slice (if cap = k + 1 then some ⟨g, 0, none⟩ else some ⟨g, (k + 1) * 2, none⟩) (M.length - (k + 1)) (cap - (k + 1)), fun w' => ?_, fun w' => ?_, fun S w' hc hn => ⟨?_, ?_⟩⟩
  · rw [run_slice_h w' _ _ _ _ lawU _ _ (by omega) (by omega), law_size]
    simp [Result.andThen, sliced, e0]
  · rw [run_slice_l w' _ _ _ _ lawU _ _ (by omega) (by omega), law_size]
    have e3 : ((k : Int) + 1).toNat = k + 1 := by omega
    simp [Result.andThen, sliced, e0, e3]
  · refine Source.slice (by rw [twos_len, List.length_take]; congr 1; omega) (fun j u hj => ?_) (twos_one _)
    rw [e1, List.getElem?_take] at hj
    split at hj
    · rw [e0]; exact hc.cell (hall j u hj) (hn g rfl)
    · cases hj
  · have hcl : ∀ j u, ((M.drop (k + 1)).flatMap two)[j]? = some u → w'.cell? ⟨g, (k + 1) * 2 + j, none⟩ = some u := fun j u hj => by
      rw [e2, List.getElem?_drop] at hj
      exact hc.cell (hall _ u hj) (hn g rfl)
    by_cases hcp : cap = k + 1
    · rw [if_pos hcp]
      have hM : M.drop (k + 1) = [] := List.drop_of_length_le (by omega)
      refine Source.slice (by rw [twos_len, List.length_drop]) (fun j u hj => ?_) (twos_one _)
      rw [hM] at hj
      simp at hj
    · rw [if_neg hcp]
      refine Source.slice (by rw [twos_len, List.length_drop]) (fun j u hj => ?_) (twos_one _)
      have e3 : (⟨g, (k + 1) * 2, none⟩ : Addr).add j = ⟨g, (k + 1) * 2 + j, none⟩ := by unfold Addr.add; split <;> simp_all
      rw [e3]
      exact hcl j u hj

/-! ### the turns -/
structure Tu where
  what : Int
  at' : Int
  id : Int
def Tu.cells (t : Tu) : List Value := [.int .i64 t.what, .int .i64 t.at', .int .i64 t.id]
def Tu.Ok (t : Tu) : Prop := (Lit.int .i64 t.what).wf = true ∧ (Lit.int .i64 t.at').wf = true ∧ (Lit.int .i64 t.id).wf = true
def TusAt (w : World) (a : Option Addr) (ts : List Tu) : Prop :=
  ∀ i (h : i < ts.length), ∃ b off, a = some ⟨b, off, none⟩ ∧ ∀ j u, ts[i].cells[j]? = some u → w.cell? ⟨b, off + i * 3 + j, none⟩ = some u
theorem TusAt.chg {S : Nat → Prop} {w w' : World} {a : Option Addr} {ts : List Tu} (hb : TusAt w a ts) (h : Chg S w w') (hn : ∀ x, a = some x → ¬ S x.block) : TusAt w' a ts := by
  intro i hi
  obtain ⟨b, off, ha, hc⟩ := hb i hi
  exact ⟨b, off, ha, fun j u hj => h.cell (hc j u hj) (show ¬ S b from hn ⟨b, off, none⟩ ha)⟩

/-! ### small walks -/
theorem within_any (n : Int) (w : World) : Calls Tryd.prog 4 #[.int .i64 n] w fun e w' => e = .returned (.bool (decide (0 ≤ n ∧ n ≤ 1099511627776))) ∧ w' = w := by
  go_enter Tryd.func4, Tryd.ntmps4
  by_cases h1 : 0 ≤ n
  · by_cases h2 : n ≤ 1099511627776
    · go_wp2_with fail
      go_ret
      exact ⟨by simp [h1, h2], rfl⟩
    · go_wp2_with fail
      go_ret
      exact ⟨by simp [h1, h2], rfl⟩
  · go_wp2_with fail
    go_ret
    exact ⟨by simp [h1]; omega, rfl⟩
theorem now_any {w : World} {p n : Nat} (h : w.cell? ⟨p, 0, none⟩ = some (.int .i64 (n : Nat))) :
    Calls Tryd.prog 10 #[.pointer (some ⟨p, 0, none⟩)] w fun e w' => e = .returned (.int .i64 (n : Nat)) ∧ w' = w := by
  go_enter Tryd.func10, Tryd.ntmps10
  go_wp2_with fail
  go_ret
  exact ⟨rfl, rfl⟩
theorem adv_late {w : World} {p n : Nat} (h : w.cell? ⟨p, 0, none⟩ = some (.int .i64 (n : Nat))) (tt : Int) (hl : tt < n ∨ 1099511627776 < tt) :
    Calls Tryd.prog 8 #[.pointer (some ⟨p, 0, none⟩), .int .i64 tt] w fun e w' => e = .returned (.tuple #[.slice none 0 0, .iface 34 (.int .i64 2)]) ∧ w' = w := by
  go_enter Tryd.func8, Tryd.ntmps8
  by_cases h1 : tt < (n : Int)
  · go_wp2_with fail
    go_ret2
    exact ⟨rfl, rfl⟩
  · have h2 : 1099511627776 < tt := by omega
    go_wp2_with fail
    go_ret2
    exact ⟨rfl, rfl⟩

theorem bare_at (k : Nat) (hk : k ≠ 0) (w : World) (hg : Handle w) : Calls Tryd.prog 5 #[.iface 34 (.int .i64 (k : Int)), .int .i64 (k : Int)] w fun e w' => e = .returned (.bool true) ∧ Chg Nil w w' := by
  have h := lawBare_any k w hg
  rwa [show errV 34 k = .iface 34 (.int .i64 (k : Int)) from if_neg hk] at h
theorem bare_at0 (w : World) (hg : Handle w) : Calls Tryd.prog 5 #[.nilIface, .int .i64 0] w fun e w' => e = .returned (.bool true) ∧ Chg Nil w w' := lawBare_any 0 w hg

/-! ### what a play keeps of the wheel -/
structure PlW (w0 w : World) (p : Nat) (s : Wh) (ids : List Int) (added : Nat) (sv : Nat → Value) (mb : Option Nat) (L : List Tm) : Prop where
  wl : Wl w p s ids added sv mb
  inv : InvK 7 s
  all : List.Perm (allT s.sl 449) L
  ids : List.Perm ids (L.map Tm.id)
  chg : Chg Nil w0 w
  has : ∀ i, Has p sv mb i → w0.heap.size ≤ i
theorem PlW.chg' {S : Nat → Prop} {w0 w w' : World} {p : Nat} {s : Wh} {ids : List Int} {added : Nat} {sv : Nat → Value} {mb : Option Nat} {L : List Tm} (h : PlW w0 w p s ids added sv mb L) (hc : Chg S w w') (hn : ∀ i, Has p sv mb i → ¬ S i) (hs : ∀ i, S i → w0.heap.size ≤ i) : PlW w0 w' p s ids added sv mb L :=
  ⟨h.wl.chg hc hn, h.inv, h.all, h.ids, h.chg.trans hc (fun i hi => .inr (hs i hi)), h.has⟩
theorem PlW.row {w0 w : World} {p : Nat} {s : Wh} {ids : List Int} {added : Nat} {sv : Nat → Value} {mb : Option Nat} {L : List Tm} (h : PlW w0 w p s ids added sv mb L) : ∀ j, j < 449 → (s.sl j).length ≤ L.length := fun j hj => by
  have := row_le (f := s.sl) hj
  rw [h.all.length_eq] at this
  exact this
/-- A timer is added. -/
theorem PlW.add {w0 w : World} {p : Nat} {s : Wh} {ids : List Int} {added : Nat} {sv : Nat → Value} {mb : Option Nat} {L : List Tm} (h : PlW w0 w p s ids added sv mb L) (a : Nat) (id : Int) (ha : a ≤ 1099511627776) (hw : (Lit.int .i64 id).wf = true) (hid : id ∉ L.map Tm.id) (hl : L.length ≤ 1000) (hadd : added ≤ 1000) :
    Calls Tryd.prog 6 #[.pointer (some ⟨p, 0, none⟩), .int .i64 (a : Nat), .int .i64 id] w fun e w' => e = .returned .nilIface ∧ ∃ s' ids' sv' mb', PlW w0 w' p s' ids' (added + 1) sv' mb' (L ++ [⟨a, id, added + 1⟩]) ∧ s'.now = s.now ∧ Chg (Has p sv mb) w w' ∧ ∀ i, Has p sv' mb' i → Has p sv mb i ∨ w.heap.size ≤ i := by
  have hil : ids.length = L.length := by rw [h.ids.length_eq, List.length_map]
  refine (add_ok h.wl a id ha hw (fun g => hid (h.ids.mem_iff.1 g)) (by omega) (by omega) (fun j hj => by have := h.row j hj; omega)).mono ?_
  rintro e w' ⟨rfl, sv', mb', hw', hc, hh⟩
  refine ⟨rfl, putS s ⟨a, id, added + 1⟩, ids ++ [id], sv', mb', ⟨hw', putS_inv h.inv ha, ?_, ?_, h.chg.trans hc (fun i hi => .inr (h.has i hi)), fun i hi => ?_⟩, rfl, hc, hh⟩
  · exact ((putS_all s _).trans (h.all.cons _)).trans (List.perm_append_singleton _ _).symm
  · rw [List.map_append]
    exact h.ids.append_right _
  · rcases hh i hi with g | g
    · exact h.has i g
    · have := h.chg.size; omega
/-- A timer is taken out. -/
theorem PlW.cancel {w0 w : World} {p : Nat} {s : Wh} {ids : List Int} {added : Nat} {sv : Nat → Value} {mb : Option Nat} {L : List Tm} (h : PlW w0 w p s ids added sv mb L) (x : Int) (hw : (Lit.int .i64 x).wf = true) (hid : x ∈ L.map Tm.id) (hl : L.length ≤ 1000) :
    Calls Tryd.prog 7 #[.pointer (some ⟨p, 0, none⟩), .int .i64 x] w fun e w' => e = .returned (.bool true) ∧ ∃ s' ids' sv', PlW w0 w' p s' ids' added sv' mb (L.filter (stays x)) ∧ s'.now = s.now ∧ Chg (Has p sv mb) w w' ∧ ∀ i, Has p sv' mb i → Has p sv mb i := by
  refine (cancel_ok h.wl x hw (h.ids.mem_iff.2 hid) (fun j hj => by have := h.row j hj; omega)).mono ?_
  rintro e w' ⟨rfl, sv', hw', hc, hh⟩
  refine ⟨rfl, cutS s x 448, ids.erase x, sv', ⟨hw', cutS_inv h.inv x 448, ?_, erase_stays h.ids h.wl.ids.1, h.chg.trans hc (fun i hi => .inr (h.has i hi)), fun i hi => h.has i (hh i hi)⟩, rfl, hc, hh⟩
  rw [cutS_all]
  exact h.all.filter _
/-- Time goes on. -/
theorem PlW.adv {w0 w : World} {p : Nat} {s : Wh} {ids : List Int} {added : Nat} {sv : Nat → Value} {mb : Option Nat} {L : List Tm} (h : PlW w0 w p s ids added sv mb L) (hl : L.length ≤ 1000) (hnum : ∀ t ∈ L, t.num ≤ 1000000000) (hwf : ∀ t ∈ L, (Lit.int .i64 t.id).wf = true) (tt : Nat) (hn : s.now ≤ tt) (ht : tt ≤ 1099511627776) :
    Calls Tryd.prog 8 #[.pointer (some ⟨p, 0, none⟩), .int .i64 (tt : Nat)] w fun e w' =>
      ∃ S : List Tm, List.Perm S (L.filter fun t => decide (t.at' ≤ tt)) ∧ S.Pairwise (fun x y => ¬ ltT y x) ∧ ∃ v, e = .returned (.tuple #[v, .nilIface]) ∧ OwnI w' v (S.map Tm.id) ∧
        ∃ s' ids' sv', PlW w0 w' p s' ids' added sv' mb (L.filter fun t => decide (tt < t.at')) ∧ s'.now = tt ∧ Chg (Has p sv mb) w w' ∧ (∀ i, Has p sv' mb i → Has p sv mb i ∨ w.heap.size ≤ i) ∧ ∀ k, v.ownBlock = some k → w.heap.size ≤ k ∧ ¬ Has p sv' mb k := by
  refine (adv_any h.wl h.inv L h.all (by omega) h.ids hnum hwf tt hn ht).mono ?_
  rintro e w' ⟨S, hS, hso, v, rfl, hown, s', sv', ids', hw', hn', hi', hp', hid', hc, hh, hv⟩
  refine ⟨S, hS, hso, v, rfl, hown, s', ids', sv', ⟨hw', hi', hp', hid', h.chg.trans hc (fun i hi => .inr (h.has i hi)), fun i hi => ?_⟩, hn', hc, hh, hv⟩
  rcases hh i hi with g | g
  · exact h.has i g
  · have := h.chg.size; omega
/-- What a play keeps. -/
structure St (w0 w : World) (p : Nat) (s : Wh) (ids : List Int) (added : Nat) (sv : Nat → Value) (mb : Option Nat) (L : List Tm) (now : Nat) (aa : Value) (i : Nat) : Prop where
  pl : PlW w0 w p s ids added sv mb L
  now : s.now = now
  lst : Lst L added
  len : L.length ≤ i
  add : added ≤ i
  ok : ∀ t ∈ L, t.at' ≤ 1099511627776 ∧ (Lit.int .i64 t.id).wf = true
  own : OwnA w aa L
  new : ∀ k, aa.ownBlock = some k → w0.heap.size ≤ k ∧ ¬ Has p sv mb k
theorem St.chg {w0 w w' : World} {p : Nat} {s : Wh} {ids : List Int} {added : Nat} {sv : Nat → Value} {mb : Option Nat} {L : List Tm} {now : Nat} {aa : Value} {i : Nat} (h : St w0 w p s ids added sv mb L now aa i) (hc : Chg Nil w w') : St w0 w' p s ids added sv mb L now aa i :=
  ⟨h.pl.chg' hc (fun _ _ h => h) (fun _ h => h.elim), h.now, h.lst, h.len, h.add, h.ok, h.own.chg hc (fun _ _ h => h), h.new⟩
theorem St.next {w0 w : World} {p : Nat} {s : Wh} {ids : List Int} {added : Nat} {sv : Nat → Value} {mb : Option Nat} {L : List Tm} {now : Nat} {aa : Value} {i : Nat} (h : St w0 w p s ids added sv mb L now aa i) : St w0 w p s ids added sv mb L now aa (i + 1) :=
  ⟨h.pl, h.now, h.lst, by have := h.len; omega, by have := h.add; omega, h.ok, h.own, h.new⟩
/-- The list has grown. -/
theorem St.push {w0 w w1 : World} {p : Nat} {s : Wh} {ids : List Int} {added : Nat} {sv : Nat → Value} {mb : Option Nat} {L : List Tm} {now : Nat} {aa v2 : Value} {i : Nat} (h : St w0 w p s ids added sv mb L now aa i) (hg : Grew w w1 aa v2) :
    PlW w0 w1 p s ids added sv mb L ∧ ∀ k, v2.ownBlock = some k → w0.heap.size ≤ k ∧ ¬ Has p sv mb k :=
  ⟨h.pl.chg' hg.chg (fun i hi e => (h.new i e).2 hi) (fun i e => (h.new i e).1), fun k hk => by
    rcases hg.own k hk with g | g
    · exact h.new k g
    · refine ⟨by have := h.pl.chg.size; omega, fun hh => by have := h.pl.wl.lt k hh; omega⟩⟩
/-- A timer was added to both. -/
theorem St.pushed {w0 w w1 w2 : World} {p : Nat} {s s' : Wh} {ids ids' : List Int} {added : Nat} {sv sv' : Nat → Value} {mb mb' : Option Nat} {L : List Tm} {now : Nat} {aa v2 : Value} {i : Nat} (h : St w0 w p s ids added sv mb L now aa i) {a : Nat} {id : Int} (ha : a ≤ 1099511627776) (hw : (Lit.int .i64 id).wf = true) (hid : id ∉ L.map Tm.id)
    (hv : ∀ k, v2.ownBlock = some k → w0.heap.size ≤ k ∧ ¬ Has p sv mb k) (ho : OwnA w1 v2 (L ++ [⟨a, id, added + 1⟩])) (hp : PlW w0 w2 p s' ids' (added + 1) sv' mb' (L ++ [⟨a, id, added + 1⟩])) (hn : s'.now = s.now) (hc : Chg (Has p sv mb) w1 w2) (hh : ∀ i, Has p sv' mb' i → Has p sv mb i ∨ w1.heap.size ≤ i) :
    St w0 w2 p s' ids' (added + 1) sv' mb' (L ++ [⟨a, id, added + 1⟩]) now v2 (i + 1) := by
  refine ⟨hp, hn.trans h.now, h.lst.snoc rfl hid, ?_, by have := h.add; omega, fun t ht => ?_, ho.chg hc (fun k hk => (hv k hk).2), fun k hk => ⟨(hv k hk).1, fun g => ?_⟩⟩
  · rw [List.length_append]; have := h.len; simp; exact this
  · rcases List.mem_append.1 ht with g | g
    · exact h.ok t g
    · simp at g; subst g; exact ⟨ha, hw⟩
  · rcases hh k g with g1 | g1
    · exact (hv k hk).2 g1
    · have := ho.lt k hk; omega
/-- A timer was taken out of both. -/
theorem St.cut {w0 w w1 w2 : World} {p : Nat} {s s' : Wh} {ids ids' : List Int} {added : Nat} {sv sv' : Nat → Value} {mb : Option Nat} {L : List Tm} {now : Nat} {aa v2 : Value} {i k : Nat} (h : St w0 w p s ids added sv mb L now aa i) (hk : k < L.length)
    (hp : PlW w0 w1 p s' ids' added sv' mb (L.eraseIdx k)) (hn : s'.now = s.now) (hc : Chg Nil w1 w2) (ho : OwnA w2 v2 (L.eraseIdx k)) (hv : ∀ k, v2.ownBlock = some k → w1.heap.size ≤ k) :
    St w0 w2 p s' ids' added sv' mb (L.eraseIdx k) now v2 (i + 1) := by
  refine ⟨hp.chg' hc (fun _ _ h => h) (fun _ h => h.elim), hn.trans h.now, h.lst.sub (List.eraseIdx_sublist _ _), ?_, by have := h.add; omega, fun t ht => h.ok t ((List.eraseIdx_sublist L k).subset ht), ho, fun j hj => ⟨?_, fun g => ?_⟩⟩
  · have := h.len; rw [List.length_eraseIdx_of_lt hk]; omega
  · have := hv j hj; have := hp.chg.size; omega
  · have := hv j hj; have := hp.wl.lt j g; omega

/-! ### a timer is cut out of the list -/
def CutF (n0 : Nat) (L : List Tm) (k : Nat) : List Value → World → Prop
  | [], _ => True
  | [v], w => OwnA w v [] ∧ ∀ b, v.ownBlock = some b → n0 ≤ b
  | [_, v], w => OwnA w v (L.take k) ∧ ∀ b, v.ownBlock = some b → n0 ≤ b
  | [_, _, v], w => OwnA w v (L.eraseIdx k) ∧ ∀ b, v.ownBlock = some b → n0 ≤ b
  | [_, _, _, v], w => OwnA w v (L.eraseIdx k) ∧ ∀ b, v.ownBlock = some b → n0 ≤ b
  | _, _ => False
theorem three_eq {vs : List Value} (h : vs.length = 3) : vs = [vs.getD 0 undef, vs.getD 1 undef, vs.getD 2 undef] := by
  rcases vs with _ | ⟨a, _ | ⟨b, _ | ⟨c, _ | ⟨d, t⟩⟩⟩⟩
  · simp at h
  · simp at h
  · simp at h
  · rfl
  · simp at h
theorem OwnA.form {w : World} {v : Value} {l : List Tm} (h : OwnA w v l) : v = .slice (vA v) l.length (vC v) := by
  obtain ⟨a, c, rfl, _⟩ := h.val
  rfl

/-! ### time went on, the list was told -/
theorem PlW.perm {w0 w : World} {p : Nat} {s : Wh} {ids : List Int} {added : Nat} {sv : Nat → Value} {mb : Option Nat} {L M : List Tm} (h : PlW w0 w p s ids added sv mb L) (hp : List.Perm L M) : PlW w0 w p s ids added sv mb M :=
  ⟨h.wl, h.inv, h.all.trans hp, h.ids.trans (hp.map _), h.chg, h.has⟩
theorem St.told {w0 w w3 wf : World} {p : Nat} {s s' : Wh} {ids ids' : List Int} {added : Nat} {sv sv' : Nat → Value} {mb : Option Nat} {L W M : List Tm} {now tt : Nat} {aa v2 : Value} {i : Nat} (h : St w0 w p s ids added sv mb L now aa i)
    (hp : PlW w0 w3 p s' ids' added sv' mb (L.filter fun t => decide (tt < t.at'))) (hn : s'.now = tt) (hc : Chg Nil w3 wf) (ht : Told L W M tt added) (hb : Best M tt M.length (-1)) (ho : OwnA wf v2 M) (hv : ∀ k, v2.ownBlock = some k → w0.heap.size ≤ k ∧ ¬ Has p sv' mb k) :
    St w0 wf p s' ids' added sv' mb M tt v2 (i + 1) := by
  obtain ⟨_, hM⟩ := ht.done hb h.lst
  refine ⟨(hp.perm hM.symm).chg' hc (fun _ _ h => h) (fun _ h => h.elim), hn, ht.lst, ?_, by have := h.add; omega, fun t hm => h.ok t (List.mem_filter.1 (hM.mem_iff.1 hm)).1, ho, hv⟩
  have h1 := hM.length_eq
  have h2 := List.length_filter_le (fun t : Tm => decide (tt < t.at')) L
  have h3 := h.len
  omega
theorem told_same {L S W M : List Tm} {tt n : Nat} (hL : Lst L n) (ht : Told L W M tt n) (hb : Best M tt M.length (-1)) (hS : List.Perm S (L.filter fun t => decide (t.at' ≤ tt))) (hso : S.Pairwise (fun x y => ¬ ltT y x)) : S = W := by
  obtain ⟨hW, _⟩ := ht.done hb hL
  exact sorted_one hL (fun t hm => (List.mem_filter.1 (hS.mem_iff.1 hm)).1) (hS.trans hW.symm) hso ht.sort
def lenV : Value → Nat
  | .slice _ n _ => n
  | _ => 0
end Go.Proofs.YtdahefphohkhlaaDoor
