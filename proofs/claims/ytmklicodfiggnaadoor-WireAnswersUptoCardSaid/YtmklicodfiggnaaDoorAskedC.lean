/-
  A request read step by step: plain data.
-/
import Derived.Test.YtmklicodfiggnaaDoorAskedL
import Derived.Test.YtmklicodfiggnaaDoorBoxW
set_option linter.unusedSimpArgs false
namespace Go.Proofs.YtmklicodfiggnaaDoor
open Go.RowKit

/-- A request's cells, its records' slice given. -/
def rqCells (x : Rq) (v : Value) : List Value :=
  [.int .i64 x.kind, .int .i64 x.corr, .string x.topic, .int .i64 x.part, .int .i64 x.offset, .int .i64 x.most, .int .i64 x.least, .int .i64 x.wait, .int .i64 x.time, .int .i64 x.parts, .bool x.sure, .bool x.compact, v]
def okK (k : Nat) : Bool := decide (1 ≤ k ∧ k ≤ 7)
/-- Bad from here on, where the kind is none. -/
def kindS (k : Nat) (s : St) : St := (s.1, s.2 || !okK k)
def partS (k : Nat) (s : St) : Nat × St := if k ≤ 4 then numS s else (0, s)
/-- What stands behind the partition. -/
def restS (txt : Nat → St → List UInt8 × St) (k : Nat) (r : Rq) (s : St) : Rq × St :=
  if k = 1 then ({ r with sure := (truthS s).1, recs := (recsS txt false (truthS s).2).1 }, (recsS txt false (truthS s).2).2)
  else if k = 2 then ({ r with offset := (numS s).1, most := (numS (numS s).2).1, least := (numS (numS (numS s).2).2).1, wait := (numS (numS (numS (numS s).2).2).2).1 }, (numS (numS (numS (numS s).2).2).2).2)
  else if k = 3 then ({ r with time := (numS s).1 }, (numS s).2)
  else if k = 4 then ({ r with offset := (numS s).1 }, (numS s).2)
  else if k = 5 then ({ r with parts := (numS s).1, compact := (truthS (numS s).2).1 }, (truthS (numS s).2).2)
  else (r, s)
def chainQ (l : List UInt8) : Rq × St :=
  let k := numS (l, false)
  let c := numS k.2
  let t := topS wText k.1 (kindS k.1 c.2)
  let p := partS k.1 t.2
  restS wText k.1 { rq0 k.1 c.1 t.1 with part := p.1 } p.2
theorem rest_tail {txt : Nat → St → List UInt8 × St} {k c : Nat} {t : List UInt8} {s : St} (h : 1 ≤ k ∧ k ≤ 7) : restS txt k { rq0 k c t with part := (partS k s).1 } (partS k s).2 = tailS txt k c t s := by
  obtain rfl | rfl | rfl | rfl | rfl | rfl | rfl : k = 1 ∨ k = 2 ∨ k = 3 ∨ k = 4 ∨ k = 5 ∨ k = 6 ∨ k = 7 := by omega
  all_goals rfl
theorem kindS_ok {k : Nat} {s : St} (h : 1 ≤ k ∧ k ≤ 7) : kindS k s = s := by unfold kindS okK; rw [decide_eq_true h]; simp
theorem kindS_no {k : Nat} {s : St} (h : ¬ (1 ≤ k ∧ k ≤ 7)) : (kindS k s).2 = true := by unfold kindS okK; rw [decide_eq_false h]; simp
theorem chain_good {l : List UInt8} (h : 1 ≤ kindOf l ∧ kindOf l ≤ 7) : chainQ l = parseQ wText l := by
  unfold kindOf at h
  unfold chainQ parseQ
  simp only
  rw [kindS_ok h, rest_tail h]
theorem topS_sticky {k : Nat} {s : St} (h : s.2 = true) : (topS wText k s).2.2 = true := by
  unfold topS
  split
  · exact h
  · exact wText_sticky h
theorem partS_sticky {k : Nat} {s : St} (h : s.2 = true) : (partS k s).2.2 = true := by
  unfold partS
  split
  · exact numS_sticky h
  · exact h
theorem restS_sticky {k : Nat} {r : Rq} {s : St} (h : s.2 = true) : (restS wText k r s).2.2 = true := by
  unfold restS
  split
  · exact recsL_sticky (numS_sticky (truthS_sticky h))
  split
  · exact numS_sticky (numS_sticky (numS_sticky (numS_sticky h)))
  split
  · exact numS_sticky h
  split
  · exact numS_sticky h
  split
  · exact truthS_sticky (numS_sticky h)
  · exact h
theorem chain_bad {l : List UInt8} (h : ¬ (1 ≤ kindOf l ∧ kindOf l ≤ 7)) : (chainQ l).2.2 = true := by
  unfold kindOf at h
  unfold chainQ
  exact restS_sticky (partS_sticky (topS_sticky (kindS_no h)))
theorem chain_goodQ (l : List UInt8) : goodQ l ↔ (chainQ l).2.2 = false ∧ (chainQ l).2.1 = [] := by
  by_cases h : 1 ≤ kindOf l ∧ kindOf l ≤ 7
  · rw [chain_good h]; unfold goodQ; exact ⟨fun g => g.2, fun g => ⟨h, g⟩⟩
  · exact ⟨fun g => absurd g.1 h, fun g => by rw [chain_bad h] at g; exact absurd g.1 (by simp)⟩
/-- What is wrong behind a frame whose size is good. -/
theorem asked_in {l : List UInt8} (h : sizeErr l = 0) : askedErr l = if (chainQ (bodyQ l)).2.2 = false ∧ (chainQ (bodyQ l)).2.1 = [] then 0 else 3 := by
  unfold askedErr
  rw [if_neg (by rw [h]; simp)]
  by_cases g : goodQ (bodyQ l)
  · rw [if_pos g, if_pos ((chain_goodQ _).1 g)]
  · rw [if_neg g, if_neg (fun h => g ((chain_goodQ _).2 h))]
theorem asked_size {l : List UInt8} (h : sizeErr l ≠ 0) : askedErr l = sizeErr l := by unfold askedErr; rw [if_pos h]
theorem chain_parse {l : List UInt8} (h : askedErr l = 0) : chainQ (bodyQ l) = parseQ wText (bodyQ l) := by
  have hs : sizeErr l = 0 := by
    refine Classical.byContradiction fun hs => ?_
    rw [asked_size hs] at h
    exact hs h
  have hg : goodQ (bodyQ l) := by
    refine Classical.byContradiction fun hg => ?_
    unfold askedErr at h
    rw [if_neg (by rw [hs]; simp), if_neg hg] at h
    cases h
  exact chain_good hg.1
theorem bodyQ_len {l : List UInt8} (h : sizeErr l = 0) : (bodyQ l).length = fromB l := by
  unfold bodyQ
  rw [List.length_drop, List.length_take]
  unfold sizeErr at h
  by_cases g1 : l.length < 4
  · rw [if_pos g1] at h; cases h
  by_cases g2 : fromB l < 1 ∨ 10000 < fromB l
  · rw [if_neg g1, if_pos g2] at h; cases h
  by_cases g3 : l.length < fromB l + 4
  · rw [if_neg g1, if_neg g2, if_pos g3] at h; cases h
  omega

theorem tkText_le (m : Nat) (s : St) : (tkText m s).1.length ≤ m := by
  unfold tkText
  split
  · simp
  · simp only [List.length_take]; omega
theorem bsize (l : List UInt8) : ByteArray.size ⟨l.toArray⟩ = l.length := by
  change Array.size (List.toArray _) = _
  rw [List.size_toArray]
theorem recS_le (wi : Bool) (s : St) : (recS tkText wi s).1.key.size ≤ 60 ∧ (recS tkText wi s).1.value.size ≤ 500 := by
  unfold recS
  simp only [bsize]
  constructor
  · unfold keyS
    split
    · exact tkText_le 60 _
    · simp
  · unfold valS
    split
    · simp
    · exact tkText_le 500 _
theorem recsL_le (wi : Bool) : ∀ (n : Nat) (s : St) (acc : List Rec), (∀ r ∈ acc, r.key.size ≤ 60 ∧ r.value.size ≤ 500) → ∀ r ∈ (recsL tkText wi n s acc).1, r.key.size ≤ 60 ∧ r.value.size ≤ 500
  | 0, s, acc, h => h
  | n + 1, s, acc, h => by
    by_cases hb : s.2 = true
    · rw [recsL_bad hb]; exact h
    · rw [recsL_on (by simpa using hb)]
      refine recsL_le wi n _ _ fun r hr => ?_
      rcases List.mem_append.1 hr with h1 | h1
      · exact h r h1
      · obtain rfl := List.mem_singleton.1 h1
        exact recS_le wi s
theorem tkText_short {m : Nat} {s : St} : (tkText m s).2.1.length ≤ (numS s).2.1.length := by
  unfold tkText
  split
  · exact Nat.le_refl _
  · simp only [List.length_drop]; omega
theorem tkText_len {m : Nat} {s : St} : (tkText m s).2.1.length ≤ s.1.length := Nat.le_trans tkText_short (numS_len s)
theorem tkText_bad {m : Nat} {s : St} (h : (tkText m s).2.2 = false) : (numS s).2.2 = false := by
  unfold tkText at h
  split at h
  · cases h
  · next hc => simpa using fun h => hc (.inl h)
theorem truthS_len {s : St} : (truthS s).2.1.length ≤ s.1.length := numS_len s
theorem keyS_len {kd : Bool} {s : St} : (keyS tkText kd s).2.1.length ≤ s.1.length := by
  unfold keyS
  split
  · exact tkText_len
  · exact Nat.le_refl _
theorem valS_len {gn : Bool} {s : St} : (valS tkText gn s).2.1.length ≤ s.1.length := by
  unfold valS
  split
  · exact Nat.le_refl _
  · exact tkText_len
theorem keyS_tk {kd : Bool} {s : St} (h : (keyS tkText kd s).2.2 = false) : s.2 = false := by
  unfold keyS at h
  split at h
  · exact numS_bad (tkText_bad h)
  · exact h
theorem valS_tk {gn : Bool} {s : St} (h : (valS tkText gn s).2.2 = false) : s.2 = false := by
  unfold valS at h
  split at h
  · exact h
  · exact numS_bad (tkText_bad h)
theorem offS_len {wi : Bool} {s : St} : (offS wi s).2.1.length ≤ s.1.length := by
  unfold offS
  split
  · exact numS_len s
  · exact Nat.le_refl _
theorem recS_short {wi : Bool} {s : St} (h : (recS tkText wi s).2.2 = false) : (recS tkText wi s).2.1.length < s.1.length := by
  unfold recS at h ⊢
  simp only at h ⊢
  have b1 := numS_bad (truthS_bad (keyS_tk (numS_bad (truthS_bad (valS_tk h)))))
  have h1 := (numS_short (numS_bad (truthS_bad (keyS_tk (numS_bad (truthS_bad (valS_tk h))))) : (numS (offS wi s).2).2.2 = false)).2
  have h2 := @offS_len wi s
  refine Nat.lt_of_le_of_lt (Nat.le_trans valS_len (Nat.le_trans truthS_len (Nat.le_trans keyS_len truthS_len))) (Nat.lt_of_lt_of_le h1 h2)
theorem recsL_count (wi : Bool) : ∀ (n : Nat) (s : St) (acc : List Rec), (recsL tkText wi n s acc).1.length ≤ acc.length + s.1.length + 1
  | 0, s, acc => by simp only [recsL]; omega
  | n + 1, s, acc => by
    by_cases hb : s.2 = true
    · rw [recsL_bad hb]; simp only; omega
    · rw [recsL_on (by simpa using hb)]
      by_cases hq : (recS tkText wi s).2.2 = true
      · rw [recsL_bad hq]; simp only [List.length_append, List.length_cons, List.length_nil]; omega
      · have h1 := @recS_short wi s (by simpa using hq)
        have h2 := recsL_count wi n (recS tkText wi s).2 (acc ++ [(recS tkText wi s).1])
        simp only [List.length_append, List.length_cons, List.length_nil] at h2
        omega
theorem recsS_count (wi : Bool) (s : St) : (recsS tkText wi s).1.length ≤ s.1.length + 1 := by
  have h := recsL_count wi (numS s).1 (numS s).2 []
  have h2 := numS_len s
  unfold recsS
  simp only [List.length_nil] at h
  omega
theorem recsS_le (wi : Bool) (s : St) : ∀ r ∈ (recsS tkText wi s).1, r.key.size ≤ 60 ∧ r.value.size ≤ 500 := recsL_le wi _ _ _ (by simp)
/-- How much a request that was read can hold. -/
theorem parseQ_le (l : List UInt8) : (parseQ tkText l).1.topic.size ≤ 1048576 ∧ (parseQ tkText l).1.recs.length ≤ l.length + 1 ∧ ∀ r ∈ (parseQ tkText l).1.recs, r.key.size ≤ 1048576 ∧ r.value.size ≤ 1048576 := by
  unfold parseQ
  simp only
  have h0 : (topS tkText (numS (l, false)).1 (numS (numS (l, false)).2).2).1.length ≤ 40 := by
    unfold topS
    split
    · simp
    · exact tkText_le 40 _
  have h1 : (topS tkText (numS (l, false)).1 (numS (numS (l, false)).2).2).2.1.length ≤ l.length := by
    have e1 := numS_len (l, false)
    have e2 := numS_len (numS (l, false)).2
    refine Nat.le_trans ?_ (Nat.le_trans e2 e1)
    unfold topS
    split
    · exact Nat.le_refl _
    · exact tkText_len
  generalize topS tkText (numS (l, false)).1 (numS (numS (l, false)).2).2 = t at *
  generalize (numS (l, false)).1 = k at *
  generalize (numS (numS (l, false)).2).1 = c at *
  refine ⟨?_, ?_⟩
  · rw [(tailS_kind tkText k c t.1 t.2).2.2, bsize]; omega
  · unfold tailS
    split
    · simp only
      refine ⟨?_, fun r hr => ?_⟩
      · have e1 := recsS_count false (truthS (numS t.2).2).2
        have e2 := numS_len t.2
        have e3 := @truthS_len (numS t.2).2
        omega
      · have := recsS_le false _ r hr
        omega
    split
    · exact ⟨by simp [rq0], by simp [rq0]⟩
    split
    · exact ⟨by simp [rq0], by simp [rq0]⟩
    split
    · exact ⟨by simp [rq0], by simp [rq0]⟩
    split
    · exact ⟨by simp [rq0], by simp [rq0]⟩
    · exact ⟨by simp [rq0], by simp [rq0]⟩
theorem refasked_in {l : List UInt8} (h : sizeErr l = 0) : refAskedErr l = if (parseQ tkText (bodyQ l)).2.2 = true ∨ askErr (parseQ tkText (bodyQ l)).1 ≠ 0 ∨ askB (parseQ tkText (bodyQ l)).1 ≠ l.take (fromB l + 4) then 3 else 0 := by
  unfold refAskedErr
  rw [if_neg (by rw [h]; simp)]
theorem refasked_size {l : List UInt8} (h : sizeErr l ≠ 0) : refAskedErr l = sizeErr l := by unfold refAskedErr; rw [if_pos h]
theorem RdS.mark {w : World} {g b : Nat} {s : St} (h : RdS w g b s) (v : Bool) : RdS (w.setCell ⟨g, 1, none⟩ (.bool v)) g b (s.1, v) := by
  obtain ⟨off, cap, h⟩ := h
  exact ⟨off, cap - 0, h.move 0 off (Nat.zero_le _) (fun _ => rfl) (by rw [cell_set h.c0]; rfl) (by rw [cell_set h.c1]; rfl) (fun q => by rw [frozen_set]) ((Chg.refl (fun k => k = g) _).setCell (.inl rfl) _)⟩
theorem RdS.b1 {w : World} {g b : Nat} {s : St} (h : RdS w g b s) : w.cell? ⟨g, 1, none⟩ = some (.bool s.2) := by obtain ⟨_, _, h⟩ := h; exact h.c1
theorem RdS.y1 {w : World} {g b : Nat} {s : St} (h : RdS w g b s) : w.frozen? ⟨g, 1, none⟩ = false := by obtain ⟨_, _, h⟩ := h; exact h.f1
/-- While a request is read: the reader, the request's block, the results' block. -/
structure Rg (T : TypeId) (zs : List Value) (w0 : World) (g b x : Nat) (cs : List Value) (s : St) (w : World) : Prop where
  rd : RdS w g b s
  bx : Box w x cs T
  bz : Box w w0.heap.size zs T
  ch : Chg Nil w0 w
theorem Rg.go {T : TypeId} {zs : List Value} {w0 : World} {g b x : Nat} {cs : List Value} {s s' : St} {w w' : World} (h : Rg T zs w0 g b x cs s w) (h1 : w0.heap.size < g) (h2 : g < x) (hc : Chg (fun k => k = g) w w') (hr : RdS w' g b s') : Rg T zs w0 g b x cs s' w' :=
  ⟨hr, h.bx.chg hc (by omega), h.bz.chg hc (by omega), h.ch.trans hc (fun i hi => .inr (by omega))⟩
theorem Rg.set {T : TypeId} {zs : List Value} {w0 : World} {g b x : Nat} {cs : List Value} {s : St} {w : World} (h : Rg T zs w0 g b x cs s w) (h1 : w0.heap.size < g) (h2 : g < x) (h3 : b < w0.heap.size) (j : Nat) (u : Value) : Rg T zs w0 g b x (cs.set j u) s (w.setCell ⟨x, j, none⟩ u) :=
  have hc : Chg (fun k => k = x) w (w.setCell ⟨x, j, none⟩ u) := (Chg.refl (fun k => k = x) w).setCell (.inl rfl) u
  ⟨h.rd.chg hc (by omega) (by omega), h.bx.set j u, h.bz.chg hc (by omega), h.ch.trans hc (fun i hi => .inr (by omega))⟩
theorem Rg.mark {T : TypeId} {zs : List Value} {w0 : World} {g b x : Nat} {cs : List Value} {s : St} {w : World} (h : Rg T zs w0 g b x cs s w) (h1 : w0.heap.size < g) (h2 : g < x) (v : Bool) : Rg T zs w0 g b x cs (s.1, v) (w.setCell ⟨g, 1, none⟩ (.bool v)) :=
  h.go h1 h2 ((Chg.refl (fun k => k = g) w).setCell (.inl rfl) _) (h.rd.mark v)
theorem Rg.lt {T : TypeId} {zs : List Value} {w0 : World} {g b x : Nat} {cs : List Value} {s : St} {w : World} (h : Rg T zs w0 g b x cs s w) : x < w.heap.size := (Array.getElem?_eq_some_iff.1 h.bx).1
end Go.Proofs.YtmklicodfiggnaaDoor
