/-
  An answer read: what its bytes tell, and when they are none. Plain data.
-/
import Derived.Test.YtmklicodfiggnaaDoorAskedC
import Derived.Test.YtmklicodfiggnaaDoorTellL
set_option linter.unusedSimpArgs false
namespace Go.Proofs.YtmklicodfiggnaaDoor
open Go.RowKit

def tpS (txt : Nat → St → List UInt8 × St) (s : St) : Tp × St :=
  let nm := txt 40 s
  let pt := numS nm.2
  let cp := truthS pt.2
  ({ name := ⟨nm.1.toArray⟩, parts := pt.1, compact := cp.1 }, cp.2)
def topsL (txt : Nat → St → List UInt8 × St) : Nat → St → List Tp → List Tp × St
  | 0, s, acc => (acc, s)
  | n + 1, s, acc => if s.2 = true then (acc, s) else topsL txt n (tpS txt s).2 (acc ++ [(tpS txt s).1])
theorem topsL_bad {txt : Nat → St → List UInt8 × St} {n : Nat} {s : St} {acc : List Tp} (h : s.2 = true) : topsL txt n s acc = (acc, s) := by
  cases n with
  | zero => rfl
  | succ n => rw [topsL, if_pos h]
theorem topsL_on {txt : Nat → St → List UInt8 × St} {n : Nat} {s : St} {acc : List Tp} (h : s.2 = false) : topsL txt (n + 1) s acc = topsL txt n (tpS txt s).2 (acc ++ [(tpS txt s).1]) := by
  rw [topsL, if_neg (by rw [h]; simp)]
def topsS (txt : Nat → St → List UInt8 × St) (s : St) : List Tp × St := topsL txt (numS s).1 (numS s).2 []
def offF (fd : Bool) (s : St) : Nat × St := if fd = true then numS s else (0, s)
def ar0 (k c e : Nat) : Ar := ⟨k, c, e, 0, 0, 0, false, [], []⟩
def ansS (txt : Nat → St → List UInt8 × St) (k : Nat) (r : Ar) (s : St) : Ar × St :=
  if k = 1 then ({ r with offset := (numS s).1 }, (numS s).2)
  else if k = 2 then ({ r with start := (numS s).1, fin := (numS (numS s).2).1, recs := (recsS txt true (numS (numS s).2).2).1 }, (recsS txt true (numS (numS s).2).2).2)
  else if k = 3 then ({ r with found := (truthS s).1, offset := (offF (truthS s).1 (truthS s).2).1 }, (offF (truthS s).1 (truthS s).2).2)
  else if k = 4 then ({ r with start := (numS s).1 }, (numS s).2)
  else if k = 7 then ({ r with tops := (topsS txt s).1 }, (topsS txt s).2)
  else (r, s)
def errOf (l : List UInt8) : Nat := (numS (numS (numS (l, false)).2).2).1
def parseA (txt : Nat → St → List UInt8 × St) (l : List UInt8) : Ar × St :=
  let k := numS (l, false)
  let c := numS k.2
  let e := numS c.2
  if e.1 = 0 then ansS txt k.1 (ar0 k.1 c.1 e.1) e.2 else (ar0 k.1 c.1 e.1, e.2)
def goodA (l : List UInt8) : Prop := (1 ≤ kindOf l ∧ kindOf l ≤ 7) ∧ errOf l ≤ 15 ∧ (parseA wText l).2.2 = false ∧ (parseA wText l).2.1 = []
instance (l : List UInt8) : Decidable (goodA l) := by unfold goodA; infer_instance
def toldErr (l : List UInt8) : Nat := if sizeErr l ≠ 0 then sizeErr l else if goodA (bodyQ l) then 0 else 3
def refToldErr (l : List UInt8) : Nat :=
  if sizeErr l ≠ 0 then sizeErr l else if (parseA tkText (bodyQ l)).2.2 = true ∨ tellErr (parseA tkText (bodyQ l)).1 ≠ 0 ∨ tellB (parseA tkText (bodyQ l)).1 ≠ l.take (fromB l + 4) then 3 else 0

theorem offF_bad {fd : Bool} {s : St} (h : (offF fd s).2.2 = false) : s.2 = false := by
  unfold offF at h
  split at h
  · exact numS_bad h
  · exact h
theorem offF_sticky {fd : Bool} {s : St} (h : s.2 = true) : (offF fd s).2.2 = true := by
  unfold offF
  split
  · exact numS_sticky h
  · exact h
theorem tpS_bad {s : St} (h : (tpS wText s).2.2 = false) : s.2 = false := numS_bad (wText_bad (numS_bad (numS_bad (truthS_bad h))))
theorem tp_wrt {p : List UInt8} (h : (tpS wText (p, false)).2.2 = false) : Wrt p (tpS wText (p, false)).2.1 (fun s => tpW s (tpS wText (p, false)).1) := by
  unfold tpS at h ⊢
  simp only at h ⊢
  have b2 := numS_bad (truthS_bad h)
  have b1 := numS_bad b2
  have w1 := text_wrt b1
  generalize wText 40 (p, false) = nm at *
  rw [st_eta b1] at b2 h ⊢
  have w2 := num_wrt b2
  generalize numS (nm.2.1, false) = pt at *
  rw [st_eta b2] at h ⊢
  exact (w1.comp w2).comp (truth_wrt h)
theorem topsL_sound : ∀ {n : Nat} {s : St} {acc : List Tp}, (topsL wText n s acc).2.2 = false → s.2 = false
  | 0, _, _, h => h
  | n + 1, s, acc, h => by
    by_cases hb : s.2 = true
    · rw [topsL_bad hb] at h
      rw [hb] at h; cases h
    · simpa using hb
theorem topsL_wrt : ∀ {n : Nat} {p : List UInt8} {acc : List Tp}, (topsL wText n (p, false) acc).2.2 = false →
    ∃ rs, (topsL wText n (p, false) acc).1 = acc ++ rs ∧ rs.length = n ∧ Wrt p (topsL wText n (p, false) acc).2.1 (fun s => rs.foldl tpW s)
  | 0, p, acc, _ => ⟨[], by simp [topsL], rfl, Wrt.refl p⟩
  | n + 1, p, acc, h => by
    rw [topsL_on rfl] at h ⊢
    have hb := topsL_sound h
    have e := tp_wrt hb
    rw [st_eta hb] at h ⊢
    obtain ⟨rs, h1, h2, h3⟩ := topsL_wrt h
    exact ⟨(tpS wText (p, false)).1 :: rs, by rw [h1]; simp, by simp [h2], e.comp h3⟩
theorem tops_wrt {p : List UInt8} (h : (topsS wText (p, false)).2.2 = false) : Wrt p (topsS wText (p, false)).2.1 (fun s => topsW s (topsS wText (p, false)).1) := by
  unfold topsS at h ⊢
  have b1 := topsL_sound h
  have e1 := num_wrt b1
  generalize numS (p, false) = n at *
  rw [st_eta b1] at h ⊢
  obtain ⟨rs, h1, h2, h3⟩ := topsL_wrt h
  rw [List.nil_append] at h1
  rw [h1]
  refine (e1.comp h3).of_eq fun L => ?_
  unfold topsW
  rw [h2]
theorem topsS_bad {s : St} (h : (topsS wText s).2.2 = false) : s.2 = false := numS_bad (topsL_sound h)
theorem topsL_sticky {txt : Nat → St → List UInt8 × St} {n : Nat} {s : St} {acc : List Tp} (h : s.2 = true) : (topsL txt n s acc).2.2 = true := by rw [topsL_bad h]; exact h

theorem tpS_alk (s : St) : Alk (tpS tkText s) (tpS wText s) := by
  unfold tpS
  simp only
  rcases text_alk 40 s with e | ⟨e1, e2⟩
  · rw [e]; exact .inl rfl
  · exact .inr ⟨truthS_sticky (numS_sticky e1), truthS_sticky (numS_sticky e2)⟩
theorem topsL_alk : ∀ (n : Nat) (s : St) (acc : List Tp), Alk (topsL tkText n s acc) (topsL wText n s acc)
  | 0, s, acc => .inl rfl
  | n + 1, s, acc => by
    by_cases hb : s.2 = true
    · rw [topsL_bad hb, topsL_bad hb]; exact .inl rfl
    · have hb' : s.2 = false := by simpa using hb
      rw [topsL_on hb', topsL_on hb']
      rcases tpS_alk s with e | ⟨e1, e2⟩
      · rw [e]; exact topsL_alk n _ _
      · rw [topsL_bad e1, topsL_bad e2]; exact .inr ⟨e1, e2⟩
theorem ansS_alk (k : Nat) (r : Ar) (s : St) : Alk (ansS tkText k r s) (ansS wText k r s) := by
  unfold ansS
  split
  · exact .inl rfl
  split
  · rcases recsS_alk true (numS (numS s).2).2 with e | ⟨e1, e2⟩
    · rw [e]; exact .inl rfl
    · exact .inr ⟨e1, e2⟩
  split
  · exact .inl rfl
  split
  · exact .inl rfl
  split
  · rcases topsL_alk (numS s).1 (numS s).2 [] with e | ⟨e1, e2⟩
    · unfold topsS; rw [e]; exact .inl rfl
    · exact .inr ⟨e1, e2⟩
  · exact .inl rfl
theorem parseA_alk (l : List UInt8) : Alk (parseA tkText l) (parseA wText l) := by
  unfold parseA
  simp only
  split
  · exact ansS_alk _ _ _
  · exact .inl rfl
theorem ansS_sticky {txt : Nat → St → List UInt8 × St} {k : Nat} {r : Ar} {s : St} (h : s.2 = true) : (ansS txt k r s).2.2 = true := by
  unfold ansS
  split
  · exact numS_sticky h
  split
  · exact recsL_sticky (numS_sticky (numS_sticky (numS_sticky h)))
  split
  · exact offF_sticky (truthS_sticky h)
  split
  · exact numS_sticky h
  split
  · exact topsL_sticky (numS_sticky h)
  · exact h
theorem ansS_bad {k : Nat} {r : Ar} {s : St} (h : (ansS wText k r s).2.2 = false) : s.2 = false := by
  cases hs : s.2 with
  | false => rfl
  | true => rw [ansS_sticky hs] at h; cases h
theorem ansS_kind (txt : Nat → St → List UInt8 × St) (k : Nat) (r : Ar) (s : St) : (ansS txt k r s).1.kind = r.kind ∧ (ansS txt k r s).1.corr = r.corr ∧ (ansS txt k r s).1.err = r.err := by
  unfold ansS
  split
  · exact ⟨rfl, rfl, rfl⟩
  split
  · exact ⟨rfl, rfl, rfl⟩
  split
  · exact ⟨rfl, rfl, rfl⟩
  split
  · exact ⟨rfl, rfl, rfl⟩
  split
  · exact ⟨rfl, rfl, rfl⟩
  · exact ⟨rfl, rfl, rfl⟩
theorem parseA_kind (txt : Nat → St → List UInt8 × St) (l : List UInt8) : (parseA txt l).1.kind = kindOf l ∧ (parseA txt l).1.corr = (numS (numS (l, false)).2).1 ∧ (parseA txt l).1.err = errOf l := by
  unfold parseA
  simp only
  split
  · exact ansS_kind _ _ _ _
  · exact ⟨rfl, rfl, rfl⟩
theorem ans_wrt {k c e : Nat} {p : List UInt8} (h : (ansS wText k (ar0 k c e) (p, false)).2.2 = false) :
    Wrt p (ansS wText k (ar0 k c e) (p, false)).2.1 (fun s => ansW s (ansS wText k (ar0 k c e) (p, false)).1) := by
  by_cases h1 : k = 1
  · subst h1
    exact num_wrt h
  by_cases h2 : k = 2
  · subst h2
    have e : ansS wText 2 (ar0 2 c e) (p, false) = ({ ar0 2 c e with start := (numS (p, false)).1, fin := (numS (numS (p, false)).2).1, recs := (recsS wText true (numS (numS (p, false)).2).2).1 }, (recsS wText true (numS (numS (p, false)).2).2).2) := rfl
    rw [e] at h ⊢
    simp only at h ⊢
    have b1 := recsS_bad h
    have b0 := numS_bad b1
    have w1 := num_wrt b0
    generalize numS (p, false) = a at *
    rw [st_eta b0] at b1 h ⊢
    have w2 := num_wrt b1
    generalize numS (a.2.1, false) = d at *
    rw [st_eta b1] at h ⊢
    exact (w1.comp w2).comp (recs_wrt h)
  by_cases h3 : k = 3
  · subst h3
    have e : ansS wText 3 (ar0 3 c e) (p, false) = ({ ar0 3 c e with found := (truthS (p, false)).1, offset := (offF (truthS (p, false)).1 (truthS (p, false)).2).1 }, (offF (truthS (p, false)).1 (truthS (p, false)).2).2) := rfl
    rw [e] at h ⊢
    simp only at h ⊢
    have b1 := offF_bad h
    have w1 := truth_wrt b1
    generalize truthS (p, false) = a at *
    rw [st_eta b1] at h ⊢
    obtain ⟨fd, q⟩ := a
    cases fd with
    | true => exact w1.comp (num_wrt h)
    | false => exact w1
  by_cases h4 : k = 4
  · subst h4
    exact num_wrt h
  by_cases h7 : k = 7
  · subst h7
    exact tops_wrt h
  · have e : ansS wText k (ar0 k c e) (p, false) = (ar0 k c e, (p, false)) := by unfold ansS; rw [if_neg h1, if_neg h2, if_neg h3, if_neg h4, if_neg h7]
    rw [e]
    refine (Wrt.refl p).of_eq fun L => ?_
    unfold ansW ar0
    simp only
    rw [if_neg (by omega), if_neg (by omega), if_neg (by omega), if_neg (by omega), if_neg (by omega)]
theorem parseA_wrt {l : List UInt8} (h : (parseA wText l).2.2 = false) : Wrt l (parseA wText l).2.1 (fun s => tellW s (parseA wText l).1) := by
  obtain ⟨k1, k2, k3⟩ := parseA_kind wText l
  have key : ∀ P, P = parseA wText l → Wrt l P.2.1 (fun s => if (errOf l : Int) = 0 then ansW (numsW s [(kindOf l : Int), ((numS (numS (l, false)).2).1 : Int), (errOf l : Int)]) P.1 else numsW s [(kindOf l : Int), ((numS (numS (l, false)).2).1 : Int), (errOf l : Int)]) := by
    intro P hP
    rw [hP]
    unfold errOf kindOf
    unfold parseA at h ⊢
    simp only at h ⊢
    have b3 : (numS (numS (numS (l, false)).2).2).2.2 = false := by
      by_cases g : (numS (numS (numS (l, false)).2).2).1 = 0
      · rw [if_pos g] at h; exact ansS_bad h
      · rw [if_neg g] at h; exact h
    have b2 := numS_bad b3
    have b1 := numS_bad b2
    have w1 := num_wrt b1
    generalize numS (l, false) = k at *
    rw [st_eta b1] at b2 b3 h ⊢
    have w2 := num_wrt b2
    generalize numS (k.2.1, false) = c at *
    rw [st_eta b2] at b3 h ⊢
    have w3 := num_wrt b3
    generalize numS (c.2.1, false) = e at *
    rw [st_eta b3] at h ⊢
    by_cases g : e.1 = 0
    · have g' : (e.1 : Int) = 0 := by omega
      rw [if_pos g] at h ⊢
      simp only [if_pos g']
      exact ((w1.comp w2).comp w3).comp (ans_wrt h)
    · have g' : ¬ (e.1 : Int) = 0 := by omega
      rw [if_neg g]
      simp only [if_neg g']
      exact (w1.comp w2).comp w3
  refine (key _ rfl).of_eq fun L => ?_
  unfold tellW
  rw [k1, k2, k3]

theorem told_alike (l : List UInt8) : refToldErr l = toldErr l ∧ (toldErr l = 0 → parseA tkText (bodyQ l) = parseA wText (bodyQ l)) := by
  unfold refToldErr toldErr
  by_cases hs : sizeErr l ≠ 0
  · rw [if_pos hs, if_pos hs]; exact ⟨rfl, fun h => absurd h hs⟩
  rw [if_neg hs, if_neg hs]
  have hs' := Classical.not_not.1 hs
  have hbl := bodyQ_len hs'
  have h4l : 4 ≤ l.length ∧ fromB l + 4 ≤ l.length ∧ fromB l ≤ 10000 := by
    unfold sizeErr at hs'
    by_cases g1 : l.length < 4
    · rw [if_pos g1] at hs'; cases hs'
    rw [if_neg g1] at hs'
    by_cases g2 : fromB l < 1 ∨ 10000 < fromB l
    · rw [if_pos g2] at hs'; cases hs'
    rw [if_neg g2] at hs'
    by_cases g3 : l.length < fromB l + 4
    · rw [if_pos g3] at hs'; cases hs'
    omega
  have hfr : l.take (fromB l + 4) = four (bodyQ l).length ++ bodyQ l := by
    rw [hbl, four_fromB (by omega)]
    unfold bodyQ
    have e := (List.take_append_drop 4 (l.take (fromB l + 4))).symm
    rw [List.take_take, show min 4 (fromB l + 4) = 4 by omega] at e
    exact e
  have back : (parseA wText (bodyQ l)).2.2 = false → ∃ c, bodyQ l = c ++ (parseA wText (bodyQ l)).2.1 ∧ tellW ([], 0) (parseA wText (bodyQ l)).1 = (c, 0) := by
    intro hb
    obtain ⟨c, h1, h2⟩ := parseA_wrt hb
    exact ⟨c, h1, by have := h2 []; simpa using this⟩
  have hal := parseA_alk (bodyQ l)
  obtain ⟨hkd, _, hke⟩ := parseA_kind wText (bodyQ l)
  by_cases hg : goodA (bodyQ l)
  · obtain ⟨hk, he, hb, hr⟩ := hg
    have heq : parseA tkText (bodyQ l) = parseA wText (bodyQ l) := hal.elim id fun h => by rw [hb] at h; exact absurd h.2 (by simp)
    refine ⟨?_, fun _ => heq⟩
    rw [heq, if_pos (show goodA (bodyQ l) from ⟨hk, he, hb, hr⟩), if_neg]
    obtain ⟨c, h1, h2⟩ := back hb
    rw [hr, List.append_nil] at h1
    rw [← h1] at h2
    rintro (h | h | h)
    · rw [hb] at h; cases h
    · apply h
      unfold tellErr
      rw [hkd, hke, if_neg (by omega), h2]
      unfold frameErr
      simp only [ne_eq, not_true_eq_false, if_false]
      rw [if_neg (by omega)]
    · apply h
      unfold tellB frameB
      rw [h2, hfr]
  · rw [if_neg hg]
    refine ⟨?_, by simp⟩
    rw [if_pos]
    refine Classical.byContradiction fun hn => hg ?_
    rw [not_or, not_or] at hn
    obtain ⟨n1, n2, n3⟩ := hn
    have n1 : (parseA tkText (bodyQ l)).2.2 = false := by simpa using n1
    have n2 := Classical.not_not.1 n2
    have n3 := Classical.not_not.1 n3
    have heq : parseA tkText (bodyQ l) = parseA wText (bodyQ l) := hal.elim id fun h => by rw [n1] at h; exact absurd h.1 (by simp)
    rw [heq] at n1 n2 n3
    have hk : (1 ≤ kindOf (bodyQ l) ∧ kindOf (bodyQ l) ≤ 7) ∧ errOf (bodyQ l) ≤ 15 := by
      refine Classical.byContradiction fun hk => ?_
      unfold tellErr at n2
      rw [hkd, hke, if_pos (by omega)] at n2
      cases n2
    refine ⟨hk.1, hk.2, n1, ?_⟩
    obtain ⟨c, h1, h2⟩ := back n1
    unfold tellB frameB at n3
    rw [h2, hfr] at n3
    have hl := congrArg List.length n3
    rw [List.length_append, List.length_append] at hl
    have h4 : ∀ m, (four m).length = 4 := fun _ => rfl
    rw [h4, h4] at hl
    have h3 := congrArg List.length h1
    rw [List.length_append] at h3
    exact List.eq_nil_of_length_eq_zero (by simp only at hl; omega)

/-- An answer's cells, its slices given. -/
def arCells (x : Ar) (v u : Value) : List Value := [.int .i64 x.kind, .int .i64 x.corr, .int .i64 x.err, .int .i64 x.offset, .int .i64 x.start, .int .i64 x.fin, .bool x.found, v, u]
def headS (k e : Nat) (s : St) : St := (s.1, (s.2 || !okK k) || decide (15 < e))
def chainA (l : List UInt8) : Ar × St :=
  let k := numS (l, false)
  let c := numS k.2
  let e := numS c.2
  let h := headS k.1 e.1 e.2
  if e.1 = 0 ∧ h.2 = false then ansS wText k.1 (ar0 k.1 c.1 e.1) h else (ar0 k.1 c.1 e.1, h)
theorem headS_false {k e : Nat} {s : St} : (headS k e s).2 = false ↔ s.2 = false ∧ (1 ≤ k ∧ k ≤ 7) ∧ e ≤ 15 := by
  unfold headS okK
  simp only [Bool.or_eq_false_iff, Bool.not_eq_false', decide_eq_true_eq, decide_eq_false_iff_not, Nat.not_lt]
  exact ⟨fun ⟨⟨a, b⟩, c⟩ => ⟨a, b, c⟩, fun ⟨a, b, c⟩ => ⟨⟨a, b⟩, c⟩⟩
theorem headS_on {k e : Nat} {s : St} (h : (headS k e s).2 = false) : headS k e s = s := by
  have h1 := (headS_false.1 h).1
  rw [st_eta h, st_eta h1]
  rfl
theorem chainA_head {l : List UInt8} (h : (chainA l).2.2 = false) : (headS (kindOf l) (errOf l) (numS (numS (numS (l, false)).2).2).2).2 = false := by
  unfold chainA at h
  simp only at h
  unfold kindOf errOf
  by_cases g : (numS (numS (numS (l, false)).2).2).1 = 0 ∧ (headS (numS (l, false)).1 (numS (numS (numS (l, false)).2).2).1 (numS (numS (numS (l, false)).2).2).2).2 = false
  · exact g.2
  · rw [if_neg g] at h; exact h
theorem chainA_parse {l : List UInt8} (h : (headS (kindOf l) (errOf l) (numS (numS (numS (l, false)).2).2).2).2 = false) : chainA l = parseA wText l := by
  have e := headS_on h
  unfold kindOf errOf at h e
  unfold chainA parseA
  simp only
  rw [e]
  by_cases g : (numS (numS (numS (l, false)).2).2).1 = 0
  · rw [if_pos g, if_pos ⟨g, by rw [e] at h; exact h⟩]
  · rw [if_neg g, if_neg (fun h => g h.1)]
theorem parseA_sound {l : List UInt8} (h : (parseA wText l).2.2 = false) : (numS (numS (numS (l, false)).2).2).2.2 = false := by
  unfold parseA at h
  simp only at h
  by_cases g : (numS (numS (numS (l, false)).2).2).1 = 0
  · rw [if_pos g] at h; exact ansS_bad h
  · rw [if_neg g] at h; exact h
theorem chain_goodA (l : List UInt8) : goodA l ↔ (chainA l).2.2 = false ∧ (chainA l).2.1 = [] := by
  constructor
  · rintro ⟨hk, he, hb, hr⟩
    have h := headS_false.2 ⟨parseA_sound hb, hk, he⟩
    rw [chainA_parse h]
    exact ⟨hb, hr⟩
  · rintro ⟨hb, hr⟩
    have h := chainA_head hb
    have e := chainA_parse h
    rw [e] at hb hr
    obtain ⟨_, hk, he⟩ := headS_false.1 h
    exact ⟨hk, he, hb, hr⟩
theorem told_in {l : List UInt8} (h : sizeErr l = 0) : toldErr l = if (chainA (bodyQ l)).2.2 = false ∧ (chainA (bodyQ l)).2.1 = [] then 0 else 3 := by
  unfold toldErr
  rw [if_neg (by rw [h]; simp)]
  by_cases g : goodA (bodyQ l)
  · rw [if_pos g, if_pos ((chain_goodA _).1 g)]
  · rw [if_neg g, if_neg (fun h => g ((chain_goodA _).2 h))]
theorem told_size {l : List UInt8} (h : sizeErr l ≠ 0) : toldErr l = sizeErr l := by unfold toldErr; rw [if_pos h]
theorem told_parse {l : List UInt8} (h : toldErr l = 0) : chainA (bodyQ l) = parseA wText (bodyQ l) := by
  have hs : sizeErr l = 0 := by
    refine Classical.byContradiction fun hs => ?_
    rw [told_size hs] at h
    exact hs h
  have hg : goodA (bodyQ l) := by
    refine Classical.byContradiction fun hg => ?_
    unfold toldErr at h
    rw [if_neg (by rw [hs]; simp), if_neg hg] at h
    cases h
  exact chainA_parse (chainA_head ((chain_goodA _).1 hg).1)
theorem reftold_in {l : List UInt8} (h : sizeErr l = 0) : refToldErr l = if (parseA tkText (bodyQ l)).2.2 = true ∨ tellErr (parseA tkText (bodyQ l)).1 ≠ 0 ∨ tellB (parseA tkText (bodyQ l)).1 ≠ l.take (fromB l + 4) then 3 else 0 := by
  unfold refToldErr
  rw [if_neg (by rw [h]; simp)]
theorem reftold_size {l : List UInt8} (h : sizeErr l ≠ 0) : refToldErr l = sizeErr l := by unfold refToldErr; rw [if_pos h]

theorem tpS_short {s : St} (h : (tpS tkText s).2.2 = false) : (tpS tkText s).2.1.length < s.1.length := by
  unfold tpS at h ⊢
  simp only at h ⊢
  have h1 := (numS_short (numS_bad (truthS_bad h))).2
  exact Nat.lt_of_le_of_lt truthS_len (Nat.lt_of_lt_of_le h1 tkText_len)
theorem tpS_le (s : St) : (tpS tkText s).1.name.size ≤ 40 := by
  unfold tpS
  simp only [bsize]
  exact tkText_le 40 s
theorem topsL_count : ∀ (n : Nat) (s : St) (acc : List Tp), (topsL tkText n s acc).1.length ≤ acc.length + s.1.length + 1
  | 0, s, acc => by simp only [topsL]; omega
  | n + 1, s, acc => by
    by_cases hb : s.2 = true
    · rw [topsL_bad hb]; simp only; omega
    · rw [topsL_on (by simpa using hb)]
      by_cases hq : (tpS tkText s).2.2 = true
      · rw [topsL_bad hq]; simp only [List.length_append, List.length_cons, List.length_nil]; omega
      · have h1 := @tpS_short s (by simpa using hq)
        have h2 := topsL_count n (tpS tkText s).2 (acc ++ [(tpS tkText s).1])
        simp only [List.length_append, List.length_cons, List.length_nil] at h2
        omega
theorem topsL_le : ∀ (n : Nat) (s : St) (acc : List Tp), (∀ r ∈ acc, r.name.size ≤ 40) → ∀ r ∈ (topsL tkText n s acc).1, r.name.size ≤ 40
  | 0, s, acc, h => h
  | n + 1, s, acc, h => by
    by_cases hb : s.2 = true
    · rw [topsL_bad hb]; exact h
    · rw [topsL_on (by simpa using hb)]
      refine topsL_le n _ _ fun r hr => ?_
      rcases List.mem_append.1 hr with h1 | h1
      · exact h r h1
      · obtain rfl := List.mem_singleton.1 h1
        exact tpS_le s
theorem topsS_count (s : St) : (topsS tkText s).1.length ≤ s.1.length + 1 := by
  have h := topsL_count (numS s).1 (numS s).2 []
  have h2 := numS_len s
  unfold topsS
  simp only [List.length_nil] at h
  omega
/-- How much an answer that was read can hold. -/
theorem ansS_le (k c e : Nat) (s : St) : (ansS tkText k (ar0 k c e) s).1.recs.length ≤ s.1.length + 1 ∧ (∀ r ∈ (ansS tkText k (ar0 k c e) s).1.recs, r.key.size ≤ 1048576 ∧ r.value.size ≤ 1048576) ∧ (ansS tkText k (ar0 k c e) s).1.tops.length ≤ s.1.length + 1 ∧ ∀ t ∈ (ansS tkText k (ar0 k c e) s).1.tops, t.name.size ≤ 1048576 := by
  unfold ansS
  split
  · exact ⟨by simp [ar0], by simp [ar0], by simp [ar0], by simp [ar0]⟩
  split
  · refine ⟨?_, fun r hr => ?_, by simp [ar0], by simp [ar0]⟩
    · have e1 := recsS_count true (numS (numS s).2).2
      have e2 := numS_len s
      have e3 := numS_len (numS s).2
      simp only
      omega
    · have := recsS_le true _ r hr
      omega
  split
  · exact ⟨by simp [ar0], by simp [ar0], by simp [ar0], by simp [ar0]⟩
  split
  · exact ⟨by simp [ar0], by simp [ar0], by simp [ar0], by simp [ar0]⟩
  split
  · refine ⟨by simp [ar0], by simp [ar0], topsS_count s, fun t ht => ?_⟩
    have := topsL_le (numS s).1 (numS s).2 [] (by simp) t ht
    omega
  · exact ⟨by simp [ar0], by simp [ar0], by simp [ar0], by simp [ar0]⟩
theorem parseA_le (l : List UInt8) : (parseA tkText l).1.recs.length ≤ l.length + 1 ∧ (∀ r ∈ (parseA tkText l).1.recs, r.key.size ≤ 1048576 ∧ r.value.size ≤ 1048576) ∧ (parseA tkText l).1.tops.length ≤ l.length + 1 ∧ ∀ t ∈ (parseA tkText l).1.tops, t.name.size ≤ 1048576 := by
  have e1 := numS_len (l, false)
  have e2 := numS_len (numS (l, false)).2
  have e3 := numS_len (numS (numS (l, false)).2).2
  simp only at e1
  unfold parseA
  simp only
  split
  · obtain ⟨h1, h2, h3, h4⟩ := ansS_le (numS (l, false)).1 (numS (numS (l, false)).2).1 (numS (numS (numS (l, false)).2).2).1 (numS (numS (numS (l, false)).2).2).2
    exact ⟨by omega, h2, by omega, h4⟩
  · exact ⟨by simp [ar0], by simp [ar0], by simp [ar0], by simp [ar0]⟩
end Go.Proofs.YtmklicodfiggnaaDoor
