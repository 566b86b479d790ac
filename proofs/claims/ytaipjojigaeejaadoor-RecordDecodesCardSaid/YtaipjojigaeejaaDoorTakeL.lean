/-
  What the document's reader (taker) reads of a batch's bytes; it is what the program reads; and what was read is written by just these bytes. Plain Lean.
-/
import Derived.Test.YtaipjojigaeejaaDoorRecordedW
import Derived.Test.YtaipjojigaeejaaDoorOwnL
namespace Go.Proofs.YtaipjojigaeejaaDoor
open Go.RowKit

def tkText (most : Nat) (s : St) : List UInt8 × St :=
  if (numS s).2.2 = true ∨ most < (numS s).1 ∨ (numS s).2.1.length < (numS s).1 then ([], ((numS s).2.1, true))
  else ((numS s).2.1.take (numS s).1, ((numS s).2.1.drop (numS s).1, false))
def tkKey (f : Nat) (s : St) : List UInt8 × St := if f % 2 = 1 then tkText 10000 s else ([], s)
def tkVal (f : Nat) (s : St) : List UInt8 × St := if f / 2 = 1 then ([], s) else tkText 10000 s
def tkMk (base : Int) (o t f : Nat) (k v : List UInt8) : Rec := { off := base + o, time := t, keyed := decide (f % 2 = 1), key := ⟨k.toArray⟩, gone := decide (f / 2 = 1), value := ⟨v.toArray⟩ }
def tkRec (base : Int) (s : St) : Rec × St :=
  let a := numS s
  let b := numS a.2
  let f := numS b.2
  let k := tkKey f.1 (flagS f.1 f.2)
  let v := tkVal f.1 k.2
  (tkMk base a.1 b.1 f.1 k.1 v.1, v.2)
def tkRecs (base : Int) : Nat → St → List Rec → List Rec × St
  | 0, s, acc => (acc, s)
  | n + 1, s, acc => if s.2 = true then (acc, s) else tkRecs base n (tkRec base s).2 (acc ++ [(tkRec base s).1])
theorem tkRecs_zero (base : Int) (s : St) (acc : List Rec) : tkRecs base 0 s acc = (acc, s) := rfl
theorem tkRecs_bad {base : Int} {n : Nat} {s : St} {acc : List Rec} (h : s.2 = true) : tkRecs base n s acc = (acc, s) := by
  cases n with
  | zero => rfl
  | succ n => rw [tkRecs, if_pos h]
theorem tkRecs_on {base : Int} {n : Nat} {s : St} {acc : List Rec} (h : s.2 = false) : tkRecs base (n + 1) s acc = tkRecs base n (tkRec base s).2 (acc ++ [(tkRec base s).1]) := by
  rw [tkRecs, if_neg (by rw [h]; simp)]
def tkParse (l : List UInt8) : Parsed :=
  let b := numS (l, false)
  let e := numS b.2
  let n := numS e.2
  let r := tkRecs b.1 n.1 n.2 []
  { base := b.1, len := e.1, recs := r.1, st := r.2 }

/-- Alike, or both were bad. -/
def Alk {α : Type} (x y : α × St) : Prop := x = y ∨ (x.2.2 = true ∧ y.2.2 = true)

theorem numS_sticky {s : St} (h : s.2 = true) : (numS s).2.2 = true := by unfold numS; simp [h]
theorem tkText_sticky {m : Nat} {s : St} (h : s.2 = true) : (tkText m s).2.2 = true := by
  unfold tkText
  rw [if_pos (.inl (numS_sticky h))]
theorem textSt_sticky {s : St} (h : s.2 = true) : (textSt s).2.2 = true := by unfold textSt textBad; simp [h]
theorem tkText_alk {most : Nat} {s : St} (h : s.1.length ≤ most) : Alk (tkText most s) (textSt s) := by
  unfold Alk
  have hn : (numS s).1 = (get s.1).1 := rfl
  have hd : (numS s).2.1 = s.1.drop (get s.1).2 := rfl
  have hb : (numS s).2.2 = (s.2 || (get s.1).2 == 0) := rfl
  have hl : (s.1.drop (get s.1).2).length ≤ s.1.length := by rw [List.length_drop]; omega
  by_cases hB : textBad s.1 s.2 = true
  · refine .inr ⟨?_, hB⟩
    unfold textBad at hB
    rw [Bool.or_eq_true, decide_eq_true_eq, ← hb, ← hd, ← hn] at hB
    unfold tkText
    rw [if_pos (hB.elim .inl fun h => .inr (.inr h))]
  · left
    have hB' := Bool.not_eq_true _ ▸ hB
    unfold textBad at hB
    rw [Bool.or_eq_true, decide_eq_true_eq, ← hb, not_or] at hB
    obtain ⟨h1, h2⟩ := hB
    unfold tkText
    rw [hn, hd, if_neg (by rintro (h | h | h); exact h1 h; omega; exact h2 h)]
    unfold textSt textS textRest textN
    rw [if_neg h2, hB']
theorem tkText_len {m : Nat} (s : St) : (tkText m s).2.1.length ≤ s.1.length := by
  have := numS_len s
  unfold tkText
  split
  · exact this
  · simp only [List.length_drop]; omega

theorem tkKey_alk {f : Nat} {s : St} (h : s.1.length ≤ 10000) : Alk (tkKey f s) (keyOf f s) := by
  unfold tkKey keyOf
  by_cases hf : f % 2 = 1
  · rw [if_pos hf, if_pos hf]; exact tkText_alk h
  · rw [if_neg hf, if_neg hf]; exact .inl rfl
theorem tkKey_sticky {f : Nat} {s : St} (h : s.2 = true) : (tkKey f s).2.2 = true := by
  unfold tkKey
  split
  · exact tkText_sticky h
  · exact h
theorem keyOf_sticky {f : Nat} {s : St} (h : s.2 = true) : (keyOf f s).2.2 = true := by
  unfold keyOf
  split
  · exact textSt_sticky h
  · exact h
theorem tkVal_sticky {f : Nat} {s : St} (h : s.2 = true) : (tkVal f s).2.2 = true := by
  unfold tkVal
  split
  · exact h
  · exact tkText_sticky h
theorem valOfS_sticky {f : Nat} {s : St} (h : s.2 = true) : (valOfS f s).2.2 = true := by
  unfold valOfS
  split
  · exact h
  · exact textSt_sticky h
theorem tkVal_alk {f : Nat} {s : St} (hf : f ≤ 3) (h : s.1.length ≤ 10000) : Alk (tkVal f s) (valOfS f s) := by
  unfold tkVal valOfS
  by_cases hg : f / 2 = 1
  · rw [if_pos hg, if_pos (by omega)]; exact .inl rfl
  · rw [if_neg hg, if_neg (by omega)]; exact tkText_alk h
theorem tkKey_len {f : Nat} (s : St) : (tkKey f s).2.1.length ≤ s.1.length := by
  unfold tkKey
  split
  · exact tkText_len s
  · exact Nat.le_refl _
theorem tkVal_len {f : Nat} (s : St) : (tkVal f s).2.1.length ≤ s.1.length := by
  unfold tkVal
  split
  · exact Nat.le_refl _
  · exact tkText_len s

theorem tkRec_alk {base : Int} {s : St} (h : s.1.length ≤ 10000) : Alk (tkRec base s) (decRec base s) := by
  unfold tkRec decRec
  simp only
  have l1 := numS_len s
  have l2 := numS_len (numS s).2
  have l3 := numS_len (numS (numS s).2).2
  generalize numS s = a at *
  generalize numS a.2 = b at *
  generalize numS b.2 = f at *
  have l4 : (flagS f.1 f.2).1.length ≤ 10000 := by have e : (flagS f.1 f.2).1 = f.2.1 := rfl; rw [e]; omega
  have hfl : (flagS f.1 f.2).2 = (f.2.2 || decide (3 < f.1)) := rfl
  generalize flagS f.1 f.2 = g at *
  by_cases hb : g.2 = true
  · exact .inr ⟨tkVal_sticky (tkKey_sticky hb), valOfS_sticky (keyOf_sticky hb)⟩
  · have h3 : f.1 ≤ 3 := by
      rw [hfl, Bool.or_eq_true, decide_eq_true_eq, not_or] at hb
      omega
    rcases tkKey_alk (f := f.1) l4 with e | ⟨e1, e2⟩
    · rw [e]
      have l5 := (keyOf_le f.1 g).2
      generalize keyOf f.1 g = k at *
      rcases tkVal_alk (f := f.1) (s := k.2) h3 (by omega) with e | ⟨e1, e2⟩
      · rw [e]
        left
        unfold tkMk mkRec
        have e : decide (f.1 / 2 = 1) = decide (f.1 / 2 % 2 = 1) := by
          by_cases hg : f.1 / 2 = 1
          · rw [decide_eq_true hg, decide_eq_true (by omega)]
          · rw [decide_eq_false hg, decide_eq_false (by omega)]
        rw [e]
      · exact .inr ⟨e1, e2⟩
    · exact .inr ⟨tkVal_sticky e1, valOfS_sticky e2⟩
theorem tkRec_len {base : Int} (s : St) : (tkRec base s).2.1.length ≤ s.1.length := by
  unfold tkRec
  simp only
  have l1 := numS_len s
  have l2 := numS_len (numS s).2
  have l3 := numS_len (numS (numS s).2).2
  generalize numS s = a at *
  generalize numS a.2 = b at *
  generalize numS b.2 = f at *
  have l4 := tkKey_len (f := f.1) (flagS f.1 f.2)
  have e : (flagS f.1 f.2).1 = f.2.1 := rfl
  rw [e] at l4
  have l5 := tkVal_len (f := f.1) (tkKey f.1 (flagS f.1 f.2)).2
  omega
theorem tkRecs_alk {base : Int} : ∀ {n : Nat} {s : St} {acc : List Rec}, s.1.length ≤ 10000 → Alk (tkRecs base n s acc) (decRecs base n s acc)
  | 0, s, acc, _ => .inl rfl
  | n + 1, s, acc, h => by
    by_cases hb : s.2 = true
    · rw [tkRecs_bad hb, decRecs_bad hb]; exact .inl rfl
    · have hb' : s.2 = false := by simpa using hb
      rw [tkRecs_on hb', decRecs_on hb']
      rcases tkRec_alk (base := base) h with e | ⟨e1, e2⟩
      · have := tkRec_len (base := base) s
        rw [e] at this ⊢
        exact tkRecs_alk (by omega)
      · rw [tkRecs_bad e1, decRecs_bad e2]
        exact .inr ⟨e1, e2⟩
theorem tkParse_alk {l : List UInt8} (h : l.length ≤ 10000) : tkParse l = parse l ∨ ((tkParse l).st.2 = true ∧ (parse l).st.2 = true) := by
  unfold tkParse parse
  simp only
  have l1 := numS_len (l, false)
  have l2 := numS_len (numS (l, false)).2
  have l3 := numS_len (numS (numS (l, false)).2).2
  simp only at l1
  rcases tkRecs_alk (base := (numS (l, false)).1) (n := (numS (numS (numS (l, false)).2).2).1) (s := (numS (numS (numS (l, false)).2).2).2) (acc := []) (by omega) with e | e
  · rw [e]; exact .inl rfl
  · exact .inr e

theorem tkText_le {m : Nat} (s : St) : (tkText m s).1.length ≤ s.1.length := by
  have := numS_len s
  unfold tkText
  split
  · simp
  · simp only [List.length_take]; omega
theorem tkKey_le {f : Nat} (s : St) : (tkKey f s).1.length ≤ s.1.length := by
  unfold tkKey
  split
  · exact tkText_le s
  · simp
theorem tkVal_le {f : Nat} (s : St) : (tkVal f s).1.length ≤ s.1.length := by
  unfold tkVal
  split
  · simp
  · exact tkText_le s
theorem tkRec_ok {base : Int} {s : St} (h0 : 0 ≤ base) (h1 : base ≤ 1099511627776) (hs : s.1.length ≤ maxLen) : (tkRec base s).1.Ok := by
  have a1 := numS_le s
  have a2 := numS_len s
  have b1 := numS_le (numS s).2
  have b2 := numS_len (numS s).2
  have c2 := numS_len (numS (numS s).2).2
  have k := tkKey_le (f := (numS (numS (numS s).2).2).1) (flagS (numS (numS (numS s).2).2).1 (numS (numS (numS s).2).2).2)
  have k' := tkKey_len (f := (numS (numS (numS s).2).2).1) (flagS (numS (numS (numS s).2).2).1 (numS (numS (numS s).2).2).2)
  have v := tkVal_le (f := (numS (numS (numS s).2).2).1) (tkKey (numS (numS (numS s).2).2).1 (flagS (numS (numS (numS s).2).2).1 (numS (numS (numS s).2).2).2)).2
  have hf : (flagS (numS (numS (numS s).2).2).1 (numS (numS (numS s).2).2).2).1 = (numS (numS (numS s).2).2).2.1 := rfl
  rw [hf] at k k'
  have hsz : ∀ l : List UInt8, (⟨l.toArray⟩ : ByteArray).size = l.length := fun l => List.size_toArray
  refine ⟨?_, ?_, ?_, ?_⟩
  · unfold tkRec tkMk; simp only; omega
  · unfold tkRec tkMk; simp only; omega
  · unfold tkRec tkMk; simp only [hsz]; omega
  · unfold tkRec tkMk; simp only [hsz]; omega
theorem tkRecs_ok {base : Int} (h0 : 0 ≤ base) (h1 : base ≤ 1099511627776) : ∀ {n : Nat} {s : St} {acc : List Rec}, s.1.length ≤ maxLen → (∀ r ∈ acc, r.Ok) → ∀ r ∈ (tkRecs base n s acc).1, r.Ok
  | 0, s, acc, _, h => h
  | n + 1, s, acc, hs, h => by
    by_cases hb : s.2 = true
    · rw [tkRecs_bad hb]; exact h
    · rw [tkRecs_on (by simpa using hb)]
      have k1 := tkRec_ok h0 h1 hs
      have k2 := tkRec_len (base := base) s
      refine tkRecs_ok h0 h1 (by omega) ?_
      intro r hr
      rcases List.mem_append.1 hr with hr | hr
      · exact h r hr
      · rw [List.mem_singleton.1 hr]; exact k1

/-- What was read is written by the bytes that were read. -/
theorem numS_back {p : List UInt8} (h : (numS (p, false)).2.2 = false) : p = put (numS (p, false)).1 ++ (numS (p, false)).2.1 := by
  unfold numS at *
  simp only [Bool.false_or, beq_eq_false_iff_ne, ne_eq] at h ⊢
  rw [← get_put p h, List.take_append_drop]
theorem textSt_back {p : List UInt8} (h : (textSt (p, false)).2.2 = false) : p = putText ⟨(textSt (p, false)).1.toArray⟩ ++ (textSt (p, false)).2.1 := by
  unfold textSt textBad textS textRest textN at *
  simp only [Bool.false_or, Bool.or_eq_false_iff, beq_eq_false_iff_ne, ne_eq, decide_eq_false_iff_not] at h ⊢
  obtain ⟨h0, hn⟩ := h
  rw [if_neg hn]
  unfold putText
  have hs : ByteArray.size ⟨((p.drop (get p).2).take (get p).1).toArray⟩ = (get p).1 := by
    change Array.size (List.toArray _) = _
    rw [List.size_toArray, List.length_take]
    omega
  rw [hs]
  have hp := get_put p h0
  rw [← hp]
  simp only [List.append_assoc, List.take_append_drop]
theorem keyOf_back {f : Nat} {p : List UInt8} (h : (keyOf f (p, false)).2.2 = false) : p = (if f % 2 = 1 then putText ⟨(keyOf f (p, false)).1.toArray⟩ else []) ++ (keyOf f (p, false)).2.1 := by
  unfold keyOf at *
  by_cases hf : f % 2 = 1
  · simp only [if_pos hf] at *; exact textSt_back h
  · simp only [if_neg hf, List.nil_append]
theorem valOfS_back {f : Nat} {p : List UInt8} (h : (valOfS f (p, false)).2.2 = false) : p = (if f / 2 % 2 = 1 then [] else putText ⟨(valOfS f (p, false)).1.toArray⟩) ++ (valOfS f (p, false)).2.1 := by
  unfold valOfS at *
  by_cases hf : f / 2 % 2 = 1
  · simp only [if_pos hf, List.nil_append]
  · simp only [if_neg hf] at *; exact textSt_back h

theorem decRec_back {base : Int} {p : List UInt8} (h : (decRec base (p, false)).2.2 = false) : p = encRec base (decRec base (p, false)).1 ++ (decRec base (p, false)).2.1 := by
  have b5 := valOfS_bad h
  have b4 := keyOf_bad b5
  have b3 := flagS_bad b4
  have b2 := numS_bad b3
  have b1 := numS_bad b2
  unfold decRec at h ⊢
  simp only at h ⊢
  have e1 := numS_back b1
  generalize numS (p, false) = a at *
  rw [st_eta b1] at b2 b3 b4 b5 h ⊢
  have e2 := numS_back b2
  generalize numS (a.2.1, false) = b at *
  rw [st_eta b2] at b3 b4 b5 h ⊢
  have e3 := numS_back b3
  generalize numS (b.2.1, false) = f at *
  rw [st_eta b3] at b4 b5 h ⊢
  have hf : f.1 ≤ 3 := by
    unfold flagS at b4
    simp only [Bool.false_or, decide_eq_false_iff_not] at b4
    omega
  have eg : flagS f.1 (f.2.1, false) = (f.2.1, false) := by
    unfold flagS
    simp only [Bool.false_or]
    rw [decide_eq_false (by omega)]
  rw [eg] at b5 h ⊢
  have e4 := keyOf_back b5
  generalize keyOf f.1 (f.2.1, false) = k at *
  rw [st_eta b5] at h ⊢
  have e5 := valOfS_back h
  generalize valOfS f.1 (k.2.1, false) = v at *
  have hflags : (mkRec base a.1 b.1 f.1 k.1 v.1).flags = f.1 := by
    unfold mkRec Rec.flags
    simp only [decide_eq_true_eq]
    split <;> split <;> omega
  unfold encRec
  rw [hflags]
  have eo : ((mkRec base a.1 b.1 f.1 k.1 v.1).off - base).toNat = a.1 := by unfold mkRec; simp only; omega
  have et : (mkRec base a.1 b.1 f.1 k.1 v.1).time.toNat = b.1 := rfl
  rw [eo, et]
  simp only [mkRec, decide_eq_true_eq]
  rw [e1, e2, e3, e4]
  simp only [List.append_assoc]
  rw [← e5]

theorem decRecs_back {base : Int} : ∀ {n : Nat} {p : List UInt8} {acc : List Rec}, (decRecs base n (p, false) acc).2.2 = false →
    ∃ rs, (decRecs base n (p, false) acc).1 = acc ++ rs ∧ rs.length = n ∧ p = encRecs base rs ++ (decRecs base n (p, false) acc).2.1
  | 0, p, acc, _ => ⟨[], by simp [decRecs], rfl, by simp [decRecs, encRecs]⟩
  | n + 1, p, acc, h => by
    rw [decRecs_on rfl] at h ⊢
    have hb := decRecs_sound h
    have e := decRec_back hb
    rw [st_eta hb] at h ⊢
    obtain ⟨rs, h1, h2, h3⟩ := decRecs_back h
    refine ⟨(decRec base (p, false)).1 :: rs, by rw [h1]; simp, by simp [h2], ?_⟩
    rw [encRecs, List.append_assoc, ← h3]
    exact e

theorem parse_back {p : List UInt8} (h : (parse p).st.2 = false) : p = encBody (parse p).base ((parse p).base + (parse p).len : Int) (parse p).recs ++ (parse p).st.1 := by
  unfold parse at *
  simp only at *
  have b3 := decRecs_sound h
  have b2 := numS_bad b3
  have b1 := numS_bad b2
  have e1 := numS_back b1
  generalize numS (p, false) = a at *
  rw [st_eta b1] at b2 b3 h ⊢
  have e2 := numS_back b2
  generalize numS (a.2.1, false) = b at *
  rw [st_eta b2] at b3 h ⊢
  have e3 := numS_back b3
  generalize numS (b.2.1, false) = n at *
  rw [st_eta b3] at h ⊢
  obtain ⟨rs, h1, h2, h3⟩ := decRecs_back h
  rw [List.nil_append] at h1
  rw [h1]
  unfold encBody encHead
  have e : ((a.1 : Int) + (b.1 : Int) - (a.1 : Int)).toNat = b.1 := by omega
  have e' : ((a.1 : Nat) : Int).toNat = a.1 := by omega
  rw [e, e', h2, e1, e2, e3]
  simp only [List.append_assoc]
  rw [← h3]

theorem four_fromB {l : List UInt8} (h : 4 ≤ l.length) : four (fromB l) = l.take 4 := by
  rcases l with _ | ⟨a, _ | ⟨b, _ | ⟨c, _ | ⟨d, t⟩⟩⟩⟩
  · simp at h
  · simp at h
  · simp at h
  · simp at h
  · rw [fromB_eq]
    have ha := a.toNat_lt
    have hb := b.toNat_lt
    have hc := c.toNat_lt
    have hd := d.toNat_lt
    unfold four fourAt
    simp only [List.getD_cons_zero, List.getD_cons_succ, List.take_succ_cons, List.take_zero]
    have key : ∀ (n : Nat) (x : UInt8), n % 256 = x.toNat → UInt8.ofNat n = x := by
      intro n x hn
      apply UInt8.toNat_inj.1
      rw [UInt8.toNat_ofNat']
      omega
    rw [key _ a (by omega), key _ b (by omega), key _ c (by omega), key _ d (by omega)]

/-- What the document finds wrong with bytes. -/
def refDecErr (l : List UInt8) : Nat :=
  if l.length < 8 then 12 else if fromB l < 11 ∨ 6000 < fromB l then 3 else if l.length < fromB l then 12
  else if (tkParse ((l.take (fromB l)).drop 8)).st.2 = true ∨
      encErr (tkParse ((l.take (fromB l)).drop 8)).base ((tkParse ((l.take (fromB l)).drop 8)).base + (tkParse ((l.take (fromB l)).drop 8)).len : Int) (tkParse ((l.take (fromB l)).drop 8)).recs ≠ 0 ∨
      encAll (tkParse ((l.take (fromB l)).drop 8)).base ((tkParse ((l.take (fromB l)).drop 8)).base + (tkParse ((l.take (fromB l)).drop 8)).len : Int) (tkParse ((l.take (fromB l)).drop 8)).recs ≠ l.take (fromB l) then 3 else 0

theorem dec_alike (l : List UInt8) : refDecErr l = decErr l ∧ (decErr l = 0 → tkParse ((l.take (fromB l)).drop 8) = parse ((l.take (fromB l)).drop 8)) := by
  unfold refDecErr decErr
  by_cases g1 : l.length < 8
  · rw [if_pos g1, if_pos g1]; exact ⟨rfl, by simp⟩
  rw [if_neg g1, if_neg g1]
  by_cases g2 : fromB l < 11 ∨ 6000 < fromB l
  · rw [if_pos g2, if_pos g2]; exact ⟨rfl, by simp⟩
  rw [if_neg g2, if_neg g2]
  by_cases g3 : l.length < fromB l
  · rw [if_pos g3, if_pos g3]; exact ⟨rfl, by simp⟩
  rw [if_neg g3, if_neg g3]
  have hL : (l.take (fromB l)).length = fromB l := by rw [List.length_take]; omega
  have h4 : (l.take (fromB l)).take 4 = four (fromB l) := by
    rw [four_fromB (by omega), List.take_take]
    congr 1; omega
  have h8 : ((l.take (fromB l)).drop 4).take 4 = four (fromB (l.drop 4)) := by
    rw [four_fromB (by rw [List.length_drop]; omega), List.drop_take, List.take_take]
    congr 1; omega
  have hsplit : l.take (fromB l) = four (fromB l) ++ four (fromB (l.drop 4)) ++ (l.take (fromB l)).drop 8 := by
    have e1 := (List.take_append_drop 4 (l.take (fromB l))).symm
    have e2 := (List.take_append_drop 4 ((l.take (fromB l)).drop 4)).symm
    rw [h4] at e1
    rw [h8, List.drop_drop] at e2
    rw [List.append_assoc, ← e2, ← e1]
  have hbl : ((l.take (fromB l)).drop 8).length = fromB l - 8 := by rw [List.length_drop, hL]
  have hal := tkParse_alk (l := (l.take (fromB l)).drop 8) (by omega)
  by_cases hg : sumOf ((l.take (fromB l)).drop 8) = fromB (l.drop 4) ∧ (parse ((l.take (fromB l)).drop 8)).good = true
  · obtain ⟨hs, hg⟩ := hg
    have hdd : (if sumOf ((l.take (fromB l)).drop 8) ≠ fromB (l.drop 4) then 3 else if (parse ((l.take (fromB l)).drop 8)).good = true then 0 else 3) = 0 := by
      rw [if_neg (by simpa using hs), if_pos hg]
    rw [hdd]
    have hbad : (parse ((l.take (fromB l)).drop 8)).st.2 = false := by
      unfold Parsed.good at hg
      simp only [Bool.and_eq_true, Bool.not_eq_true'] at hg
      exact hg.1.1
    have hrest : (parse ((l.take (fromB l)).drop 8)).st.1 = [] := by
      unfold Parsed.good at hg
      simp only [Bool.and_eq_true, List.isEmpty_iff] at hg
      exact hg.1.2
    have hck : checkB (parse ((l.take (fromB l)).drop 8)).base ((parse ((l.take (fromB l)).drop 8)).base + (parse ((l.take (fromB l)).drop 8)).len : Int) (parse ((l.take (fromB l)).drop 8)).recs = 0 := by
      unfold Parsed.good at hg
      simp only [Bool.and_eq_true, decide_eq_true_eq] at hg
      exact hg.2
    have heq : tkParse ((l.take (fromB l)).drop 8) = parse ((l.take (fromB l)).drop 8) := hal.elim id fun h => by rw [hbad] at h; exact absurd h.2 (by simp)
    have hbk := parse_back hbad
    rw [hrest, List.append_nil] at hbk
    refine ⟨?_, fun _ => heq⟩
    rw [heq, if_neg]
    rintro (h | h | h)
    · rw [hbad] at h; cases h
    · apply h
      unfold encErr
      rw [if_neg (by simpa using hck), ← hbk, hbl, if_neg (by omega)]
    · apply h
      unfold encAll
      rw [← hbk, hbl, hs]
      rw [show 8 + (fromB l - 8) = fromB l by omega]
      exact hsplit.symm
  · have hd : (if sumOf ((l.take (fromB l)).drop 8) ≠ fromB (l.drop 4) then 3 else if (parse ((l.take (fromB l)).drop 8)).good = true then 0 else 3) = 3 := by
      by_cases hs : sumOf ((l.take (fromB l)).drop 8) = fromB (l.drop 4)
      · rw [if_neg (by simpa using hs), if_neg (fun h => hg ⟨hs, h⟩)]
      · rw [if_pos hs]
    rw [hd]
    refine ⟨?_, by simp⟩
    rw [if_pos]
    refine Classical.byContradiction fun hn => ?_
    rw [not_or, not_or] at hn
    obtain ⟨n1, n2, n3⟩ := hn
    have n2 := Classical.not_not.1 n2
    have n3 := Classical.not_not.1 n3
    obtain ⟨e1, e2, e3, e4⟩ := decErr_enc n2
    apply hg
    rw [n3] at e1
    unfold decErr at e1
    have hff : fromB (l.take (fromB l)) = fromB l := by
      have h := congrArg fromB n3
      rw [← n3, e3, ← e2, n3, hL]
    have hd4 : fromB ((l.take (fromB l)).drop 4) = fromB (l.drop 4) := by
      rw [← Nat.add_zero (fromB ((l.take (fromB l)).drop 4))]
      have hg : ∀ j, j < 4 → ((l.take (fromB l)).drop 4).getD j 0 = (l.drop 4).getD j 0 := by
        intro j hj
        simp only [List.getD_eq_getElem?_getD, List.getElem?_drop, List.getElem?_take, if_pos (show 4 + j < fromB l by omega)]
      rw [Nat.add_zero, fromB_eq ((l.take (fromB l)).drop 4), fromB_eq (l.drop 4), hg 0 (by omega), hg 1 (by omega), hg 2 (by omega), hg 3 (by omega)]
    rw [hff, hL, if_neg (by omega), if_neg g2, if_neg (by omega), List.take_of_length_le (by omega), hd4] at e1
    by_cases hs : sumOf ((l.take (fromB l)).drop 8) = fromB (l.drop 4)
    · rw [if_neg (by simpa using hs)] at e1
      by_cases hgd : (parse ((l.take (fromB l)).drop 8)).good = true
      · exact ⟨hs, hgd⟩
      · rw [if_neg hgd] at e1; cases e1
    · rw [if_pos hs] at e1; cases e1
end Go.Proofs.YtaipjojigaeejaaDoor
