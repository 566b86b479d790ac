/-
  What is read of a request's frame; that both readers read the same; and that what was read is written by just the bytes that were read. Plain Lean.
-/
import Derived.Test.YtmklicodfiggnaaDoorRecsRW
import Derived.Test.YtmklicodfiggnaaDoorAskL
namespace Go.Proofs.YtmklicodfiggnaaDoor
open Go.RowKit

/-- p is what f writes, and then the rest. -/
def Wrt (p rest : List UInt8) (f : WS → WS) : Prop := ∃ c, p = c ++ rest ∧ ∀ L, f (L, 0) = (L ++ c, 0)
theorem Wrt.refl (p : List UInt8) : Wrt p p (fun s => s) := ⟨[], rfl, fun L => by simp⟩
theorem Wrt.comp {p q r : List UInt8} {f h : WS → WS} (a : Wrt p q f) (b : Wrt q r h) : Wrt p r (fun s => h (f s)) := by
  obtain ⟨c, rfl, hc⟩ := a
  obtain ⟨d, rfl, hd⟩ := b
  exact ⟨c ++ d, by rw [List.append_assoc], fun L => by simp only [hc, hd, List.append_assoc]⟩
theorem Wrt.of_eq {p q : List UInt8} {f h : WS → WS} (a : Wrt p q f) (e : ∀ L, h (L, 0) = f (L, 0)) : Wrt p q h := by
  obtain ⟨c, hp, hc⟩ := a
  exact ⟨c, hp, fun L => (e L).trans (hc L)⟩

theorem num_wrt {p : List UInt8} (h : (numS (p, false)).2.2 = false) : Wrt p (numS (p, false)).2.1 (fun s => numsW s [((numS (p, false)).1 : Int)]) := by
  have hle := numS_le (p, false)
  unfold numS at *
  simp only [Bool.false_or, beq_eq_false_iff_ne, ne_eq] at h hle ⊢
  refine ⟨put (get p).1, by rw [← get_put p h, List.take_append_drop], fun L => ?_⟩
  show numW (L, 0) _ = _
  unfold numW
  rw [if_neg (by omega)]
  rfl
theorem truthS_bad {s : St} (h : (truthS s).2.2 = false) : (numS s).2.2 = false := by
  unfold truthS at h
  simp only [Bool.or_eq_false_iff] at h
  exact h.1
theorem truth_wrt {p : List UInt8} (h : (truthS (p, false)).2.2 = false) : Wrt p (truthS (p, false)).2.1 (fun s => truthW s (truthS (p, false)).1) := by
  have h1 := num_wrt (truthS_bad h)
  unfold truthS at h ⊢
  simp only [Bool.or_eq_false_iff, decide_eq_false_iff_not] at h ⊢
  refine h1.of_eq fun L => ?_
  unfold truthW
  by_cases e : (numS (p, false)).1 = 1
  · rw [e]; simp
  · have e0 : (numS (p, false)).1 = 0 := by omega
    rw [e0]; simp
theorem wText_bad {m : Nat} {s : St} (h : (wText m s).2.2 = false) : (numS s).2.2 = false := by
  unfold wText at h
  split at h
  · cases h
  · exact h
theorem text_wrt {m : Nat} {p : List UInt8} (h : (wText m (p, false)).2.2 = false) : Wrt p (wText m (p, false)).2.1 (fun s => textW s ⟨(wText m (p, false)).1.toArray⟩ m) := by
  have h1 := num_wrt (wText_bad h)
  have hle := numS_le (p, false)
  unfold wText at h ⊢
  generalize numS (p, false) = a at *
  by_cases hc : m < a.1 ∨ a.2.1.length < a.1
  · rw [if_pos hc] at h; cases h
  · rw [if_neg hc] at h ⊢
    simp only at h ⊢
    obtain ⟨c, hp, hw⟩ := h1
    have hsz : ByteArray.size ⟨(a.2.1.take a.1).toArray⟩ = a.1 := by
      change Array.size (List.toArray _) = _
      rw [List.size_toArray, List.length_take]
      omega
    refine ⟨c ++ a.2.1.take a.1, by rw [List.append_assoc, List.take_append_drop]; exact hp, fun L => ?_⟩
    show textW (L, 0) _ _ = _
    unfold textW
    rw [hsz, if_neg (by omega)]
    have hw' := hw L
    simp only at hw'
    rw [hw', List.append_assoc]

theorem offS_bad {wi : Bool} {s : St} (h : (offS wi s).2.2 = false) : s.2 = false := by
  unfold offS at h
  split at h
  · exact numS_bad h
  · exact h
theorem keyS_bad {kd : Bool} {s : St} (h : (keyS wText kd s).2.2 = false) : s.2 = false := by
  unfold keyS at h
  split at h
  · exact numS_bad (wText_bad h)
  · exact h
theorem valS_bad {gn : Bool} {s : St} (h : (valS wText gn s).2.2 = false) : s.2 = false := by
  unfold valS at h
  split at h
  · exact h
  · exact numS_bad (wText_bad h)
theorem rec_wrt {wi : Bool} {p : List UInt8} (h : (recS wText wi (p, false)).2.2 = false) : Wrt p (recS wText wi (p, false)).2.1 (fun s => recW wi s (recS wText wi (p, false)).1) := by
  have b5 := valS_bad h
  have b4 := numS_bad (truthS_bad b5)
  have b3 := keyS_bad b4
  have b2 := numS_bad (truthS_bad b3)
  have b1 := numS_bad b2
  unfold recS at h ⊢
  simp only at h ⊢
  have e1 : Wrt p (offS wi (p, false)).2.1 (fun s => if wi = true then numsW s [((offS wi (p, false)).1 : Int)] else s) := by
    unfold offS at b1 ⊢
    by_cases hw : wi = true
    · simp only [if_pos hw] at b1 ⊢; exact num_wrt b1
    · simp only [if_neg hw]; exact Wrt.refl p
  generalize offS wi (p, false) = o at *
  rw [st_eta b1] at b2 b3 b4 b5 h ⊢
  have e2 := num_wrt b2
  generalize numS (o.2.1, false) = t at *
  rw [st_eta b2] at b3 b4 b5 h ⊢
  have e3 := truth_wrt b3
  generalize truthS (t.2.1, false) = kd at *
  rw [st_eta b3] at b4 b5 h ⊢
  have e4 : Wrt kd.2.1 (keyS wText kd.1 (kd.2.1, false)).2.1 (fun s => if kd.1 = true then textW s ⟨(keyS wText kd.1 (kd.2.1, false)).1.toArray⟩ 60 else s) := by
    unfold keyS at b4 ⊢
    by_cases hw : kd.1 = true
    · simp only [if_pos hw] at b4 ⊢; exact text_wrt b4
    · simp only [if_neg hw]; exact Wrt.refl _
  generalize keyS wText kd.1 (kd.2.1, false) = key at *
  rw [st_eta b4] at b5 h ⊢
  have e5 := truth_wrt b5
  generalize truthS (key.2.1, false) = gn at *
  rw [st_eta b5] at h ⊢
  have e6 : Wrt gn.2.1 (valS wText gn.1 (gn.2.1, false)).2.1 (fun s => if gn.1 = true then s else textW s ⟨(valS wText gn.1 (gn.2.1, false)).1.toArray⟩ 500) := by
    unfold valS at h ⊢
    by_cases hw : gn.1 = true
    · simp only [if_pos hw]; exact Wrt.refl _
    · simp only [if_neg hw] at h ⊢; exact text_wrt h
  generalize valS wText gn.1 (gn.2.1, false) = val at *
  exact ((((e1.comp e2).comp e3).comp e4).comp e5).comp e6
theorem recS_bad {wi : Bool} {s : St} (h : (recS wText wi s).2.2 = false) : s.2 = false :=
  offS_bad (numS_bad (numS_bad (truthS_bad (keyS_bad (numS_bad (truthS_bad (valS_bad h)))))))
theorem recsL_sound {wi : Bool} : ∀ {n : Nat} {s : St} {acc : List Rec}, (recsL wText wi n s acc).2.2 = false → s.2 = false
  | 0, _, _, h => h
  | n + 1, s, acc, h => by
    by_cases hb : s.2 = true
    · rw [recsL_bad hb] at h
      rw [hb] at h; cases h
    · simpa using hb
theorem recsL_wrt {wi : Bool} : ∀ {n : Nat} {p : List UInt8} {acc : List Rec}, (recsL wText wi n (p, false) acc).2.2 = false →
    ∃ rs, (recsL wText wi n (p, false) acc).1 = acc ++ rs ∧ rs.length = n ∧ Wrt p (recsL wText wi n (p, false) acc).2.1 (fun s => rs.foldl (recW wi) s)
  | 0, p, acc, _ => ⟨[], by simp [recsL], rfl, Wrt.refl p⟩
  | n + 1, p, acc, h => by
    rw [recsL_on rfl] at h ⊢
    have hb := recsL_sound h
    have e := rec_wrt hb
    rw [st_eta hb] at h ⊢
    obtain ⟨rs, h1, h2, h3⟩ := recsL_wrt h
    exact ⟨(recS wText wi (p, false)).1 :: rs, by rw [h1]; simp, by simp [h2], e.comp h3⟩
theorem recs_wrt {wi : Bool} {p : List UInt8} (h : (recsS wText wi (p, false)).2.2 = false) : Wrt p (recsS wText wi (p, false)).2.1 (fun s => recsW wi s (recsS wText wi (p, false)).1) := by
  unfold recsS at h ⊢
  have b1 := recsL_sound h
  have e1 := num_wrt b1
  generalize numS (p, false) = n at *
  rw [st_eta b1] at h ⊢
  obtain ⟨rs, h1, h2, h3⟩ := recsL_wrt h
  rw [List.nil_append] at h1
  rw [h1]
  refine (e1.comp h3).of_eq fun L => ?_
  unfold recsW
  rw [h2]
theorem recsS_bad {wi : Bool} {s : St} (h : (recsS wText wi s).2.2 = false) : s.2 = false := numS_bad (recsL_sound h)

/-- Alike, or both were bad. -/
def Alk {α : Type} (x y : α × St) : Prop := x = y ∨ (x.2.2 = true ∧ y.2.2 = true)
theorem truthS_sticky {s : St} (h : s.2 = true) : (truthS s).2.2 = true := by unfold truthS; simp [numS_sticky h]
theorem tkText_sticky {m : Nat} {s : St} (h : s.2 = true) : (tkText m s).2.2 = true := by
  unfold tkText
  rw [if_pos (.inl (numS_sticky h))]
theorem wText_sticky {m : Nat} {s : St} (h : s.2 = true) : (wText m s).2.2 = true := by
  unfold wText
  split
  · rfl
  · exact numS_sticky h
theorem text_alk (m : Nat) (s : St) : Alk (tkText m s) (wText m s) := by
  by_cases hb : (numS s).2.2 = true
  · refine .inr ⟨?_, ?_⟩
    · unfold tkText; rw [if_pos (.inl hb)]
    · unfold wText
      split
      · rfl
      · exact hb
  · have hb' : (numS s).2.2 = false := by simpa using hb
    left
    unfold tkText wText
    by_cases hc : m < (numS s).1 ∨ (numS s).2.1.length < (numS s).1
    · rw [if_pos (.inr hc), if_pos hc]
    · rw [if_neg (fun h => h.elim hb hc), if_neg hc, hb']
theorem keyS_alk (kd : Bool) (s : St) : Alk (keyS tkText kd s) (keyS wText kd s) := by
  unfold keyS
  split
  · exact text_alk 60 s
  · exact .inl rfl
theorem valS_alk (gn : Bool) (s : St) : Alk (valS tkText gn s) (valS wText gn s) := by
  unfold valS
  split
  · exact .inl rfl
  · exact text_alk 500 s
theorem keyS_sticky {txt : Nat → St → List UInt8 × St} (ht : ∀ m s, s.2 = true → (txt m s).2.2 = true) {kd : Bool} {s : St} (h : s.2 = true) : (keyS txt kd s).2.2 = true := by
  unfold keyS
  split
  · exact ht _ _ h
  · exact h
theorem valS_sticky {txt : Nat → St → List UInt8 × St} (ht : ∀ m s, s.2 = true → (txt m s).2.2 = true) {gn : Bool} {s : St} (h : s.2 = true) : (valS txt gn s).2.2 = true := by
  unfold valS
  split
  · exact h
  · exact ht _ _ h
theorem recS_alk (wi : Bool) (s : St) : Alk (recS tkText wi s) (recS wText wi s) := by
  unfold recS
  simp only
  generalize offS wi s = o
  generalize numS o.2 = t
  generalize truthS t.2 = kd
  rcases keyS_alk kd.1 kd.2 with e | ⟨e1, e2⟩
  · rw [e]
    generalize keyS wText kd.1 kd.2 = key
    generalize truthS key.2 = gn
    rcases valS_alk gn.1 gn.2 with e | ⟨e1, e2⟩
    · rw [e]; exact .inl rfl
    · exact .inr ⟨e1, e2⟩
  · exact .inr ⟨valS_sticky (fun _ _ h => tkText_sticky h) (truthS_sticky e1), valS_sticky (fun _ _ h => wText_sticky h) (truthS_sticky e2)⟩
theorem recsL_alk (wi : Bool) : ∀ (n : Nat) (s : St) (acc : List Rec), Alk (recsL tkText wi n s acc) (recsL wText wi n s acc)
  | 0, s, acc => .inl rfl
  | n + 1, s, acc => by
    by_cases hb : s.2 = true
    · rw [recsL_bad hb, recsL_bad hb]; exact .inl rfl
    · have hb' : s.2 = false := by simpa using hb
      rw [recsL_on hb', recsL_on hb']
      rcases recS_alk wi s with e | ⟨e1, e2⟩
      · rw [e]; exact recsL_alk wi n _ _
      · rw [recsL_bad e1, recsL_bad e2]; exact .inr ⟨e1, e2⟩
theorem recsS_alk (wi : Bool) (s : St) : Alk (recsS tkText wi s) (recsS wText wi s) := recsL_alk wi _ _ _

/-- A request read, its kind and number known. -/
def rq0 (k c : Nat) (t : List UInt8) : Rq := ⟨k, c, ⟨t.toArray⟩, 0, 0, 0, 0, 0, 0, 0, false, false, []⟩
def topS (txt : Nat → St → List UInt8 × St) (k : Nat) (s : St) : List UInt8 × St := if k = 7 then ([], s) else txt 40 s
def tailS (txt : Nat → St → List UInt8 × St) (k c : Nat) (t : List UInt8) (s : St) : Rq × St :=
  if k = 1 then ({ rq0 k c t with part := (numS s).1, sure := (truthS (numS s).2).1, recs := (recsS txt false (truthS (numS s).2).2).1 }, (recsS txt false (truthS (numS s).2).2).2)
  else if k = 2 then ({ rq0 k c t with part := (numS s).1, offset := (numS (numS s).2).1, most := (numS (numS (numS s).2).2).1, least := (numS (numS (numS (numS s).2).2).2).1, wait := (numS (numS (numS (numS (numS s).2).2).2).2).1 }, (numS (numS (numS (numS (numS s).2).2).2).2).2)
  else if k = 3 then ({ rq0 k c t with part := (numS s).1, time := (numS (numS s).2).1 }, (numS (numS s).2).2)
  else if k = 4 then ({ rq0 k c t with part := (numS s).1, offset := (numS (numS s).2).1 }, (numS (numS s).2).2)
  else if k = 5 then ({ rq0 k c t with parts := (numS s).1, compact := (truthS (numS s).2).1 }, (truthS (numS s).2).2)
  else (rq0 k c t, s)
def parseQ (txt : Nat → St → List UInt8 × St) (l : List UInt8) : Rq × St :=
  let k := numS (l, false)
  let c := numS k.2
  let t := topS txt k.1 c.2
  tailS txt k.1 c.1 t.1 t.2
def kindOf (l : List UInt8) : Nat := (numS (l, false)).1
def goodQ (l : List UInt8) : Prop := (1 ≤ kindOf l ∧ kindOf l ≤ 7) ∧ (parseQ wText l).2.2 = false ∧ (parseQ wText l).2.1 = []
instance (l : List UInt8) : Decidable (goodQ l) := by unfold goodQ; infer_instance
/-- What is wrong with a frame at the beginning of bytes: as the program finds it; as the document does. -/
def sizeErr (l : List UInt8) : Nat := if l.length < 4 then 12 else if fromB l < 1 ∨ 10000 < fromB l then 4 else if l.length < fromB l + 4 then 12 else 0
def bodyQ (l : List UInt8) : List UInt8 := (l.take (fromB l + 4)).drop 4
def askedErr (l : List UInt8) : Nat := if sizeErr l ≠ 0 then sizeErr l else if goodQ (bodyQ l) then 0 else 3
def refAskedErr (l : List UInt8) : Nat :=
  if sizeErr l ≠ 0 then sizeErr l else if (parseQ tkText (bodyQ l)).2.2 = true ∨ askErr (parseQ tkText (bodyQ l)).1 ≠ 0 ∨ askB (parseQ tkText (bodyQ l)).1 ≠ l.take (fromB l + 4) then 3 else 0

theorem topS_alk (k : Nat) (s : St) : Alk (topS tkText k s) (topS wText k s) := by
  unfold topS
  split
  · exact .inl rfl
  · exact text_alk 40 s
theorem tailS_alk (k c : Nat) (t : List UInt8) (s : St) : Alk (tailS tkText k c t s) (tailS wText k c t s) := by
  unfold tailS
  split
  · rcases recsS_alk false (truthS (numS s).2).2 with e | ⟨e1, e2⟩
    · rw [e]; exact .inl rfl
    · exact .inr ⟨e1, e2⟩
  · exact .inl rfl
theorem recsL_sticky {txt : Nat → St → List UInt8 × St} {wi : Bool} {n : Nat} {s : St} {acc : List Rec} (h : s.2 = true) : (recsL txt wi n s acc).2.2 = true := by rw [recsL_bad h]; exact h
theorem tailS_sticky {txt : Nat → St → List UInt8 × St} {k c : Nat} {t : List UInt8} {s : St} (h : s.2 = true) : (tailS txt k c t s).2.2 = true := by
  unfold tailS
  split
  · exact recsL_sticky (numS_sticky (truthS_sticky (numS_sticky h)))
  split
  · exact numS_sticky (numS_sticky (numS_sticky (numS_sticky (numS_sticky h))))
  split
  · exact numS_sticky (numS_sticky h)
  split
  · exact numS_sticky (numS_sticky h)
  split
  · exact truthS_sticky (numS_sticky h)
  · exact h
theorem parseQ_alk (l : List UInt8) : Alk (parseQ tkText l) (parseQ wText l) := by
  unfold parseQ
  simp only
  generalize numS (l, false) = k
  generalize numS k.2 = c
  rcases topS_alk k.1 c.2 with e | ⟨e1, e2⟩
  · rw [e]; exact tailS_alk _ _ _ _
  · exact .inr ⟨tailS_sticky e1, tailS_sticky e2⟩
theorem topS_bad {k : Nat} {s : St} (h : (topS wText k s).2.2 = false) : s.2 = false := by
  unfold topS at h
  split at h
  · exact h
  · exact numS_bad (wText_bad h)
theorem tailS_bad {k c : Nat} {t : List UInt8} {s : St} (h : (tailS wText k c t s).2.2 = false) : s.2 = false := by
  cases hs : s.2 with
  | false => rfl
  | true => rw [tailS_sticky hs] at h; cases h
theorem tail_wrt {k c : Nat} {t : List UInt8} {p : List UInt8} (hk : 1 ≤ k ∧ k ≤ 7) (h : (tailS wText k c t (p, false)).2.2 = false) :
    Wrt p (tailS wText k c t (p, false)).2.1 (fun s => endW s (tailS wText k c t (p, false)).1) := by
  obtain rfl | rfl | rfl | rfl | rfl | rfl | rfl : k = 1 ∨ k = 2 ∨ k = 3 ∨ k = 4 ∨ k = 5 ∨ k = 6 ∨ k = 7 := by omega
  · have e : tailS wText 1 c t (p, false) = ({ rq0 1 c t with part := (numS (p, false)).1, sure := (truthS (numS (p, false)).2).1, recs := (recsS wText false (truthS (numS (p, false)).2).2).1 }, (recsS wText false (truthS (numS (p, false)).2).2).2) := rfl
    rw [e] at h ⊢
    simp only at h ⊢
    have b2 := recsS_bad h
    have b1 := truthS_bad b2
    have b0 := numS_bad b1
    have w1 := num_wrt b0
    generalize numS (p, false) = a at *
    rw [st_eta b0] at b1 b2 h ⊢
    have w2 := truth_wrt b2
    generalize truthS (a.2.1, false) = d at *
    rw [st_eta b2] at h ⊢
    have w3 := recs_wrt h
    exact (w1.comp w2).comp w3
  · have e : tailS wText 2 c t (p, false) = ({ rq0 2 c t with part := (numS (p, false)).1, offset := (numS (numS (p, false)).2).1, most := (numS (numS (numS (p, false)).2).2).1, least := (numS (numS (numS (numS (p, false)).2).2).2).1, wait := (numS (numS (numS (numS (numS (p, false)).2).2).2).2).1 }, (numS (numS (numS (numS (numS (p, false)).2).2).2).2).2) := rfl
    rw [e] at h ⊢
    simp only at h ⊢
    have b4 := numS_bad h
    have b3 := numS_bad b4
    have b2 := numS_bad b3
    have b1 := numS_bad b2
    have w1 := num_wrt b1
    generalize numS (p, false) = a1 at *
    rw [st_eta b1] at b2 b3 b4 h ⊢
    have w2 := num_wrt b2
    generalize numS (a1.2.1, false) = a2 at *
    rw [st_eta b2] at b3 b4 h ⊢
    have w3 := num_wrt b3
    generalize numS (a2.2.1, false) = a3 at *
    rw [st_eta b3] at b4 h ⊢
    have w4 := num_wrt b4
    generalize numS (a3.2.1, false) = a4 at *
    rw [st_eta b4] at h ⊢
    have w5 := num_wrt h
    exact (((w1.comp w2).comp w3).comp w4).comp w5
  · have e : tailS wText 3 c t (p, false) = ({ rq0 3 c t with part := (numS (p, false)).1, time := (numS (numS (p, false)).2).1 }, (numS (numS (p, false)).2).2) := rfl
    rw [e] at h ⊢
    simp only at h ⊢
    have b1 := numS_bad h
    have w1 := num_wrt b1
    generalize numS (p, false) = a1 at *
    rw [st_eta b1] at h ⊢
    exact w1.comp (num_wrt h)
  · have e : tailS wText 4 c t (p, false) = ({ rq0 4 c t with part := (numS (p, false)).1, offset := (numS (numS (p, false)).2).1 }, (numS (numS (p, false)).2).2) := rfl
    rw [e] at h ⊢
    simp only at h ⊢
    have b1 := numS_bad h
    have w1 := num_wrt b1
    generalize numS (p, false) = a1 at *
    rw [st_eta b1] at h ⊢
    exact w1.comp (num_wrt h)
  · have e : tailS wText 5 c t (p, false) = ({ rq0 5 c t with parts := (numS (p, false)).1, compact := (truthS (numS (p, false)).2).1 }, (truthS (numS (p, false)).2).2) := rfl
    rw [e] at h ⊢
    simp only at h ⊢
    have b1 := numS_bad (truthS_bad h)
    have w1 := num_wrt b1
    generalize numS (p, false) = a1 at *
    rw [st_eta b1] at h ⊢
    exact w1.comp (truth_wrt h)
  · exact Wrt.refl p
  · exact Wrt.refl p
theorem tailS_kind (txt : Nat → St → List UInt8 × St) (k c : Nat) (t : List UInt8) (s : St) : (tailS txt k c t s).1.kind = k ∧ (tailS txt k c t s).1.corr = c ∧ (tailS txt k c t s).1.topic = ⟨t.toArray⟩ := by
  unfold tailS
  split
  · exact ⟨rfl, rfl, rfl⟩
  split
  · exact ⟨rfl, rfl, rfl⟩
  split
  · exact ⟨rfl, rfl, rfl⟩
  split
  · exact ⟨rfl, rfl, rfl⟩
  split
  · exact ⟨rfl, rfl, rfl⟩
  · exact ⟨rfl, rfl, rfl⟩
theorem parseQ_kind (txt : Nat → St → List UInt8 × St) (l : List UInt8) : (parseQ txt l).1.kind = kindOf l := (tailS_kind _ _ _ _ _).1
theorem parse_wrt {l : List UInt8} (hk : 1 ≤ kindOf l ∧ kindOf l ≤ 7) (h : (parseQ wText l).2.2 = false) : Wrt l (parseQ wText l).2.1 (fun s => reqW s (parseQ wText l).1) := by
  unfold kindOf at hk
  unfold parseQ at h ⊢
  simp only at h ⊢
  have b2 := topS_bad (tailS_bad h)
  have b3 := tailS_bad h
  have b1 := numS_bad b2
  have w1 := num_wrt b1
  generalize numS (l, false) = k at *
  rw [st_eta b1] at b2 b3 h ⊢
  have w2 := num_wrt b2
  generalize numS (k.2.1, false) = c at *
  rw [st_eta b2] at b3 h ⊢
  have w3 : Wrt c.2.1 (topS wText k.1 (c.2.1, false)).2.1 (fun s => if (k.1 : Int) = 7 then s else textW s ⟨(topS wText k.1 (c.2.1, false)).1.toArray⟩ 40) := by
    unfold topS at b3 ⊢
    by_cases hw : k.1 = 7
    · have hw' : (k.1 : Int) = 7 := by omega
      simp only [if_pos hw, if_pos hw']; exact Wrt.refl _
    · have hw' : ¬ (k.1 : Int) = 7 := by omega
      simp only [if_neg hw, if_neg hw'] at b3 ⊢; exact text_wrt b3
  generalize topS wText k.1 (c.2.1, false) = t at *
  rw [st_eta b3] at h ⊢
  have w4 := tail_wrt hk h
  obtain ⟨k1, k2, k3⟩ := tailS_kind wText k.1 c.1 t.1 (t.2.1, false)
  refine (((w1.comp w2).comp w3).comp w4).of_eq fun L => ?_
  unfold reqW topW
  rw [k1, k2, k3]
  rfl

theorem four_fromB {l : List UInt8} (h : 4 ≤ l.length) : four (fromB l) = l.take 4 := by
  rcases l with _ | ⟨a, _ | ⟨b, _ | ⟨c, _ | ⟨d, t⟩⟩⟩⟩
  · simp at h
  · simp at h
  · simp at h
  · simp at h
  · have fe : fromB (a :: b :: c :: d :: t) = ((a.toNat * 256 + b.toNat) * 256 + c.toNat) * 256 + d.toNat := by
      unfold fromB
      simp only [fromTo, Nat.zero_mul, Nat.zero_add, List.getD_cons_zero, List.getD_cons_succ]
    rw [fe]
    have ha := a.toNat_lt
    have hb := b.toNat_lt
    have hc := c.toNat_lt
    have hd := d.toNat_lt
    unfold four fourAt
    simp only [List.take_succ_cons, List.take_zero]
    have key : ∀ (n : Nat) (x : UInt8), n % 256 = x.toNat → UInt8.ofNat n = x := by
      intro n x hn
      apply UInt8.toNat_inj.1
      rw [UInt8.toNat_ofNat']
      omega
    rw [key _ a (by omega), key _ b (by omega), key _ c (by omega), key _ d (by omega)]

theorem asked_alike (l : List UInt8) : refAskedErr l = askedErr l ∧ (askedErr l = 0 → parseQ tkText (bodyQ l) = parseQ wText (bodyQ l)) := by
  unfold refAskedErr askedErr
  by_cases hs : sizeErr l ≠ 0
  · rw [if_pos hs, if_pos hs]; exact ⟨rfl, fun h => absurd h hs⟩
  rw [if_neg hs, if_neg hs]
  have hz : ¬ l.length < 4 ∧ ¬ (fromB l < 1 ∨ 10000 < fromB l) ∧ ¬ l.length < fromB l + 4 := by
    have hs' := Classical.not_not.1 hs
    unfold sizeErr at hs'
    by_cases g1 : l.length < 4
    · rw [if_pos g1] at hs'; cases hs'
    rw [if_neg g1] at hs'
    by_cases g2 : fromB l < 1 ∨ 10000 < fromB l
    · rw [if_pos g2] at hs'; cases hs'
    rw [if_neg g2] at hs'
    by_cases g3 : l.length < fromB l + 4
    · rw [if_pos g3] at hs'; cases hs'
    exact ⟨g1, g2, g3⟩
  obtain ⟨g1, g2, g3⟩ := hz
  have hbl : (bodyQ l).length = fromB l := by unfold bodyQ; rw [List.length_drop, List.length_take]; omega
  have hfr : l.take (fromB l + 4) = four (bodyQ l).length ++ bodyQ l := by
    rw [hbl, four_fromB (by omega)]
    unfold bodyQ
    have e := (List.take_append_drop 4 (l.take (fromB l + 4))).symm
    rw [List.take_take, show min 4 (fromB l + 4) = 4 by omega] at e
    exact e
  -- what was read well is written by the frame's bytes
  have back : (1 ≤ kindOf (bodyQ l) ∧ kindOf (bodyQ l) ≤ 7) → (parseQ wText (bodyQ l)).2.2 = false → ∃ c, bodyQ l = c ++ (parseQ wText (bodyQ l)).2.1 ∧ reqW ([], 0) (parseQ wText (bodyQ l)).1 = (c, 0) := by
    intro hk hb
    obtain ⟨c, h1, h2⟩ := parse_wrt hk hb
    exact ⟨c, h1, by have := h2 []; simpa using this⟩
  have hal := parseQ_alk (bodyQ l)
  have hkd := parseQ_kind wText (bodyQ l)
  by_cases hg : goodQ (bodyQ l)
  · obtain ⟨hk, hb, hr⟩ := hg
    have heq : parseQ tkText (bodyQ l) = parseQ wText (bodyQ l) := hal.elim id fun h => by rw [hb] at h; exact absurd h.2 (by simp)
    refine ⟨?_, fun _ => heq⟩
    rw [heq, if_pos (show goodQ (bodyQ l) from ⟨hk, hb, hr⟩), if_neg]
    obtain ⟨c, h1, h2⟩ := back hk hb
    rw [hr, List.append_nil] at h1
    rw [← h1] at h2
    rintro (h | h | h)
    · rw [hb] at h; cases h
    · apply h
      unfold askErr
      rw [hkd, if_neg (by omega), h2]
      unfold frameErr
      simp only [ne_eq, not_true_eq_false, if_false]
      rw [if_neg (by omega)]
    · apply h
      unfold askB frameB
      rw [h2, hfr]
  · rw [if_neg hg]
    refine ⟨?_, by simp⟩
    rw [if_pos]
    refine Classical.byContradiction fun hn => hg ?_
    rw [not_or, not_or] at hn
    obtain ⟨n1, n2, n3⟩ := hn
    have n1 : (parseQ tkText (bodyQ l)).2.2 = false := by simpa using n1
    have n2 := Classical.not_not.1 n2
    have n3 := Classical.not_not.1 n3
    have heq : parseQ tkText (bodyQ l) = parseQ wText (bodyQ l) := hal.elim id fun h => by rw [n1] at h; exact absurd h.1 (by simp)
    rw [heq] at n1 n2 n3
    have hk : 1 ≤ kindOf (bodyQ l) ∧ kindOf (bodyQ l) ≤ 7 := by
      refine Classical.byContradiction fun hk => ?_
      unfold askErr at n2
      rw [hkd, if_pos (by omega)] at n2
      cases n2
    refine ⟨hk, n1, ?_⟩
    obtain ⟨c, h1, h2⟩ := back hk n1
    unfold askB frameB at n3
    rw [h2, hfr] at n3
    have hl := congrArg List.length n3
    rw [List.length_append, List.length_append] at hl
    have h4 : ∀ m, (four m).length = 4 := fun _ => rfl
    rw [h4, h4] at hl
    have h3 := congrArg List.length h1
    rw [List.length_append] at h3
    exact List.eq_nil_of_length_eq_zero (by simp only at hl; omega)
end Go.Proofs.YtmklicodfiggnaaDoor
