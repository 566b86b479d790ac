/-
  What is written well is read again, whatever stands behind it. Plain data.
-/
import Derived.Test.YtmklicodfiggnaaDoorToldL
import Derived.Test.YtmklicodfiggnaaDoorSizeW
set_option linter.unusedSimpArgs false
namespace Go.Proofs.YtmklicodfiggnaaDoor
open Go.RowKit

/-- What f writes well, rd reads again, as v. -/
def Bk {α : Type} (f : WS → WS) (rd : St → α × St) (v : α) : Prop :=
  ∀ s, (f s).2 = 0 → s.2 = 0 ∧ ∃ c, (f s).1 = s.1 ++ c ∧ ∀ rest, rd (c ++ rest, false) = (v, (rest, false))
/-- The same, whatever is read. -/
def Bs (f : WS → WS) (rd : St → St) : Prop :=
  ∀ s, (f s).2 = 0 → s.2 = 0 ∧ ∃ c, (f s).1 = s.1 ++ c ∧ ∀ rest, rd (c ++ rest, false) = (rest, false)
theorem Bk.st {α : Type} {f : WS → WS} {rd : St → α × St} {v : α} (h : Bk f rd v) : Bs f (fun s => (rd s).2) := fun s hs => by
  obtain ⟨h1, c, h2, h3⟩ := h s hs
  exact ⟨h1, c, h2, fun rest => by simp only [h3]⟩
theorem Bs.refl : Bs (fun s => s) (fun s => s) := fun s hs => ⟨hs, [], by simp, fun rest => rfl⟩
theorem Bs.comp {f h : WS → WS} {r q : St → St} (a : Bs f r) (b : Bs h q) : Bs (fun s => h (f s)) (fun s => q (r s)) := fun s hs => by
  obtain ⟨b1, d, b2, b3⟩ := b (f s) hs
  obtain ⟨a1, c, a2, a3⟩ := a s b1
  exact ⟨a1, c ++ d, by rw [b2, a2, List.append_assoc], fun rest => by rw [List.append_assoc]; show q (r (c ++ (d ++ rest), false)) = _; rw [a3, b3]⟩
/-- What is read next may hang on what was read. -/
theorem Bk.bind {α : Type} {f h : WS → WS} {r : St → α × St} {v : α} {q : α → St → St} (a : Bk f r v) (b : Bs h (q v)) : Bs (fun s => h (f s)) (fun s => q (r s).1 (r s).2) := fun s hs => by
  obtain ⟨b1, d, b2, b3⟩ := b (f s) hs
  obtain ⟨a1, c, a2, a3⟩ := a s b1
  exact ⟨a1, c ++ d, by rw [b2, a2, List.append_assoc], fun rest => by rw [List.append_assoc]; show q (r (c ++ (d ++ rest), false)).1 (r (c ++ (d ++ rest), false)).2 = _; rw [a3]; exact b3 rest⟩

theorem numS_put (n : Nat) (rest : List UInt8) (h : n ≤ 1099511627776) : numS (put n ++ rest, false) = (n, (rest, false)) := by
  unfold numS
  simp only [get_of_put n rest h, List.drop_left, Bool.false_or, beq_eq_false_iff_ne, ne_eq]
  have := put_length_pos n
  have e : ((put n).length == 0) = false := by rw [beq_eq_false_iff_ne]; omega
  rw [e]
theorem num_bk (n : Int) : Bk (fun s => numW s n) numS n.toNat := fun s hs => by
  simp only at hs ⊢
  unfold numW at hs ⊢
  by_cases h : n < 0 ∨ 1099511627776 < n
  · rw [if_pos h] at hs; cases hs
  · rw [if_neg h] at hs ⊢
    exact ⟨hs, put n.toNat, rfl, fun rest => numS_put _ _ (by omega)⟩
theorem num_nonneg {n : Int} {s : WS} (h : (numW s n).2 = 0) : 0 ≤ n := by
  unfold numW at h
  by_cases g : n < 0 ∨ 1099511627776 < n
  · rw [if_pos g] at h; cases h
  · omega
theorem truth_bk (b : Bool) : Bk (fun s => truthW s b) truthS b := fun s hs => by
  obtain ⟨h1, c, h2, h3⟩ := num_bk (if b = true then 1 else 0) s hs
  refine ⟨h1, c, h2, fun rest => ?_⟩
  unfold truthS
  rw [h3]
  cases b <;> simp
theorem text_bk (t : ByteArray) (m : Nat) : Bk (fun s => textW s t m) (wText m) t.data.toList := fun s hs => by
  simp only at hs ⊢
  unfold textW at hs ⊢
  simp only at hs ⊢
  obtain ⟨h1, c, h2, h3⟩ := num_bk (t.size : Int) _ hs
  simp only at h1 h2
  have hm : ¬ m < t.size := fun h => by rw [if_pos h] at h1; cases h1
  rw [if_neg hm] at h1
  have e : t.data.toList.length = t.size := by rw [Array.length_toList]; rfl
  refine ⟨h1, c ++ t.data.toList, ?_, fun rest => ?_⟩
  · rw [← List.append_assoc, ← h2]
    rfl
  · unfold wText
    rw [List.append_assoc, h3]
    simp only [Int.toNat_natCast]
    rw [if_neg (by rw [List.length_append]; omega), ← e, List.take_left, List.drop_left]

theorem off_bs (wi : Bool) (r : Rec) : Bs (fun s => offW wi s r) (fun s => (offS wi s).2) := by
  unfold offW offS
  cases wi
  · exact Bs.refl
  · exact (num_bk r.off).st
theorem key_bs (r : Rec) : Bs (fun s => keyW s r) (fun s => (keyS wText r.keyed s).2) := by
  unfold keyW keyS
  cases h : r.keyed
  · exact Bs.refl
  · exact (text_bk r.key 60).st
theorem val_bs (r : Rec) : Bs (fun s => valW s r) (fun s => (valS wText r.gone s).2) := by
  unfold valW valS
  cases h : r.gone
  · exact (text_bk r.value 500).st
  · exact Bs.refl
theorem rec_bs (wi : Bool) (r : Rec) : Bs (fun s => recW wi s r) (fun s => (recS wText wi s).2) :=
  ((off_bs wi r).comp (num_bk r.time).st).comp
    ((truth_bk r.keyed).bind (q := fun kd s => (valS wText (truthS (keyS wText kd s).2).1 (truthS (keyS wText kd s).2).2).2) (h := fun s => valW (truthW (keyW s r) r.gone) r)
      ((key_bs r).comp ((truth_bk r.gone).bind (q := fun gn s => (valS wText gn s).2) (val_bs r))))
theorem recs_bs (wi : Bool) : ∀ (rs : List Rec) (acc : List Rec), Bs (fun s => rs.foldl (recW wi) s) (fun s => (recsL wText wi rs.length s acc).2)
  | [], acc => Bs.refl
  | r :: rs, acc => fun s hs => by
    have ih := fun acc => recs_bs wi rs acc
    obtain ⟨h1, c, h2, h3⟩ := ih acc (recW wi s r) hs
    obtain ⟨g1, d, g2, g3⟩ := rec_bs wi r s h1
    refine ⟨g1, d ++ c, by simp only [List.foldl_cons] at h2 g2 ⊢; rw [h2, g2, List.append_assoc], fun rest => ?_⟩
    obtain ⟨_, c', h2', h3'⟩ := ih (acc ++ [(recS wText wi (d ++ (c ++ rest), false)).1]) (recW wi s r) hs
    have hc : c' = c := List.append_cancel_left (h2'.symm.trans h2)
    subst hc
    rw [List.append_assoc, List.length_cons]
    simp only
    rw [recsL_on rfl]
    have := g3 (c' ++ rest)
    simp only at this
    rw [this]
    exact h3' rest
theorem recsW_bs (wi : Bool) (rs : List Rec) : Bs (fun s => recsW wi s rs) (fun s => (recsS wText wi s).2) :=
  (num_bk (rs.length : Int)).bind (q := fun n s => (recsL wText wi n s []).2) (by
    rw [Int.toNat_natCast]
    exact recs_bs wi rs [])

theorem end_bs (x : Rq) (hk : 1 ≤ x.kind ∧ x.kind ≤ 7) (c : Nat) (t : List UInt8) : Bs (fun s => endW s x) (fun s => (tailS wText x.kind.toNat c t s).2) := by
  unfold endW tailS
  obtain h | h | h | h | h | h | h : x.kind = 1 ∨ x.kind = 2 ∨ x.kind = 3 ∨ x.kind = 4 ∨ x.kind = 5 ∨ x.kind = 6 ∨ x.kind = 7 := by omega
  all_goals rw [h]
  · exact ((num_bk x.part).st.comp (truth_bk x.sure).st).comp (recsW_bs false x.recs)
  · exact (num_bk x.part).st.comp ((((num_bk x.offset).st.comp (num_bk x.most).st).comp (num_bk x.least).st).comp (num_bk x.wait).st)
  · exact (num_bk x.part).st.comp (num_bk x.time).st
  · exact (num_bk x.part).st.comp (num_bk x.offset).st
  · exact (num_bk x.parts).st.comp (truth_bk x.compact).st
  · exact Bs.refl
  · exact Bs.refl
theorem top_bs (x : Rq) (hk : 1 ≤ x.kind ∧ x.kind ≤ 7) : Bk (fun s => topW s x) (topS wText x.kind.toNat) (if x.kind = 7 then [] else x.topic.data.toList) := by
  unfold topW topS
  by_cases h : x.kind = 7
  · simp only [h, if_true]
    exact fun s hs => ⟨hs, [], by simp, fun rest => rfl⟩
  · have h' : ¬ x.kind.toNat = 7 := by omega
    simp only [if_neg h, if_neg h']
    exact text_bk x.topic 40
theorem req_back (x : Rq) (hk : 1 ≤ x.kind ∧ x.kind ≤ 7) (hb : (reqW ([], 0) x).2 = 0) :
    (parseQ wText (reqW ([], 0) x).1).2 = ([], false) ∧ kindOf (reqW ([], 0) x).1 = x.kind.toNat := by
  have h0 : Bs (fun s => endW (topW s x) x) (fun s => (tailS wText x.kind.toNat x.corr.toNat (topS wText x.kind.toNat s).1 (topS wText x.kind.toNat s).2).2) :=
    (top_bs x hk).bind (q := fun t s => (tailS wText x.kind.toNat x.corr.toNat t s).2) (end_bs x hk _ _)
  have h1 : Bs (fun s => endW (topW (numW s x.corr) x) x) (fun s => (tailS wText x.kind.toNat (numS s).1 (topS wText x.kind.toNat (numS s).2).1 (topS wText x.kind.toNat (numS s).2).2).2) :=
    (num_bk x.corr).bind (q := fun c s => (tailS wText x.kind.toNat c (topS wText x.kind.toNat s).1 (topS wText x.kind.toNat s).2).2) h0
  obtain ⟨b1, c, b2, b3⟩ := h1 (numW ([], 0) x.kind) hb
  obtain ⟨_, d, a2, a3⟩ := num_bk x.kind ([], 0) b1
  have e : (reqW ([], 0) x).1 = d ++ c := by
    refine b2.trans ?_
    simp only at a2
    rw [a2, List.nil_append]
  rw [e]
  have a4 := a3 c
  have b4 := b3 []
  rw [List.append_nil] at b4
  refine ⟨?_, ?_⟩
  · unfold parseQ
    simp only
    rw [a4]
    exact b4
  · unfold kindOf
    rw [a4]

theorem fromB_four (n : Nat) (more : List UInt8) (h : n < 4294967296) : fromB (four n ++ more) = n := by
  unfold fromB four fourAt
  simp only [fromTo, List.cons_append, List.nil_append, List.getD_cons_zero, List.getD_cons_succ, UInt8.toNat_ofNat']
  omega
theorem four_length (n : Nat) : (four n).length = 4 := rfl
theorem frame_ok {s : WS} (h : frameErr s = 0) : s.2 = 0 ∧ s.1.length ≤ 10000 := by
  unfold frameErr at h
  by_cases g : s.2 ≠ 0
  · rw [if_pos g] at h; exact absurd h g
  · rw [if_neg g] at h
    by_cases g2 : 10000 < s.1.length
    · rw [if_pos g2] at h; cases h
    · exact ⟨Classical.not_not.1 g, by omega⟩
theorem frame_length (s : WS) : (frameB s).length = s.1.length + 4 := by unfold frameB; rw [List.length_append, four_length]; omega
theorem frame_size (s : WS) (more : List UInt8) (h1 : 1 ≤ s.1.length) (h2 : s.1.length ≤ 10000) :
    fromB (frameB s ++ more) = s.1.length ∧ sizeErr (frameB s ++ more) = 0 ∧ bodyQ (frameB s ++ more) = s.1 := by
  have e : fromB (frameB s ++ more) = s.1.length := by
    unfold frameB; rw [List.append_assoc]; exact fromB_four _ _ (by omega)
  have hl : (frameB s ++ more).length = s.1.length + 4 + more.length := by rw [List.length_append, frame_length]
  refine ⟨e, sizeErr_0 (by omega) (by omega) (by omega), ?_⟩
  unfold bodyQ
  rw [e, List.take_left' (frame_length s)]
  unfold frameB
  rw [List.drop_left' (four_length _)]
theorem frame_short (s : WS) (k : Nat) (h1 : 1 ≤ s.1.length) (h2 : s.1.length ≤ 10000) (hk : k < (frameB s).length) : sizeErr ((frameB s).take k) = 12 := by
  have hl : ((frameB s).take k).length = k := by rw [List.length_take]; omega
  rw [frame_length] at hk
  by_cases h4 : k < 4
  · exact sizeErr_12 (by omega)
  · have e : fromB ((frameB s).take k) = s.1.length := by
      unfold frameB
      rw [List.take_append, List.take_of_length_le (by rw [four_length]; omega)]
      exact fromB_four _ _ (by omega)
    exact sizeErr_short (by omega) (by omega) (by omega)

/-- A request that was written well: what is read of its frame, whatever stands behind it; what that is written as; what a beginning is. -/
theorem ask_back (x : Rq) (h : askErr x = 0) (more : List UInt8) :
    askedErr (askB x ++ more) = 0 ∧ fromB (askB x ++ more) + 4 = (askB x).length ∧ bodyQ (askB x ++ more) = (reqW ([], 0) x).1
      ∧ askErr (parseQ wText (bodyQ (askB x ++ more))).1 = 0 ∧ askB (parseQ wText (bodyQ (askB x ++ more))).1 = askB x
      ∧ ∀ k, k < (askB x).length → askedErr ((askB x).take k) = 12 := by
  unfold askErr at h
  by_cases hk : x.kind < 1 ∨ 7 < x.kind
  · rw [if_pos hk] at h; cases h
  rw [if_neg hk] at h
  obtain ⟨hb, hl⟩ := frame_ok h
  obtain ⟨p1, p2⟩ := req_back x (by omega) hb
  have h1 : 1 ≤ (reqW ([], 0) x).1.length := by
    cases hc : (reqW ([], 0) x).1 with
    | cons a l => simp
    | nil => rw [hc] at p2; have : kindOf [] = 0 := by decide
             omega
  obtain ⟨f1, f2, f3⟩ := frame_size (reqW ([], 0) x) more h1 hl
  have hkk : 1 ≤ kindOf (reqW ([], 0) x).1 ∧ kindOf (reqW ([], 0) x).1 ≤ 7 := by omega
  have hw : reqW ([], 0) (parseQ wText (reqW ([], 0) x).1).1 = reqW ([], 0) x := by
    obtain ⟨c, h1, h2⟩ := parse_wrt hkk (by rw [p1])
    rw [p1] at h1
    simp only [List.append_nil] at h1
    have h3 := h2 []
    simp only [List.nil_append] at h3
    rw [h3, ← h1]
    exact Prod.ext rfl hb.symm
  have hq := parseQ_kind wText (reqW ([], 0) x).1
  refine ⟨?_, ?_, f3, ?_, ?_, fun k hkl => ?_⟩
  · unfold askB askedErr
    rw [if_neg (fun e => e f2), if_pos]
    rw [f3]
    exact ⟨hkk, by rw [p1], by rw [p1]⟩
  · unfold askB
    rw [f1, frame_length]
  · rw [show bodyQ (askB x ++ more) = _ from f3]
    unfold askErr
    rw [hq, if_neg (by omega), hw]
    exact h
  · rw [show bodyQ (askB x ++ more) = _ from f3]
    unfold askB
    rw [hw]
  · have hs : sizeErr ((askB x).take k) = 12 := frame_short (reqW ([], 0) x) k h1 hl hkl
    unfold askedErr
    rw [if_pos (by rw [hs]; decide), hs]
end Go.Proofs.YtmklicodfiggnaaDoor
