/-
  An answer that is written well is read again, whatever stands behind it. Plain data.
-/
import Derived.Test.YtmklicodfiggnaaDoorBackL
set_option linter.unusedSimpArgs false
namespace Go.Proofs.YtmklicodfiggnaaDoor
open Go.RowKit

theorem tp_bs (t : Tp) : Bs (fun s => tpW s t) (fun s => (tpS wText s).2) :=
  ((text_bk t.name 40).st.comp (num_bk t.parts).st).comp (truth_bk t.compact).st
theorem tops_bs : ∀ (ts : List Tp) (acc : List Tp), Bs (fun s => ts.foldl tpW s) (fun s => (topsL wText ts.length s acc).2)
  | [], acc => Bs.refl
  | t :: ts, acc => fun s hs => by
    have ih := fun acc => tops_bs ts acc
    obtain ⟨h1, c, h2, h3⟩ := ih acc (tpW s t) hs
    obtain ⟨g1, d, g2, g3⟩ := tp_bs t s h1
    refine ⟨g1, d ++ c, by simp only [List.foldl_cons] at h2 g2 ⊢; rw [h2, g2, List.append_assoc], fun rest => ?_⟩
    obtain ⟨_, c', h2', h3'⟩ := ih (acc ++ [(tpS wText (d ++ (c ++ rest), false)).1]) (tpW s t) hs
    have hc : c' = c := List.append_cancel_left (h2'.symm.trans h2)
    subst hc
    rw [List.append_assoc, List.length_cons]
    simp only
    rw [topsL_on rfl]
    have := g3 (c' ++ rest)
    simp only at this
    rw [this]
    exact h3' rest
theorem topsW_bs (ts : List Tp) : Bs (fun s => topsW s ts) (fun s => (topsS wText s).2) :=
  (num_bk (ts.length : Int)).bind (q := fun n s => (topsL wText n s []).2) (by
    rw [Int.toNat_natCast]
    exact tops_bs ts [])
theorem found_bs (x : Ar) : Bs (fun s => if x.found = true then numsW (truthW s true) [x.offset] else truthW s false) (fun s => (offF (truthS s).1 (truthS s).2).2) := by
  cases hf : x.found
  · exact (truth_bk false).bind (q := fun fd s => (offF fd s).2) (h := fun s => s) Bs.refl
  · exact (truth_bk true).bind (q := fun fd s => (offF fd s).2) (h := fun s => numW s x.offset) (num_bk x.offset).st
theorem ans_bs (x : Ar) (hk : 1 ≤ x.kind ∧ x.kind ≤ 7) (r : Ar) : Bs (fun s => ansW s x) (fun s => (ansS wText x.kind.toNat r s).2) := by
  unfold ansW ansS
  obtain h | h | h | h | h | h | h : x.kind = 1 ∨ x.kind = 2 ∨ x.kind = 3 ∨ x.kind = 4 ∨ x.kind = 5 ∨ x.kind = 6 ∨ x.kind = 7 := by omega
  all_goals rw [h]
  · exact (num_bk x.offset).st
  · exact ((num_bk x.start).st.comp (num_bk x.fin).st).comp (recsW_bs true x.recs)
  · exact found_bs x
  · exact (num_bk x.start).st
  · exact Bs.refl
  · exact Bs.refl
  · exact topsW_bs x.tops
theorem tell_req_back (x : Ar) (hk : 1 ≤ x.kind ∧ x.kind ≤ 7) (he : 0 ≤ x.err) (hb : (tellW ([], 0) x).2 = 0) :
    (parseA wText (tellW ([], 0) x).1).2 = ([], false) ∧ kindOf (tellW ([], 0) x).1 = x.kind.toNat ∧ errOf (tellW ([], 0) x).1 = x.err.toNat := by
  have h0 : Bs (fun s => if x.err = 0 then ansW (numW s x.err) x else numW s x.err) (fun s => (if (numS s).1 = 0 then ansS wText x.kind.toNat (ar0 x.kind.toNat x.corr.toNat (numS s).1) (numS s).2 else (ar0 x.kind.toNat x.corr.toNat (numS s).1, (numS s).2)).2) := by
    by_cases h : x.err = 0
    · simp only [if_pos h]
      refine (num_bk x.err).bind (h := fun s => ansW s x) (q := fun e s => (if e = 0 then ansS wText x.kind.toNat (ar0 x.kind.toNat x.corr.toNat e) s else (ar0 x.kind.toNat x.corr.toNat e, s)).2) ?_
      have e0 : x.err.toNat = 0 := by omega
      simp only [e0, if_true]
      exact ans_bs x hk _
    · simp only [if_neg h]
      refine (num_bk x.err).bind (h := fun s => s) (q := fun e s => (if e = 0 then ansS wText x.kind.toNat (ar0 x.kind.toNat x.corr.toNat e) s else (ar0 x.kind.toNat x.corr.toNat e, s)).2) ?_
      have e0 : ¬ x.err.toNat = 0 := by omega
      simp only [if_neg e0]
      exact Bs.refl
  have h1 : Bs (fun s => if x.err = 0 then ansW (numW (numW s x.corr) x.err) x else numW (numW s x.corr) x.err)
      (fun s => (if (numS (numS s).2).1 = 0 then ansS wText x.kind.toNat (ar0 x.kind.toNat (numS s).1 (numS (numS s).2).1) (numS (numS s).2).2 else (ar0 x.kind.toNat (numS s).1 (numS (numS s).2).1, (numS (numS s).2).2)).2) :=
    (num_bk x.corr).bind (q := fun c s => (if (numS s).1 = 0 then ansS wText x.kind.toNat (ar0 x.kind.toNat c (numS s).1) (numS s).2 else (ar0 x.kind.toNat c (numS s).1, (numS s).2)).2) h0
  have hw : tellW ([], 0) x = if x.err = 0 then ansW (numW (numW (numW ([], 0) x.kind) x.corr) x.err) x else numW (numW (numW ([], 0) x.kind) x.corr) x.err := rfl
  rw [hw] at hb ⊢
  obtain ⟨b1, c, b2, b3⟩ := h1 (numW ([], 0) x.kind) hb
  obtain ⟨_, d, a2, a3⟩ := num_bk x.kind ([], 0) b1
  have hc2 : Bs (fun s => numW (numW s x.corr) x.err) (fun s => (numS (numS s).2).2) := (num_bk x.corr).st.comp (num_bk x.err).st
  have e : (if x.err = 0 then ansW (numW (numW (numW ([], 0) x.kind) x.corr) x.err) x else numW (numW (numW ([], 0) x.kind) x.corr) x.err).1 = d ++ c := by
    refine b2.trans ?_
    simp only at a2
    rw [a2, List.nil_append]
  -- the third number
  have he3 : (numS (numS (c, false)).2).1 = x.err.toNat := by
    have hb' : (numW (numW (numW ([], 0) x.kind) x.corr) x.err).2 = 0 := by
      by_cases h : x.err = 0
      · rw [if_pos h] at hb
        exact (ans_bs x hk (ar0 0 0 0) _ hb).1
      · rw [if_neg h] at hb
        exact hb
    obtain ⟨n1, c3, n2, n3⟩ := num_bk x.err (numW (numW ([], 0) x.kind) x.corr) hb'
    obtain ⟨_, c2, m2, m3⟩ := num_bk x.corr (numW ([], 0) x.kind) n1
    simp only at n2 m2
    obtain ⟨rest, hr⟩ : ∃ rest, c = c2 ++ (c3 ++ rest) := by
      by_cases h : x.err = 0
      · rw [if_pos h] at hb
        obtain ⟨_, r, r2, _⟩ := ans_bs x hk (ar0 0 0 0) _ hb
        refine ⟨r, ?_⟩
        simp only at b2 r2
        rw [if_pos h, r2, n2, m2] at b2
        simp only [List.append_assoc] at b2
        exact (List.append_cancel_left b2).symm
      · refine ⟨[], ?_⟩
        simp only at b2
        rw [if_neg h, n2, m2] at b2
        simp only [List.append_assoc] at b2
        rw [List.append_nil]
        exact (List.append_cancel_left b2).symm
    rw [hr, m3, n3]
  rw [e]
  have a4 := a3 c
  have b4 := b3 []
  rw [List.append_nil] at b4
  refine ⟨?_, ?_, ?_⟩
  · unfold parseA
    simp only
    rw [a4]
    exact b4
  · unfold kindOf
    rw [a4]
  · unfold errOf
    rw [a4]
    exact he3

/-- An answer that was written well: what is read of its frame, whatever stands behind it; what that is written as; what a beginning is. -/
theorem tell_back (x : Ar) (h : tellErr x = 0) (more : List UInt8) :
    toldErr (tellB x ++ more) = 0 ∧ fromB (tellB x ++ more) + 4 = (tellB x).length ∧ bodyQ (tellB x ++ more) = (tellW ([], 0) x).1
      ∧ tellErr (parseA wText (bodyQ (tellB x ++ more))).1 = 0 ∧ tellB (parseA wText (bodyQ (tellB x ++ more))).1 = tellB x
      ∧ ∀ k, k < (tellB x).length → toldErr ((tellB x).take k) = 12 := by
  unfold tellErr at h
  by_cases hk : x.kind < 1 ∨ 7 < x.kind ∨ x.err < 0 ∨ 15 < x.err
  · rw [if_pos hk] at h; cases h
  rw [if_neg hk] at h
  obtain ⟨hb, hl⟩ := frame_ok h
  obtain ⟨p1, p2, p3⟩ := tell_req_back x (by omega) (by omega) hb
  have h1 : 1 ≤ (tellW ([], 0) x).1.length := by
    cases hc : (tellW ([], 0) x).1 with
    | cons a l => simp
    | nil => rw [hc] at p2; have : kindOf [] = 0 := by decide
             omega
  obtain ⟨f1, f2, f3⟩ := frame_size (tellW ([], 0) x) more h1 hl
  have hkk : (1 ≤ kindOf (tellW ([], 0) x).1 ∧ kindOf (tellW ([], 0) x).1 ≤ 7) ∧ errOf (tellW ([], 0) x).1 ≤ 15 := by omega
  have hw : tellW ([], 0) (parseA wText (tellW ([], 0) x).1).1 = tellW ([], 0) x := by
    obtain ⟨c, h1, h2⟩ := parseA_wrt (l := (tellW ([], 0) x).1) (by rw [p1])
    rw [p1] at h1
    simp only [List.append_nil] at h1
    have h3 := h2 []
    simp only [List.nil_append] at h3
    rw [h3, ← h1]
    exact Prod.ext rfl hb.symm
  obtain ⟨hq, _, hqe⟩ := parseA_kind wText (tellW ([], 0) x).1
  refine ⟨?_, ?_, f3, ?_, ?_, fun k hkl => ?_⟩
  · unfold tellB toldErr
    rw [if_neg (fun e => e f2), if_pos]
    rw [f3]
    exact ⟨hkk.1, hkk.2, by rw [p1], by rw [p1]⟩
  · unfold tellB
    rw [f1, frame_length]
  · rw [show bodyQ (tellB x ++ more) = _ from f3]
    unfold tellErr
    rw [hq, hqe, if_neg (by omega), hw]
    exact h
  · rw [show bodyQ (tellB x ++ more) = _ from f3]
    unfold tellB
    rw [hw]
  · have hs : sizeErr ((tellB x).take k) = 12 := frame_short (tellW ([], 0) x) k h1 hl hkl
    unfold toldErr
    rw [if_pos (by rw [hs]; decide), hs]

/-- What is read of a frame that was written well, all that the law wants of it. -/
theorem tell_back_all (x : Ar) (h : tellErr x = 0) (more : List UInt8) :
    toldErr (tellB x ++ more) = 0 ∧ fromB (tellB x ++ more) + 4 = (tellB x).length ∧ tellErr (chainA (bodyQ (tellB x ++ more))).1 = 0 ∧ tellB (chainA (bodyQ (tellB x ++ more))).1 = tellB x
      ∧ (chainA (bodyQ (tellB x ++ more))).1.recs.length ≤ 20000 ∧ (∀ r ∈ (chainA (bodyQ (tellB x ++ more))).1.recs, r.key.size ≤ 1048576 ∧ r.value.size ≤ 1048576)
      ∧ (chainA (bodyQ (tellB x ++ more))).1.tops.length ≤ 20000 ∧ (∀ t ∈ (chainA (bodyQ (tellB x ++ more))).1.tops, t.name.size ≤ 1048576)
      ∧ (∀ k, k < (tellB x).length → toldErr ((tellB x).take k) = 12) ∧ 5 ≤ (tellB x).length ∧ (tellB x).length ≤ 10004 := by
  obtain ⟨h1, h2, h3, h4, h5, h6⟩ := tell_back x h more
  have hc := told_parse h1
  have hal := (told_alike (tellB x ++ more)).2 h1
  have hl := parseA_le (bodyQ (tellB x ++ more))
  rw [hal] at hl
  rw [hc]
  have hlen : (tellB x).length ≤ 10004 := by
    unfold tellErr at h
    by_cases hk : x.kind < 1 ∨ 7 < x.kind ∨ x.err < 0 ∨ 15 < x.err
    · rw [if_pos hk] at h; cases h
    rw [if_neg hk] at h
    have := (frame_ok h).2
    show (frameB (tellW ([], 0) x)).length ≤ _
    rw [frame_length]
    omega
  have hbl : (bodyQ (tellB x ++ more)).length ≤ 10004 := by
    unfold bodyQ
    rw [List.length_drop, List.length_take]
    omega
  have hs : sizeErr (tellB x ++ more) = 0 := by
    refine Classical.byContradiction fun hs => ?_
    rw [told_size hs] at h1
    exact hs h1
  have := sizeErr_good hs
  exact ⟨h1, h2, h4, h5, by omega, hl.2.1, by omega, hl.2.2.2, h6, by omega, hlen⟩
end Go.Proofs.YtmklicodfiggnaaDoor
