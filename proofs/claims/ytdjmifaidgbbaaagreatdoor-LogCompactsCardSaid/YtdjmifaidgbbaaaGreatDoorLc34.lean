/-
  A log as the batches that it has, plain: what is read of it; what Add makes of it where the disk does not fail. (Of the logs' seat.)
-/
import Derived.Test.YtdjmifaidgbbaaaGreatDoorLc31
import Derived.Test.YtdjmifaidgbbaaaGreatDoorLc25
set_option linter.unusedSimpArgs false
set_option linter.unusedVariables false
namespace Go.Proofs.YtdjmifaidgbbaaaGreatDoor
open Go.RowKit Go.Lib

/-! ### offsets rise -/
def offUp : Int → List Rec → Prop
  | _, [] => True
  | n, r :: rs => n ≤ r.off ∧ offUp (r.off + 1) rs
theorem offUp_le : ∀ {n m : Int} {rs : List Rec}, offUp n rs → m ≤ n → offUp m rs
  | _, _, [], _, _ => trivial
  | _, _, _ :: _, h, hm => ⟨Int.le_trans hm h.1, h.2⟩
theorem offUp_mem : ∀ {n : Int} {rs : List Rec}, offUp n rs → ∀ r ∈ rs, n ≤ r.off
  | _, [], _, r, hr => by cases hr
  | n, a :: rs, h, r, hr => by
    rcases List.mem_cons.1 hr with rfl | hr
    · exact h.1
    · have := offUp_mem h.2 r hr
      have := h.1
      omega
theorem offUp_append : ∀ {n m : Int} {a b : List Rec}, offUp n a → (∀ r ∈ a, r.off < m) → n ≤ m → offUp m b → offUp n (a ++ b)
  | n, m, [], b, _, _, hm, hb => offUp_le hb hm
  | n, m, x :: a, b, ha, hx, _, hb => ⟨ha.1, offUp_append ha.2 (fun r hr => hx r (List.mem_cons_of_mem _ hr)) (by have := hx x (List.mem_cons_self ..); omega) hb⟩
theorem offUp_check {en : Int} : ∀ {last : Int} {rs : List Rec}, checkRecs en last rs = 0 → offUp (last + 1) rs
  | _, [], _ => trivial
  | last, r :: rs, h => by
    unfold checkRecs at h
    by_cases h1 : badArg last en r = true
    · rw [if_pos h1] at h; cases h
    rw [if_neg h1] at h
    by_cases h2 : badLen r = true
    · rw [if_pos h2] at h; cases h
    rw [if_neg h2] at h
    by_cases h3 : badTime r = true
    · rw [if_pos h3] at h; cases h
    rw [if_neg h3] at h
    have h4 : last < r.off := by
      unfold badArg at h1
      simp only [Bool.or_eq_true, decide_eq_true_eq, not_or] at h1
      omega
    exact ⟨by omega, offUp_check h⟩
theorem Bt.Ok.up {b : Bt} (h : b.Ok) : offUp b.base b.rs := by
  have hc := checked_of_enc h.err
  have hz := checkB_zero hc
  unfold checkB at hc
  rw [if_neg (by omega), if_neg (by omega), if_neg (by omega)] at hc
  exact offUp_le (offUp_check hc) (by omega)
theorem Bt.Ok.offs {b : Bt} (h : b.Ok) : ∀ r ∈ b.rs, b.base ≤ r.off ∧ r.off < b.en := fun r hr => by
  have h1 := (checkB_zero (checked_of_enc h.err)).2.2.2.2.2 r hr
  exact ⟨h1.lo, h1.hi⟩
def recsOf (l : List Bt) : List Rec := l.flatMap Bt.rs
theorem recsOf_cons (b : Bt) (l : List Bt) : recsOf (b :: l) = b.rs ++ recsOf l := List.flatMap_cons
theorem recsOf_append (l m : List Bt) : recsOf (l ++ m) = recsOf l ++ recsOf m := List.flatMap_append
theorem recsOf_up : ∀ {n : Int} {l : List Bt}, (∀ b ∈ l, b.Ok) → rising n l → offUp n (recsOf l)
  | _, [], _, _ => trivial
  | n, b :: l, hok, h => by
    have hb := hok b (List.mem_cons_self ..)
    rw [recsOf_cons]
    exact offUp_append (offUp_le hb.up h.1) (fun r hr => (hb.offs r hr).2) (by have := hb.nums.lt; have := h.1; omega) (recsOf_up (fun c hc => hok c (List.mem_cons_of_mem _ hc)) h.2)
theorem recsOf_offs {l : List Bt} (hok : ∀ b ∈ l, b.Ok) : ∀ r ∈ recsOf l, ∃ b ∈ l, b.base ≤ r.off ∧ r.off < b.en := fun r hr => by
  obtain ⟨b, hb, hr⟩ := List.mem_flatMap.1 hr
  exact ⟨b, hb, (hok b hb).offs r hr⟩
theorem recsOf_len {l : List Bt} (hok : ∀ b ∈ l, b.Ok) : (recsOf l).length ≤ 50 * l.length := by
  induction l with
  | nil => simp [recsOf]
  | cons b l ih =>
    rw [recsOf_cons, List.length_append, List.length_cons]
    have := ih (fun c hc => hok c (List.mem_cons_of_mem _ hc))
    have := (hok b (List.mem_cons_self ..)).nums.few
    omega

/-! ### those from an offset on -/
def ge (frm : Int) (r : Rec) : Bool := decide (frm ≤ r.off)
def recsFrom (frm : Int) (l : List Bt) : List Rec := (recsOf l).filter (ge frm)
theorem recsFrom_append (frm : Int) (l m : List Bt) : recsFrom frm (l ++ m) = recsFrom frm l ++ recsFrom frm m := by unfold recsFrom; rw [recsOf_append, List.filter_append]
theorem recsFrom_low {frm : Int} {l : List Bt} (hok : ∀ b ∈ l, b.Ok) (h : ∀ b ∈ l, b.en ≤ frm) : recsFrom frm l = [] := by
  unfold recsFrom
  rw [List.filter_eq_nil_iff]
  intro r hr
  obtain ⟨b, hb, h1, h2⟩ := recsOf_offs hok r hr
  have := h b hb
  unfold ge
  simp only [decide_eq_true_eq]
  omega
theorem recsFrom_high {frm : Int} {l : List Bt} (hok : ∀ b ∈ l, b.Ok) (h : ∀ b ∈ l, frm ≤ b.base) : recsFrom frm l = recsOf l := by
  unfold recsFrom
  rw [List.filter_eq_self]
  intro r hr
  obtain ⟨b, hb, h1, h2⟩ := recsOf_offs hok r hr
  have := h b hb
  unfold ge
  simp only [decide_eq_true_eq]
  omega
/-- What is behind a piece that was read. -/
theorem filter_step {frm : Int} : ∀ {n : Int} {l out rest : List Rec}, offUp n l → l.filter (ge frm) = out ++ rest → ∀ z, out.getLast? = some z → l.filter (ge (z.off + 1)) = rest := by
  intro n l out rest hu he z hz
  have hmem : z ∈ out := List.mem_of_getLast? hz
  have hzl : z ∈ l.filter (ge frm) := by rw [he]; exact List.mem_append_left _ hmem
  have hzf : frm ≤ z.off := by have := (List.mem_filter.1 hzl).2; unfold ge at this; simpa using this
  have hsub : ∀ (l : List Rec) (n : Int), offUp n l → offUp n (l.filter (ge frm)) := by
    intro l
    induction l with
    | nil => intro n _; trivial
    | cons a l ih =>
      intro n h
      by_cases ha : ge frm a = true
      · rw [List.filter_cons_of_pos ha]; exact ⟨h.1, ih _ h.2⟩
      · rw [List.filter_cons_of_neg ha]; exact offUp_le (ih _ h.2) (by have := h.1; omega)
  have hu2 := hsub l n hu
  rw [he] at hu2
  have e1 : l.filter (ge (z.off + 1)) = (l.filter (ge frm)).filter (ge (z.off + 1)) := by
    rw [List.filter_filter]
    refine List.filter_congr fun r _ => ?_
    unfold ge
    by_cases h1 : z.off + 1 ≤ r.off
    · have h2 : frm ≤ r.off := by omega
      simp [h1, h2]
    · simp [h1]
  rw [e1, he, List.filter_append]
  obtain ⟨pre, rfl⟩ : ∃ pre, out = pre ++ [z] := by
    rw [List.getLast?_eq_some_iff] at hz
    exact hz
  have key : ∀ (pre : List Rec) (n : Int), offUp n (pre ++ [z] ++ rest) → (∀ r ∈ pre ++ [z], r.off ≤ z.off) ∧ ∀ r ∈ rest, z.off + 1 ≤ r.off := by
    intro pre
    induction pre with
    | nil =>
      intro n h
      refine ⟨fun r hr => ?_, fun r hr => offUp_mem h.2 r hr⟩
      rw [List.nil_append, List.mem_singleton] at hr
      rw [hr]; exact Int.le_refl _
    | cons a pre ih =>
      intro n h
      obtain ⟨h1, h2⟩ := ih _ h.2
      refine ⟨fun r hr => ?_, h2⟩
      rw [List.cons_append] at hr
      rcases List.mem_cons.1 hr with rfl | hr
      · have := offUp_mem h.2 z (by simp)
        omega
      · exact h1 r hr
  obtain ⟨k1, k2⟩ := key pre n hu2
  rw [List.filter_eq_nil_iff.2 (fun r hr => by unfold ge; have := k1 r hr; simp; omega), List.nil_append]
  exact List.filter_eq_self.2 (fun r hr => by unfold ge; have := k2 r hr; simp; omega)

/-! ### segments, one behind the other -/
abbrev SgB := Sg × List Bt
def allBts (xs : List SgB) : List Bt := xs.flatMap (·.2)
theorem allBts_cons (x : SgB) (xs : List SgB) : allBts (x :: xs) = x.2 ++ allBts xs := List.flatMap_cons
theorem allBts_append (xs ys : List SgB) : allBts (xs ++ ys) = allBts xs ++ allBts ys := List.flatMap_append
def chainUp : Int → List SgB → Prop
  | _, [] => True
  | n, x :: r => n ≤ x.1.base ∧ chainUp (max x.1.next (x.1.base + 1)) r
theorem rising_append : ∀ {n : Int} {l m : List Bt}, rising n l → rising (lastEnd n l) m → rising n (l ++ m)
  | _, [], _, _, h => h
  | _, a :: l, _, h, h2 => ⟨h.1, rising_append h.2 h2⟩
theorem rising_le {n m : Int} {l : List Bt} (h : rising n l) (hm : m ≤ n) : rising m l := by
  cases l with
  | nil => trivial
  | cons a l => exact ⟨Int.le_trans hm h.1, h.2⟩
theorem SgOf.base_next {g : Sg} {l : List Bt} (h : SgOf g l) : g.base ≤ g.next := by rw [h.next]; exact (lastEnd_le h.ok h.up).1
theorem chainUp_rising : ∀ {n : Int} {xs : List SgB}, (∀ x ∈ xs, SgOf x.1 x.2) → chainUp n xs → rising n (allBts xs) ∧ ∀ b ∈ allBts xs, b.Ok
  | _, [], _, _ => ⟨trivial, fun b hb => by cases hb⟩
  | n, x :: r, h, hu => by
    have hx := h x (List.mem_cons_self ..)
    obtain ⟨h1, h2⟩ := chainUp_rising (fun y hy => h y (List.mem_cons_of_mem _ hy)) hu.2
    rw [allBts_cons]
    refine ⟨rising_append (rising_le hx.up hu.1) ?_, fun b hb => ?_⟩
    · have h3 := hx.next
      rcases List.eq_nil_or_concat x.2 with h0 | ⟨m, b, h0⟩
      · rw [h0]
        refine rising_le h1 ?_
        have := hu.1
        show n ≤ _
        omega
      · rw [List.concat_eq_append] at h0
        rw [h0, lastEnd_snoc] at h3 ⊢
        exact rising_le h1 (by omega)
    · rcases List.mem_append.1 hb with hb | hb
      · exact hx.ok b hb
      · exact h2 b hb
/-- What Read gives, where it gives something: batches are looked through, those taken out passed over. -/
inductive Reads (most : Int) : Int → List SgB → List Rec → Prop
  | nil (frm : Int) : Reads most frm [] []
  | skip {frm : Int} {x : SgB} {r : List SgB} {out : List Rec} : x.1.next ≤ frm → Reads most frm r out → Reads most frm (x :: r) out
  | hit {frm : Int} {x : SgB} {r : List SgB} : frm < x.1.next → recsFrom frm (readL x.2 frm most) ≠ [] → Reads most frm (x :: r) (recsFrom frm (readL x.2 frm most))
  | again {frm : Int} {x : SgB} {r : List SgB} {out : List Rec} : frm < x.1.next → recsFrom frm (readL x.2 frm most) = [] → lastEnd frm (readL x.2 frm most) < x.1.next → Reads most (lastEnd frm (readL x.2 frm most)) (x :: r) out → Reads most frm (x :: r) out
  | past {frm : Int} {x : SgB} {r : List SgB} {out : List Rec} : frm < x.1.next → recsFrom frm (readL x.2 frm most) = [] → x.1.next ≤ lastEnd frm (readL x.2 frm most) → Reads most (lastEnd frm (readL x.2 frm most)) r out → Reads most frm (x :: r) out
/-- Segments that end ahead of the offset are passed over. -/
theorem Reads.drop {most frm : Int} {out : List Rec} : ∀ {xs : List SgB} (k : Nat), (∀ x ∈ xs.take k, x.1.next ≤ frm) → Reads most frm xs out → Reads most frm (xs.drop k) out
  | xs, 0, _, h => h
  | [], k + 1, _, h => by simpa using h
  | x :: r, k + 1, hk, h => by
    rw [List.take_succ_cons] at hk
    have h1 := hk x (List.mem_cons_self ..)
    have h2 : Reads most frm r out := by
      cases h with
      | skip _ h => exact h
      | hit h _ => omega
      | again h _ _ _ => omega
      | past h _ _ _ => omega
    rw [List.drop_succ_cons]
    exact Reads.drop k (fun y hy => hk y (List.mem_cons_of_mem _ hy)) h2
theorem readGo_pre : ∀ (f : Bool) (m : Int) (l : List Bt), ∃ tl, l = readGo f m l ++ tl
  | _, _, [] => ⟨[], rfl⟩
  | f, m, a :: l => by
    unfold readGo
    split
    · exact ⟨a :: l, rfl⟩
    · obtain ⟨tl, h⟩ := readGo_pre false (wrap64 (m - (a.bytes.length : Nat))) l
      exact ⟨tl, by rw [List.cons_append, ← h]⟩
theorem takeWhile_low {frm : Int} : ∀ l : List Bt, ∀ b ∈ l.takeWhile (fun b => decide (b.en ≤ frm)), b.en ≤ frm
  | [], b, hb => by cases hb
  | a :: l, b, hb => by
    by_cases h : a.en ≤ frm
    · rw [List.takeWhile_cons_of_pos (by simpa using h)] at hb
      rcases List.mem_cons.1 hb with rfl | hb
      · exact h
      · exact takeWhile_low l b hb
    · rw [List.takeWhile_cons_of_neg (by simpa using h)] at hb
      cases hb
/-- A read takes batches out of the midst: what is ahead ends ahead, what is behind begins behind. -/
theorem readL_mid {n : Int} {l : List Bt} (hok : ∀ b ∈ l, b.Ok) (hup : rising n l) (frm most : Int) (hlt : frm < lastEnd n l) (hn : l = [] → n ≤ frm) :
    ∃ sk tl, l = sk ++ readL l frm most ++ tl ∧ readL l frm most ≠ [] ∧ (∀ b ∈ sk, b.en ≤ frm) ∧ frm < lastEnd frm (readL l frm most) ∧ (∀ b ∈ readL l frm most, b.en ≤ lastEnd frm (readL l frm most)) ∧ (∀ b ∈ tl, lastEnd frm (readL l frm most) ≤ b.base) ∧ lastEnd frm (readL l frm most) ≤ lastEnd n l := by
  have hsk : l = l.takeWhile (fun b => decide (b.en ≤ frm)) ++ l.dropWhile (fun b => decide (b.en ≤ frm)) := (List.takeWhile_append_dropWhile).symm
  have hskl : ∀ b ∈ l.takeWhile (fun b => decide (b.en ≤ frm)), b.en ≤ frm := fun b hb => by
    exact takeWhile_low l b hb
  have hne : l.dropWhile (fun b => decide (b.en ≤ frm)) ≠ [] := by
    intro h0
    rw [h0, List.append_nil] at hsk
    rcases List.eq_nil_or_concat l with rfl | ⟨m, b, rfl⟩
    · have := hn rfl
      have : frm < n := hlt
      omega
    · rw [List.concat_eq_append] at hlt hsk hskl
      rw [lastEnd_snoc] at hlt
      have := hskl b (by rw [← hsk]; simp)
      omega
  obtain ⟨b, dl, hd⟩ := List.exists_cons_of_ne_nil hne
  have hb : frm < b.en := by
    have h1 : (l.dropWhile (fun b => decide (b.en ≤ frm))).head? = some b := by rw [hd]; rfl
    have h2 := List.head?_dropWhile_not (fun b : Bt => decide (b.en ≤ frm)) l
    rw [h1] at h2
    simpa using h2
  obtain ⟨tl, htl⟩ := readGo_pre true most (l.dropWhile (fun b => decide (b.en ≤ frm)))
  have hx : readL l frm most = readGo true most (l.dropWhile (fun b => decide (b.en ≤ frm))) := rfl
  have hxne : readL l frm most ≠ [] := by
    rw [hx, hd]
    unfold readGo
    rw [if_neg (fun h => by cases h.1)]
    simp
  rw [← hx] at htl
  have hall : l = l.takeWhile (fun b => decide (b.en ≤ frm)) ++ readL l frm most ++ tl := by rw [List.append_assoc, ← htl]; exact hsk
  generalize l.takeWhile (fun b => decide (b.en ≤ frm)) = sk at hall hskl
  have hfst : ∃ xr, readL l frm most = b :: xr := by
    rw [hx, hd]
    unfold readGo
    rw [if_neg (fun h => by cases h.1)]
    exact ⟨_, rfl⟩
  obtain ⟨xr, hxr⟩ := hfst
  generalize readL l frm most = x at *
  have hsplit : ∀ {n : Int} (a c : List Bt), rising n (a ++ c) → rising (lastEnd n a) c := by
    intro n a
    induction a generalizing n with
    | nil => intro c h; exact h
    | cons e a ih => intro c h; exact ih c h.2
  have h1 : rising (lastEnd n (sk ++ x)) tl := hsplit (sk ++ x) tl (by rw [← hall]; exact hup)
  have h0 : rising (lastEnd n sk) (x ++ tl) := hsplit sk (x ++ tl) (by rw [← List.append_assoc, ← hall]; exact hup)
  have hle : lastEnd n (sk ++ x) = lastEnd frm x := by
    rw [hxr]
    have : ∀ (n m : Int) (a : List Bt), lastEnd n (a ++ b :: xr) = lastEnd m (b :: xr) := by
      intro n m a
      induction a generalizing n with
      | nil => rfl
      | cons e a ih => exact ih e.en
    exact this n frm sk
  have hokx : ∀ c ∈ x, c.Ok := fun c hc => hok c (by rw [hall]; simp [hc])
  have hokt : ∀ c ∈ tl, c.Ok := fun c hc => hok c (by rw [hall]; simp [hc])
  have hrx : rising (lastEnd n sk) x := by
    have : ∀ {n : Int} (a c : List Bt), rising n (a ++ c) → rising n a := by
      intro n a
      induction a generalizing n with
      | nil => intro c _; trivial
      | cons e a ih => intro c h; exact ⟨h.1, ih c h.2⟩
    exact this x tl h0
  have hxe : lastEnd (lastEnd n sk) x = lastEnd frm x := by rw [hxr]; rfl
  have hxle := lastEnd_le hokx hrx
  rw [hxe] at hxle
  refine ⟨sk, tl, hall, hxne, hskl, ?_, hxle.2, ?_, ?_⟩
  · have := hxle.2 b (by rw [hxr]; exact List.mem_cons_self ..)
    omega
  · rw [hle] at h1
    exact rising_mem hokt h1
  · rw [← hle]
    have : lastEnd n l = lastEnd (lastEnd n (sk ++ x)) tl := by
      have : ∀ (n : Int) (a c : List Bt), lastEnd n (a ++ c) = lastEnd (lastEnd n a) c := by
        intro n a
        induction a generalizing n with
        | nil => intro c; rfl
        | cons e a ih => intro c; exact ih e.en c
      conv => lhs; rw [hall]
      exact this n (sk ++ x) tl
    rw [this]
    exact (lastEnd_le hokt h1).1
/-- What is read is the beginning of what there is from the offset on; nothing only where there is nothing. -/
theorem Reads.from {most : Int} : ∀ {frm : Int} {xs : List SgB} {out : List Rec}, Reads most frm xs out → ∀ {n : Int}, (∀ x ∈ xs, SgOf x.1 x.2) → chainUp n xs → ∃ rest, recsFrom frm (allBts xs) = out ++ rest ∧ (out = [] → rest = []) := by
  intro frm xs out h
  induction h with
  | nil frm => intro n _ _; exact ⟨[], rfl, fun _ => rfl⟩
  | @skip frm x r out hn hr ih =>
    intro n hof hu
    obtain ⟨rest, h1, h2⟩ := ih (fun y hy => hof y (List.mem_cons_of_mem _ hy)) hu.2
    have hx := hof x (List.mem_cons_self ..)
    refine ⟨rest, ?_, h2⟩
    rw [allBts_cons, recsFrom_append, recsFrom_low hx.ok (fun b hb => ?_), List.nil_append]
    · exact h1
    · have := (lastEnd_le hx.ok hx.up).2 b hb
      rw [← hx.next] at this
      omega
  | @hit frm x r hn hne =>
    intro n hof hu
    have hx := hof x (List.mem_cons_self ..)
    obtain ⟨hr1, hr2⟩ := chainUp_rising hof hu
    obtain ⟨sk, tl, hall, _, hsk, _, _, htl, _⟩ := readL_mid hx.ok hx.up frm most (by rw [← hx.next]; exact hn) (fun h0 => by
      have h3 := hx.next
      rw [h0] at h3
      have h3 : x.1.next = x.1.base := h3
      by_cases hb : x.1.base ≤ frm
      · exact hb
      · exfalso
        apply hne
        rw [h0]
        rfl)
    refine ⟨recsFrom frm (tl ++ allBts r), ?_, fun h => absurd h hne⟩
    have hoks : ∀ b ∈ sk, b.Ok := fun b hb => hx.ok b (by rw [hall]; simp [hb])
    generalize readL x.2 frm most = y at *
    rw [allBts_cons, hall, List.append_assoc, List.append_assoc, recsFrom_append, recsFrom_low hoks hsk, List.nil_append, recsFrom_append]
  | @again frm x r out hn he hlt hr ih =>
    intro n hof hu
    obtain ⟨rest, h1, h2⟩ := ih hof hu
    have hx := hof x (List.mem_cons_self ..)
    refine ⟨rest, ?_, h2⟩
    rw [← h1]
    obtain ⟨hr1, hr2⟩ := chainUp_rising (fun y hy => hof y (List.mem_cons_of_mem _ hy)) hu.2
    by_cases h0 : x.2 = []
    · have e : lastEnd frm (readL x.2 frm most) = frm := by rw [h0]; rfl
      rw [e]
    obtain ⟨sk, tl, hall, _, hsk, hfl, hxl, htl, hle⟩ := readL_mid hx.ok hx.up frm most (by rw [← hx.next]; exact hn) (fun h => absurd h h0)
    have hoks : ∀ b ∈ sk, b.Ok := fun b hb => hx.ok b (by rw [hall]; simp [hb])
    have hokt : ∀ b ∈ tl, b.Ok := fun b hb => hx.ok b (by rw [hall]; simp [hb])
    have hoky : ∀ b ∈ readL x.2 frm most, b.Ok := fun b hb => hx.ok b (by rw [hall]; simp [hb])
    rw [← hx.next] at hle
    generalize readL x.2 frm most = y at *
    have hrb : ∀ b ∈ allBts r, lastEnd frm y ≤ b.base := fun b hb => by have := rising_mem hr2 hr1 b hb; omega
    rw [allBts_cons, hall, List.append_assoc, List.append_assoc, recsFrom_append, recsFrom_low hoks hsk, List.nil_append, recsFrom_append, he, List.nil_append, recsFrom_append frm, recsFrom_high hokt (fun b hb => by have := htl b hb; omega), recsFrom_high hr2 (fun b hb => by have := hrb b hb; omega)]
    rw [recsFrom_append, recsFrom_low hoks (fun b hb => by have := hsk b hb; omega), List.nil_append, recsFrom_append, recsFrom_low hoky hxl, List.nil_append, recsFrom_append, recsFrom_high hokt htl, recsFrom_high hr2 hrb]
  | @past frm x r out hn he hge hr ih =>
    intro n hof hu
    obtain ⟨rest, h1, h2⟩ := ih (fun y hy => hof y (List.mem_cons_of_mem _ hy)) hu.2
    have hx := hof x (List.mem_cons_self ..)
    obtain ⟨hr1, hr2⟩ := chainUp_rising (fun y hy => hof y (List.mem_cons_of_mem _ hy)) hu.2
    refine ⟨rest, ?_, h2⟩
    rw [← h1]
    by_cases h0 : x.2 = []
    · have e : lastEnd frm (readL x.2 frm most) = frm := by rw [h0]; rfl
      rw [e, allBts_cons, h0, List.nil_append]
    obtain ⟨sk, tl, hall, _, hsk, hfl, hxl, htl, hle⟩ := readL_mid hx.ok hx.up frm most (by rw [← hx.next]; exact hn) (fun h => absurd h h0)
    have hoks : ∀ b ∈ sk, b.Ok := fun b hb => hx.ok b (by rw [hall]; simp [hb])
    have hokt : ∀ b ∈ tl, b.Ok := fun b hb => hx.ok b (by rw [hall]; simp [hb])
    have hxe := (lastEnd_le hx.ok hx.up).2
    rw [← hx.next] at hle hxe
    have htn : tl = [] := by
      rcases tl with _ | ⟨c, tl⟩
      · rfl
      · have a1 := htl c (List.mem_cons_self ..)
        have a2 := (hokt c (List.mem_cons_self ..)).nums.lt
        have a3 := hxe c (by rw [hall]; simp)
        omega
    subst htn
    generalize readL x.2 frm most = y at *
    have hrb : ∀ b ∈ allBts r, lastEnd frm y ≤ b.base := fun b hb => by have := rising_mem hr2 hr1 b hb; omega
    rw [allBts_cons, hall, List.append_nil, List.append_assoc, recsFrom_append, recsFrom_low hoks hsk, List.nil_append, recsFrom_append, he, List.nil_append, recsFrom_high hr2 (fun b hb => by have := hrb b hb; omega), recsFrom_high hr2 hrb]
end Go.Proofs.YtdjmifaidgbbaaaGreatDoor

/-
  A log in order on its disk, plain; Flush, a new segment and Add where the disk does not fail. (Of the logs' seat.)
-/
set_option linter.unusedSimpArgs false
set_option linter.unusedVariables false
namespace Go.Proofs.YtdjmifaidgbbaaaGreatDoor
open Go.RowKit Go.Lib

/-! ### files -/
def Dk.has (d : Dk) (x : Nm) (l : List UInt8) : Prop := ∃ sf, d.find x = some ⟨l, sf⟩
theorem lookup_turn (x y : Nm) (f : Fl) : ∀ fs : List (Nm × Fl), (fs.map fun p => if p.1 = x then (p.1, f) else p).lookup y = if y = x then (fs.lookup y).map (fun _ => f) else fs.lookup y
  | [] => by simp
  | (a, c) :: r => by
    have ih := lookup_turn x y f r
    rw [List.map_cons]
    by_cases hax : a = x
    · subst hax
      simp only [if_true, List.lookup_cons]
      by_cases hy : y = a
      · subst hy; simp
      · have hb : (y == a) = false := beq_eq_false_iff_ne.2 hy
        simp only [hb, if_neg hy] at ih ⊢
        exact ih
    · rw [if_neg hax]
      simp only [List.lookup_cons]
      by_cases hy : y = a
      · subst hy
        simp [hax]
      · have hb : (y == a) = false := beq_eq_false_iff_ne.2 hy
        simp only [hb]
        exact ih
theorem find_turn (d : Dk) (x y : Nm) (f : Fl) : (d.turn x f).find y = if y = x then (d.find y).map (fun _ => f) else d.find y := lookup_turn x y f d.fs
theorem find_put (d : Dk) (x y : Nm) (f : Fl) : (d.put x f).find y = if y = x then some f else d.find y := lookup_put x y f d.fs
theorem find_del (d : Dk) (x y : Nm) : (d.del x).find y = if y = x then none else d.find y := lookup_filter x y d.fs
theorem Dk.has.turn {d : Dk} {x y : Nm} {l m : List UInt8} {sf : Nat} (h : d.has y l) (hxy : y ≠ x) : (d.turn x ⟨m, sf⟩).has y l := by
  obtain ⟨s, hs⟩ := h
  exact ⟨s, by rw [find_turn, if_neg hxy]; exact hs⟩
theorem Dk.has.turned {d : Dk} {x : Nm} {l m : List UInt8} (h : d.has x l) (sf : Nat) : (d.turn x ⟨m, sf⟩).has x m := by
  obtain ⟨s, hs⟩ := h
  exact ⟨sf, by rw [find_turn, if_pos rfl, hs]; rfl⟩
theorem segName_inj {dir : List UInt8} {a b : Nat} (ha : a ≤ 1099511627776) (hb : b ≤ 1099511627776) (h : segName dir a = segName dir b) : a = b := by
  have h1 := prog_hit dir ha
  rw [h, prog_hit dir hb] at h1
  omega

/-! ### a log in order -/
/-- One behind the other, all but the last one with something. -/
def lined : List SgB → Prop
  | [] => True
  | [_] => True
  | x :: y :: r => y.1.base = x.1.next ∧ x.2 ≠ [] ∧ lined (y :: r)
structure SgIn (d : Dk) (dir : List UInt8) (x : SgB) : Prop where
  of : SgOf x.1 x.2
  nm : x.1.name = segName dir x.1.base.toNat
  lo : 0 ≤ x.1.base
  hi : x.1.base ≤ 1099511627776
  fl : d.has x.1.name (batBs x.2)
theorem lastEnd_gt {n : Int} {l : List Bt} (hok : ∀ b ∈ l, b.Ok) (hup : rising n l) (hne : l ≠ []) : n < lastEnd n l := by
  obtain ⟨b, r, rfl⟩ := List.exists_cons_of_ne_nil hne
  have h1 := (lastEnd_le hok hup).2 b (List.mem_cons_self ..)
  have h2 := (hok b (List.mem_cons_self ..)).nums.lt
  have := hup.1
  omega
theorem SgOf.lt_next {g : Sg} {l : List Bt} (h : SgOf g l) (hne : l ≠ []) : g.base < g.next := by rw [h.next]; exact lastEnd_gt h.ok h.up hne
theorem lined_up : ∀ {xs : List SgB} {n : Int}, (∀ x ∈ xs, SgOf x.1 x.2) → lined xs → (∀ x, xs.head? = some x → n ≤ x.1.base) → chainUp n xs
  | [], _, _, _, _ => trivial
  | [x], n, h, _, h0 => ⟨h0 x rfl, trivial⟩
  | x :: y :: r, n, h, hl, h0 => by
    refine ⟨h0 x rfl, lined_up (fun z hz => h z (List.mem_cons_of_mem _ hz)) hl.2.2 (fun z hz => ?_)⟩
    have hz : y = z := Option.some.inj hz
    subst hz
    have := (h x (List.mem_cons_self ..)).lt_next hl.2.1
    rw [hl.1]
    omega
structure LgOk (d : Dk) (g : Lg) (xs : List SgB) : Prop where
  segs : g.segs = xs.map (·.1)
  ne : xs ≠ []
  each : ∀ x ∈ xs, SgIn d g.dir x
  line : lined xs
  only : ∀ n : Nat, n ≤ 1099511627776 → (d.find (segName g.dir n)).isSome = true → ∃ x ∈ xs, x.1.base = n
  kn : ∀ n : Nat, n ≤ 1099511627776 → dkName (segName g.dir n) = true
  ok : d.Ok
  lo : ∀ x, xs.head? = some x → x.1.base ≤ g.start
  hi : g.start ≤ g.stop
theorem LgOk.len {d : Dk} {g : Lg} {xs : List SgB} (h : LgOk d g xs) : g.segs.length = xs.length := by rw [h.segs, List.length_map]
theorem LgOk.pos {d : Dk} {g : Lg} {xs : List SgB} (h : LgOk d g xs) : 0 < xs.length := List.length_pos_iff.2 h.ne
/-- The last segment. -/
theorem LgOk.lastAt {d : Dk} {g : Lg} {xs : List SgB} (h : LgOk d g xs) : ∃ ys x, xs = ys ++ [x] ∧ g.last = x.1 ∧ g.segs = ys.map (·.1) ++ [x.1] := by
  rcases List.eq_nil_or_concat xs with h0 | ⟨ys, x, h0⟩
  · exact absurd h0 h.ne
  · rw [List.concat_eq_append] at h0
    refine ⟨ys, x, h0, ?_, by rw [h.segs, h0]; simp⟩
    unfold Lg.last
    rw [h.segs, h0]
    simp
theorem lined_snoc : ∀ {ys : List SgB} {x y : SgB}, lined (ys ++ [x]) → y.1.base = x.1.next → x.2 ≠ [] → lined (ys ++ [x] ++ [y])
  | [], x, y, _, h1, h2 => ⟨h1, h2, trivial⟩
  | [a], x, y, h, h1, h2 => ⟨h.1, h.2.1, h1, h2, trivial⟩
  | a :: b :: r, x, y, h, h1, h2 => ⟨h.1, h.2.1, lined_snoc (ys := b :: r) h.2.2 h1 h2⟩
theorem lined_last : ∀ {ys : List SgB} {x y : SgB}, lined (ys ++ [x]) → y.1.base = x.1.base → lined (ys ++ [y])
  | [], x, y, _, _ => trivial
  | [a], x, y, h, h1 => ⟨by rw [h1]; exact h.1, h.2.1, trivial⟩
  | a :: b :: r, x, y, h, h1 => ⟨h.1, h.2.1, lined_last (ys := b :: r) h.2.2 h1⟩
/-- What is ahead of the last segment begins ahead of it. -/
theorem lined_before : ∀ {ys : List SgB} {x : SgB}, (∀ z ∈ ys ++ [x], SgOf z.1 z.2) → lined (ys ++ [x]) → ∀ y ∈ ys, y.1.next ≤ x.1.base ∧ y.1.base < x.1.base
  | [], x, _, _, y, hy => by cases hy
  | [a], x, hof, h, y, hy => by
    rw [List.mem_singleton.1 hy]
    have := (hof a (by simp)).lt_next h.2.1
    have := h.1
    omega
  | a :: b :: r, x, hof, h, y, hy => by
    have ih := lined_before (ys := b :: r) (x := x) (fun z hz => hof z (List.mem_cons_of_mem _ hz)) h.2.2
    rcases List.mem_cons.1 hy with rfl | hy
    · have h1 := (hof y (by simp)).lt_next h.2.1
      have h2 := (ih b (List.mem_cons_self ..)).2
      have h3 : b.1.base = y.1.next := h.1
      omega
    · exact ih y hy
theorem LgOk.of {d : Dk} {g : Lg} {xs : List SgB} (h : LgOk d g xs) : ∀ x ∈ xs, SgOf x.1 x.2 := fun x hx => (h.each x hx).of
theorem LgOk.up {d : Dk} {g : Lg} {xs : List SgB} (h : LgOk d g xs) : chainUp 0 xs := lined_up h.of h.line (fun x hx => (h.each x (List.mem_of_mem_head? hx)).lo)
theorem LgOk.bts {d : Dk} {g : Lg} {xs : List SgB} (h : LgOk d g xs) : rising 0 (allBts xs) ∧ ∀ b ∈ allBts xs, b.Ok := chainUp_rising h.of h.up
theorem SgIn.stop {d : Dk} {dir : List UInt8} {x : SgB} (h : SgIn d dir x) : 0 ≤ x.1.next ∧ x.1.next ≤ 1099511627776 := by
  have h1 := h.of.base_next
  have h2 := h.lo
  refine ⟨by omega, ?_⟩
  rcases List.eq_nil_or_concat x.2 with h0 | ⟨m, b, h0⟩
  · have h3 := h.of.next
    rw [h0] at h3
    have h3 : x.1.next = x.1.base := h3
    have := h.hi
    omega
  · rw [List.concat_eq_append] at h0
    have h3 := h.of.next
    rw [h0, lastEnd_snoc] at h3
    have := (h.of.ok b (by rw [h0]; simp)).nums.hi
    omega
theorem LgOk.stopAt {d : Dk} {g : Lg} {xs : List SgB} (h : LgOk d g xs) : 0 ≤ g.stop ∧ g.stop ≤ 1099511627776 := by
  obtain ⟨ys, x, hx, hl, _⟩ := h.lastAt
  unfold Lg.stop
  rw [hl]
  exact (h.each x (by rw [hx]; simp)).stop
/-- The names of the segments differ. -/
theorem LgOk.names {d : Dk} {g : Lg} {ys : List SgB} {x : SgB} (h : LgOk d g (ys ++ [x])) : ∀ y ∈ ys, y.1.name ≠ x.1.name := fun y hy e => by
  have hy' := h.each y (by simp [hy])
  have hx' := h.each x (by simp)
  rw [hy'.nm, hx'.nm] at e
  have h1 := segName_inj (by have := hy'.hi; omega) (by have := hx'.hi; omega) e
  have h2 := (lined_before h.of h.line y hy).2
  have := hy'.lo
  have := hx'.lo
  omega
theorem SgIn.other {d d' : Dk} {dir : List UInt8} {x : SgB} (h : SgIn d dir x) (hf : d'.find x.1.name = d.find x.1.name) : SgIn d' dir x :=
  ⟨h.of, h.nm, h.lo, h.hi, by obtain ⟨s, hs⟩ := h.fl; exact ⟨s, by rw [hf]; exact hs⟩⟩
/-- What of the disk a log's Add leaves as it is. -/
structure DkOn (d d' : Dk) : Prop where
  left : d'.left = -1
  room : d'.room = d.room
/-- Flush of a log in order. -/
theorem flush_ok {d : Dk} {g : Lg} {xs : List SgB} (h : LgOk d g xs) (hl : d.left = -1) (hd : g.down = false) :
    ∃ d', flushLg d g = (0, d', { g with safe := g.stop }) ∧ LgOk d' { g with safe := g.stop } xs ∧ DkOn d d' ∧ d'.used = d.used ∧ d'.fs.length = d.fs.length := by
  obtain ⟨ys, x, rfl, hlast, hsegs⟩ := h.lastAt
  have hx := h.each x (by simp)
  obtain ⟨sf, hf⟩ := hx.fl
  have hs : d.sync g.last.name = (0, d.turn x.1.name ⟨batBs x.2, (batBs x.2).length⟩) := by
    unfold Dk.sync Dk.at
    rw [hlast, if_neg (by rw [does_true hl]; simp), hf, step_same hl]
  have hok : (d.turn x.1.name ⟨batBs x.2, (batBs x.2).length⟩).Ok := h.ok.turn hf (Nat.le_refl _) (Nat.add_le_add_right h.ok.fits _)
  refine ⟨_, ?_, ⟨h.segs, h.ne, fun y hy => ?_, h.line, fun n hn hs => ?_, h.kn, hok, h.lo, h.hi⟩, ⟨hl, rfl⟩, ?_, ?_⟩
  · unfold flushLg
    rw [if_neg (by rw [hd]; simp), hs, if_pos rfl]
  · by_cases hyx : y.1.name = x.1.name
    · have hyx' : y = x := by
        rcases List.mem_append.1 hy with hy | hy
        · exact absurd hyx (h.names y hy)
        · exact List.mem_singleton.1 hy
      subst hyx'
      exact ⟨hx.of, hx.nm, hx.lo, hx.hi, hx.fl.turned _⟩
    · exact (h.each y hy).other (by rw [find_turn, if_neg hyx])
  · refine h.only n hn ?_
    rw [find_turn] at hs
    split at hs
    · next e =>
      show (d.find (segName g.dir n)).isSome = true
      rw [e, hf]
      rfl
    · exact hs
  · have := used_turn x.1.name ⟨batBs x.2, (batBs x.2).length⟩ ⟨batBs x.2, sf⟩ d.fs h.ok.nodup hf
    show ((d.fs.map fun p => if p.1 = x.1.name then (p.1, _) else p).map fun p => p.2.bytes.length).sum = _
    unfold Dk.used
    simp only at this ⊢
    omega
  · show (d.fs.map _).length = _
    rw [List.length_map]
/-- A new segment of a log in order, whose last one has something. -/
theorem more_ok {d : Dk} {g : Lg} {ys : List SgB} {x : SgB} (h : LgOk d g (ys ++ [x])) (hx : x.2 ≠ []) (hl : d.left = -1) (hf : d.fs.length < 200) :
    ∃ d' s, moreLg d g = (0, d', { g with segs := g.segs ++ [s] }) ∧ LgOk d' { g with segs := g.segs ++ [s] } (ys ++ [x] ++ [(s, [])]) ∧ DkOn d d' ∧ d'.used = d.used ∧ d'.fs.length = d.fs.length + 1 ∧ s.next = g.stop ∧ s.size = 0 := by
  have hst := h.stopAt
  obtain ⟨ys2, x2, he2, hlast, hsegs⟩ := h.lastAt
  obtain ⟨rfl, hx2⟩ := List.append_inj' he2 rfl
  obtain rfl := List.cons.inj hx2 |>.1
  have hsx : g.stop = x.1.next := by unfold Lg.stop; rw [hlast]
  have hxin := h.each x (by simp)
  have hlt := hxin.of.lt_next hx
  have hfn : d.find (segName g.dir g.stop.toNat) = none := by
    cases hq : d.find (segName g.dir g.stop.toNat) with
    | none => rfl
    | some f =>
      obtain ⟨y, hy, hyb⟩ := h.only g.stop.toNat (by omega) (by rw [hq]; rfl)
      rcases List.mem_append.1 hy with hy | hy
      · have := (lined_before h.of h.line y hy).2
        omega
      · rw [List.mem_singleton.1 hy] at hyb
        omega
  have hmk : d.make (segName g.dir g.stop.toNat) = (0, d.put (segName g.dir g.stop.toNat) ⟨[], 0⟩) := by
    unfold Dk.make
    rw [if_neg (by rw [does_true hl]; simp), if_neg (by rw [h.kn _ (by omega)]; simp), hfn, if_neg (by simp), if_neg (by omega), step_same hl]
  have hnot := find_none hfn
  have hput : d.put (segName g.dir g.stop.toNat) ⟨[], 0⟩ = { d with fs := d.fs ++ [(segName g.dir g.stop.toNat, ⟨[], 0⟩)] } := by
    unfold Dk.put
    rw [names_filter hnot]
  have hok : (d.make (segName g.dir g.stop.toNat)).2.Ok := h.ok.make _
  rw [hmk] at hok
  refine ⟨_, ⟨segName g.dir g.stop.toNat, g.stop, [], 0⟩, ?_, ⟨?_, by simp, fun y hy => ?_, ?_, fun n hn hs => ?_, h.kn, hok, fun y hy => h.lo y (by rw [← hy]; cases ys <;> rfl), ?_⟩, ⟨by rw [hput]; exact hl, by rw [hput]⟩, ?_, ?_, rfl, rfl⟩
  · unfold moreLg
    rw [hmk, if_pos rfl]
  · show g.segs ++ [_] = _
    rw [h.segs]
    simp
  · rcases List.mem_append.1 hy with hy | hy
    · refine (h.each y hy).other ?_
      rw [find_put, if_neg]
      intro e
      obtain ⟨s, hs⟩ := (h.each y hy).fl
      rw [e, hfn] at hs
      cases hs
    · rw [List.mem_singleton.1 hy]
      refine ⟨⟨rfl, rfl, fun b hb => by (cases hb), trivial⟩, rfl, hst.1, hst.2, ⟨0, ?_⟩⟩
      rw [find_put, if_pos rfl]
      rfl
  · exact lined_snoc h.line hsx hx
  · rw [find_put] at hs
    split at hs
    · next e =>
      refine ⟨_, List.mem_append_right _ (List.mem_singleton.2 rfl), ?_⟩
      have := segName_inj (dir := g.dir) hn (by omega) e
      show g.stop = _
      omega
    · obtain ⟨y, hy, hyb⟩ := h.only n hn hs
      exact ⟨y, List.mem_append_left _ hy, hyb⟩
  · have e : ({ g with segs := g.segs ++ [⟨segName g.dir g.stop.toNat, g.stop, [], 0⟩] } : Lg).stop = g.stop := by
      unfold Lg.stop Lg.last
      simp [Sg.next]
    rw [e]
    exact h.hi
  · rw [hput]
    unfold Dk.used
    simp
  · rw [hput]
    simp
/-- A batch that may be, at the end of a log in order. -/
theorem put_ok {d : Dk} {g : Lg} {ys : List SgB} {x : SgB} (h : LgOk d g (ys ++ [x])) (hl : d.left = -1) {b : Bt} (hb : b.Ok) (hbb : b.base = g.stop) (hroom : d.used + b.bytes.length ≤ d.room) :
    ∃ d' s, putLg d g b = (0, d', { g with segs := g.segs.set (g.segs.length - 1) s }) ∧ LgOk d' { g with segs := g.segs.set (g.segs.length - 1) s } (ys ++ [(s, x.2 ++ [b])]) ∧ DkOn d d' ∧ d'.used = d.used + b.bytes.length ∧ d'.fs.length = d.fs.length ∧ s.next = b.en := by
  have hst := h.stopAt
  obtain ⟨ys2, x2, he2, hlast, hsegs⟩ := h.lastAt
  obtain ⟨rfl, hx2⟩ := List.append_inj' he2 rfl
  obtain rfl := List.cons.inj hx2 |>.1
  have hsx : g.stop = x.1.next := by unfold Lg.stop; rw [hlast]
  have hxin := h.each x (by simp)
  obtain ⟨sf, hf⟩ := hxin.fl
  have hadd : d.add x.1.name b.bytes = (0, d.turn x.1.name ⟨batBs x.2 ++ b.bytes, sf⟩) := by
    have hnr : ¬ d.room < d.used + b.bytes.length := by omega
    unfold Dk.add Dk.at
    rw [if_neg (by rw [does_true hl]; simp), hf, step_same hl]
    simp only [hnr, if_false]
  have hlt := hb.nums
  have hso := hxin.of.noted hb (by omega)
  have hsafe : sf ≤ (batBs x.2).length := h.ok.safe _ (lookup_some hf)
  have hok : (d.turn x.1.name ⟨batBs x.2 ++ b.bytes, sf⟩).Ok := h.ok.turn hf (by show sf ≤ (batBs x.2 ++ b.bytes).length; rw [List.length_append]; omega) (by show _ + (batBs x.2 ++ b.bytes).length ≤ _ + (batBs x.2).length; rw [List.length_append]; omega)
  have hset : g.segs.set (g.segs.length - 1) (x.1.noted b.base b.en b.rs b.bytes.length) = ys.map (·.1) ++ [x.1.noted b.base b.en b.rs b.bytes.length] := by
    rw [hsegs]
    simp
  have hnx : (x.1.noted b.base b.en b.rs b.bytes.length).next = b.en := by rw [hso.next, lastEnd_snoc]
  refine ⟨_, x.1.noted b.base b.en b.rs b.bytes.length, ?_, ⟨?_, by simp, fun y hy => ?_, ?_, fun n hn hs => ?_, h.kn, hok, fun y hy => ?_, ?_⟩, ⟨hl, rfl⟩, ?_, ?_, hnx⟩
  · unfold putLg
    rw [hlast, addSg_ok hb (by omega), hadd]
    simp only [if_true]
  · show g.segs.set _ _ = _
    rw [hset]
    simp
  · rcases List.mem_append.1 hy with hy | hy
    · exact (h.each y (List.mem_append_left _ hy)).other (by rw [find_turn, if_neg (h.names y hy)])
    · rw [List.mem_singleton.1 hy]
      refine ⟨hso, hxin.nm, hxin.lo, hxin.hi, ?_⟩
      show (d.turn x.1.name _).has x.1.name (batBs (x.2 ++ [b]))
      rw [batBs_snoc]
      exact hxin.fl.turned sf
  · exact lined_last h.line rfl
  · obtain ⟨y, hy, hyb⟩ := h.only n hn (by
      rw [find_turn] at hs
      split at hs
      · next e =>
        show (d.find (segName g.dir n)).isSome = true
        rw [e, hf]
        rfl
      · exact hs)
    rcases List.mem_append.1 hy with hy | hy
    · exact ⟨y, List.mem_append_left _ hy, hyb⟩
    · rw [List.mem_singleton.1 hy] at hyb
      exact ⟨_, List.mem_append_right _ (List.mem_singleton.2 rfl), hyb⟩
  · cases ys with
    | nil =>
      have h1 := h.lo x rfl
      obtain rfl := Option.some.inj hy
      exact h1
    | cons a r => exact h.lo y hy
  · have e : ({ g with segs := g.segs.set (g.segs.length - 1) (x.1.noted b.base b.en b.rs b.bytes.length) } : Lg).stop = b.en := by
      unfold Lg.stop Lg.last
      simp only [hset]
      simp [hnx]
    rw [e]
    have := h.hi
    have := hlt.lt
    show g.start ≤ b.en
    omega
  · have := used_turn x.1.name ⟨batBs x.2 ++ b.bytes, sf⟩ ⟨batBs x.2, sf⟩ d.fs h.ok.nodup hf
    show ((d.fs.map fun p => if p.1 = x.1.name then (p.1, _) else p).map fun p => p.2.bytes.length).sum = _
    unfold Dk.used
    simp only [List.length_append] at this ⊢
    omega
  · show (d.fs.map _).length = _
    rw [List.length_map]
/-- What Add leaves. -/
structure Grown (d : Dk) (g : Lg) (xs : List SgB) (b : Bt) (d' : Dk) (g' : Lg) (xs' : List SgB) : Prop where
  ok : LgOk d' g' xs'
  all : allBts xs' = allBts xs ++ [b]
  dir : g'.dir = g.dir
  most : g'.most = g.most
  start : g'.start = g.start
  down : g'.down = false
  stop : g'.stop = b.en
  on : DkOn d d'
  used : d'.used = d.used + b.bytes.length
  files : d'.fs.length ≤ d.fs.length + 1
  segs : xs'.length ≤ xs.length + 1
theorem putLg_stop {d' : Dk} {g : Lg} {ys : List SgB} {s : Sg} {l : List Bt} (h : LgOk d' { g with segs := g.segs.set (g.segs.length - 1) s } (ys ++ [(s, l)])) : ({ g with segs := g.segs.set (g.segs.length - 1) s } : Lg).stop = s.next := by
  obtain ⟨ys2, x2, he2, hlast, _⟩ := h.lastAt
  obtain ⟨_, hx2⟩ := List.append_inj' he2 rfl
  obtain rfl := List.cons.inj hx2 |>.1
  unfold Lg.stop
  rw [hlast]
theorem add_ok {d : Dk} {g : Lg} {xs : List SgB} (h : LgOk d g xs) (hl : d.left = -1) (hd : g.down = false) (rs : List Rec) (hrs : ∀ r ∈ (g.batch rs).rs, Rec.Ok r) (hf : d.fs.length < 200) (hroom : d.used + 6000 ≤ d.room) :
    (encErr (g.batch rs).base (g.batch rs).en (g.batch rs).rs ≠ 0 → addLg d g rs = (encErr (g.batch rs).base (g.batch rs).en (g.batch rs).rs, d, g)) ∧
    (encErr (g.batch rs).base (g.batch rs).en (g.batch rs).rs = 0 → ∃ d' g' xs', addLg d g rs = (0, d', g') ∧ Grown d g xs (g.batch rs) d' g' xs') := by
  have hnd : ¬ g.down = true := by rw [hd]; simp
  refine ⟨fun he => by unfold addLg; rw [if_neg hnd, if_pos he], fun he => ?_⟩
  have hb : (g.batch rs).Ok := ⟨he, hrs⟩
  have hbl := hb.nums.len
  obtain ⟨ys, x, rfl, hlast, hsegs⟩ := h.lastAt
  have hbe : ¬ encErr (g.batch rs).base (g.batch rs).en (g.batch rs).rs ≠ 0 := by simp [he]
  by_cases hr : 0 < g.last.size ∧ g.most < (g.last.size : Int) + ((g.batch rs).bytes.length : Nat)
  · have hxs : x.2 ≠ [] := by
      intro h0
      have h1 := (h.each x (by simp)).of.size
      rw [h0] at h1
      have h1 : x.1.size = 0 := h1
      rw [hlast, h1] at hr
      omega
    obtain ⟨d1, hf1, hok1, hon1, hu1, hl1⟩ := flush_ok h hl hd
    obtain ⟨d2, s2, hm2, hok2, hon2, hu2, hl2, hnx2, _⟩ := more_ok hok1 hxs hon1.left (by omega)
    have hst2 : ({ ({ g with safe := g.stop } : Lg) with segs := ({ g with safe := g.stop } : Lg).segs ++ [s2] } : Lg).stop = g.stop := by
      obtain ⟨ys2, x2, he2, hlast2, _⟩ := hok2.lastAt
      obtain ⟨_, hx2⟩ := List.append_inj' he2 rfl
      obtain rfl := List.cons.inj hx2 |>.1
      exact (congrArg Sg.next hlast2).trans hnx2
    obtain ⟨d3, s3, hp3, hok3, hon3, hu3, hl3, hnx3⟩ := put_ok hok2 hon2.left hb (by rw [hst2]; rfl) (by rw [hu2, hu1, hon2.room, hon1.room]; omega)
    have hroll : rollLg d g = (0, d2, { ({ g with safe := g.stop } : Lg) with segs := ({ g with safe := g.stop } : Lg).segs ++ [s2] }) := by
      unfold rollLg
      rw [hf1, if_pos rfl, hm2]
    refine ⟨d3, _, ys ++ [x] ++ [(s3, [] ++ [g.batch rs])], ?_, hok3, ?_, rfl, rfl, rfl, hd, (putLg_stop hok3).trans hnx3, ⟨hon3.left, by rw [hon3.room, hon2.room, hon1.room]⟩, by rw [hu3, hu2, hu1], by omega, by simp⟩
    · unfold addLg
      rw [if_neg hnd, if_neg hbe, if_pos hr, hroll, if_pos rfl, hp3]
    · rw [allBts_append, allBts_cons]
      simp [allBts]
  · obtain ⟨d3, s3, hp3, hok3, hon3, hu3, hl3, hnx3⟩ := put_ok h hl hb rfl (by omega)
    refine ⟨d3, _, ys ++ [(s3, x.2 ++ [g.batch rs])], ?_, hok3, ?_, rfl, rfl, rfl, hd, (putLg_stop hok3).trans hnx3, hon3, hu3, by omega, by simp⟩
    · unfold addLg
      rw [if_neg hnd, if_neg hbe, if_neg hr, hp3]
    · rw [allBts_append, allBts_append]
      simp [allBts]
end Go.Proofs.YtdjmifaidgbbaaaGreatDoor
