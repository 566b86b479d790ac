/-
  What a segment's Read, Since and Rewrite make of its batches, plain.
-/
import Derived.Test.YtdjmifaidgbbaaaGreatDoorLb25
import Derived.Test.YtdjmifaidgbbaaaGreatDoorLb03
import Derived.Test.YtdjmifaidgbbaaaGreatDoorLb01
set_option linter.unusedSimpArgs false
set_option linter.unusedVariables false
namespace Go.Proofs.YtdjmifaidgbbaaaGreatDoor
open Go.RowKit

/-- The first one, and further ones while all are at most so many bytes. -/
def readGo : Bool → Int → List Bt → List Bt
  | _, _, [] => []
  | fst, most, b :: l => if fst = false ∧ most < (b.bytes.length : Int) then [] else b :: readGo false (wrap64 (most - (b.bytes.length : Nat))) l
def readL (l : List Bt) (frm most : Int) : List Bt := readGo true most (l.dropWhile fun b => decide (b.en ≤ frm))
def sinceL (l : List Bt) (t : Int) : Option Rec := (l.flatMap Bt.rs).find? fun r => decide (t ≤ r.time)
theorem readGo_sub : ∀ (f : Bool) (m : Int) (l : List Bt), ∀ b ∈ readGo f m l, b ∈ l
  | _, _, [], b, hb => hb
  | f, m, a :: l, b, hb => by
    unfold readGo at hb
    split at hb
    · cases hb
    · rcases List.mem_cons.1 hb with rfl | hb
      · exact List.mem_cons_self ..
      · exact List.mem_cons_of_mem _ (readGo_sub _ _ l b hb)
theorem readGo_len : ∀ (f : Bool) (m : Int) (l : List Bt), (readGo f m l).length ≤ l.length
  | _, _, [] => Nat.le_refl _
  | f, m, a :: l => by
    unfold readGo
    split
    · simp
    · have := readGo_len false (wrap64 (m - (a.bytes.length : Nat))) l
      simp only [List.length_cons]
      omega
/-- What a search for the first one that ends behind an offset finds. -/
theorem drop_search : ∀ {l : List Bt} {frm : Int} {k : Nat}, k ≤ l.length → (∀ i (h : i < l.length), i < k → l[i].en ≤ frm) → (∀ h : k < l.length, frm < l[k].en) → l.dropWhile (fun b => decide (b.en ≤ frm)) = l.drop k
  | [], _, k, hk, _, _ => by simp
  | b :: l, frm, 0, hk, h1, h2 => by
    have h3 : frm < b.en := h2 (by simp)
    rw [List.dropWhile_cons_of_neg (by simpa using h3)]
    rfl
  | b :: l, frm, k + 1, hk, h1, h2 => by
    have h3 : b.en ≤ frm := h1 0 (by simp) (by omega)
    rw [List.dropWhile_cons_of_pos (by simpa using h3), List.drop_succ_cons]
    exact drop_search (by simpa using hk) (fun i hi hik => h1 (i + 1) (by simpa using hi) (by omega)) (fun h => h2 (by simpa using h))
theorem en_mono {n : Int} {l : List Bt} (hok : ∀ b ∈ l, b.Ok) (h : rising n l) {i j : Nat} (hj : j < l.length) (hij : i ≤ j) : (l[i]'(Nat.lt_of_le_of_lt hij hj)).en ≤ l[j].en := by
  rcases Nat.lt_or_eq_of_le hij with hlt | rfl
  · have h1 := rising_lt hok h hj hlt
    have h2 := (hok l[j] (List.getElem_mem _)).nums.lt
    omega
  · exact Int.le_refl _
/-- What the law of a read counts. -/
def lawGo (frm : Int) : Int → List Bt → List Bt → List Bt
  | _, want, [] => want
  | most, want, b :: l =>
    if b.en ≤ frm ∧ want = [] then lawGo frm most want l
    else if want ≠ [] ∧ most < (b.bytes.length : Int) then want
    else lawGo frm (wrap64 (most - (b.bytes.length : Nat))) (want ++ [b]) l
theorem lawGo_on {frm : Int} : ∀ (l : List Bt) (most : Int) (want : List Bt), want ≠ [] → lawGo frm most want l = want ++ readGo false most l
  | [], most, want, h => by simp [lawGo, readGo]
  | b :: l, most, want, h => by
    unfold lawGo readGo
    rw [if_neg (fun g => h g.2)]
    by_cases g : most < (b.bytes.length : Int)
    · rw [if_pos ⟨h, g⟩, if_pos ⟨rfl, g⟩, List.append_nil]
    · rw [if_neg (fun k => g k.2), if_neg (fun k => g k.2), lawGo_on l _ _ (by simp), List.append_assoc]
      rfl
theorem lawGo_all (frm most : Int) : ∀ l : List Bt, lawGo frm most [] l = readL l frm most
  | [] => rfl
  | b :: l => by
    unfold lawGo readL
    by_cases g : b.en ≤ frm
    · rw [if_pos ⟨g, rfl⟩, List.dropWhile_cons_of_pos (by simpa using g), lawGo_all frm most l]
      rfl
    · rw [if_neg (fun k => g k.1), if_neg (fun k => k.1 rfl), List.dropWhile_cons_of_neg (by simpa using g), lawGo_on _ _ _ (by simp)]
      have e : readGo true most (b :: l) = b :: readGo false (wrap64 (most - (b.bytes.length : Nat))) l := by rw [readGo, if_neg (fun k => by cases k.1)]
      rw [e]
      rfl

/-- Only some of its records. -/
def Bt.keep (p : Rec → Bool) (b : Bt) : Bt := ⟨b.base, b.en, b.rs.filter p⟩
theorem checkRecs_filter (p : Rec → Bool) {en : Int} : ∀ {rs : List Rec} {last last' : Int}, checkRecs en last rs = 0 → last' ≤ last → checkRecs en last' (rs.filter p) = 0
  | [], _, _, _, _ => rfl
  | r :: rs, last, last', h, hl => by
    unfold checkRecs at h
    by_cases g1 : badArg last en r = true
    · rw [if_pos g1] at h; cases h
    rw [if_neg g1] at h
    by_cases g2 : badLen r = true
    · rw [if_pos g2] at h; cases h
    rw [if_neg g2] at h
    by_cases g3 : badTime r = true
    · rw [if_pos g3] at h; cases h
    rw [if_neg g3] at h
    have h4 : last < r.off := by
      unfold badArg at g1
      simp only [Bool.or_eq_true, decide_eq_true_eq, not_or] at g1
      omega
    cases hp : p r with
    | false =>
      rw [List.filter_cons_of_neg (by simp [hp])]
      exact checkRecs_filter p h (by omega)
    | true =>
      rw [List.filter_cons_of_pos hp]
      unfold checkRecs
      have g1' : ¬ badArg last' en r = true := by
        unfold badArg at g1 ⊢
        simp only [Bool.or_eq_true, decide_eq_true_eq, not_or] at g1 ⊢
        exact ⟨⟨⟨by omega, g1.1.1.2⟩, g1.1.2⟩, g1.2⟩
      rw [if_neg g1', if_neg g2, if_neg g3]
      exact checkRecs_filter p h (Int.le_refl _)
theorem put_mono : ∀ (m : Nat) {n : Nat}, n ≤ m → (put n).length ≤ (put m).length := by
  intro m
  induction m using Nat.strongRecOn with
  | _ m ih =>
    intro n h
    by_cases hm : m < 128
    · rw [put_lo hm, put_lo (n := n) (by omega)]; simp
    · by_cases hn : n < 128
      · rw [put_lo hn, put_hi (n := m) (by omega)]; simp
      · rw [put_hi (n := n) (by omega), put_hi (n := m) (by omega)]
        simp only [List.length_cons]
        have := ih (m / 128) (by omega) (n := n / 128) (by omega)
        omega
theorem encRecs_filter (p : Rec → Bool) (base : Int) : ∀ rs : List Rec, (encRecs base (rs.filter p)).length ≤ (encRecs base rs).length
  | [] => Nat.le_refl _
  | r :: rs => by
    have h := encRecs_filter p base rs
    cases hp : p r with
    | false =>
      rw [List.filter_cons_of_neg (by simp [hp])]
      simp only [encRecs, List.length_append]
      omega
    | true =>
      rw [List.filter_cons_of_pos hp]
      simp only [encRecs, List.length_append]
      omega
theorem encBody_filter (p : Rec → Bool) (base en : Int) (rs : List Rec) : (encBody base en (rs.filter p)).length ≤ (encBody base en rs).length := by
  have h1 := encRecs_filter p base rs
  have h2 := put_mono rs.length (List.length_filter_le p rs)
  unfold encBody encHead
  simp only [List.length_append]
  omega
theorem Bt.Ok.keep {b : Bt} (h : b.Ok) (p : Rec → Bool) : (b.keep p).Ok := by
  have hc := checked_of_enc h.err
  have hn := h.nums
  have he := h.err
  refine ⟨?_, fun r hr => h.recs r (List.mem_filter.1 hr).1⟩
  have hf := List.length_filter_le p b.rs
  have hb := encBody_filter p b.base b.en b.rs
  have hck : checkB b.base b.en (b.rs.filter p) = 0 := by
    unfold checkB at hc ⊢
    have g1 : ¬ (b.base < 0 ∨ 1099511627776 < b.en) := by have := hn.lo; have := hn.hi; omega
    have g2 : ¬ b.en ≤ b.base := by have := hn.lt; omega
    rw [if_neg g1, if_neg g2] at hc ⊢
    by_cases g3 : 50 < b.rs.length ∨ 50 < b.en - b.base
    · rw [if_pos g3] at hc; cases hc
    rw [if_neg g3] at hc
    rw [if_neg (by omega)]
    exact checkRecs_filter p hc (Int.le_refl _)
  unfold encErr at he
  rw [if_neg (by simpa using hc)] at he
  by_cases g : 6000 < 8 + (encBody b.base b.en b.rs).length
  · rw [if_pos g] at he; cases he
  show encErr b.base b.en (b.rs.filter p) = 0
  unfold encErr
  rw [if_neg (by simpa using hck), if_neg (by omega)]
theorem rising_map (f : Bt → Bt) (h1 : ∀ b, (f b).base = b.base) (h2 : ∀ b, (f b).en = b.en) : ∀ {n : Int} {l : List Bt}, rising n l → rising n (l.map f)
  | _, [], _ => trivial
  | _, b :: l, h => ⟨by rw [h1]; exact h.1, by rw [h2]; exact rising_map f h1 h2 h.2⟩
theorem lastEnd_map (f : Bt → Bt) (h2 : ∀ b, (f b).en = b.en) : ∀ {n : Int} {l : List Bt}, lastEnd n (l.map f) = lastEnd n l
  | _, [] => rfl
  | _, b :: l => by
    show lastEnd (f b).en (l.map f) = lastEnd b.en l
    rw [h2]; exact lastEnd_map f h2
end Go.Proofs.YtdjmifaidgbbaaaGreatDoor

/-
  A region in which a block that is made in it is stored to: blocks of before stay as they are; one that was made since may turn if it is as it was made (Z).
-/
set_option linter.unusedSimpArgs false
set_option linter.unusedVariables false
namespace Go.Proofs.YtdjmifaidgbbaaaGreatDoor
open Go.RowKit

structure ZR (n : Nat) (Z : Obj) (w w' : World) : Prop where
  os : w'.os = w.os
  tape : w'.tape = w.tape
  output : w'.output = w.output
  size : w.heap.size ≤ w'.heap.size
  block : ∀ k, k < w.heap.size → w'.heap[k]? = w.heap[k]? ∨ (n ≤ k ∧ w.heap[k]? = some Z)
theorem ZR.of {n : Nat} {Z : Obj} {w w' : World} (h : Chg Nil w w') : ZR n Z w w' := ⟨h.os, h.tape, h.output, h.size, fun k hk => .inl (h.block k hk (fun h => h))⟩
theorem ZR.refl {n : Nat} {Z : Obj} (w : World) : ZR n Z w w := .of (Chg.refl _ _)
theorem ZR.trans {n : Nat} {Z : Obj} {a b c : World} (h : ZR n Z a b) (k : ZR n Z b c) : ZR n Z a c := by
  refine ⟨k.os.trans h.os, k.tape.trans h.tape, k.output.trans h.output, Nat.le_trans h.size k.size, fun i hi => ?_⟩
  rcases h.block i hi with g | g
  · rcases k.block i (Nat.lt_of_lt_of_le hi h.size) with g2 | ⟨g1, g2⟩
    · exact .inl (g2.trans g)
    · exact .inr ⟨g1, by rw [← g]; exact g2⟩
  · exact .inr g
theorem ZR.nil {n : Nat} {Z : Obj} {w w' : World} (h : ZR n Z w w') (hn : w.heap.size ≤ n) : Chg Nil w w' :=
  ⟨h.os, h.tape, h.output, h.size, fun k hk _ => (h.block k hk).elim id (fun g => by omega)⟩
theorem ZR.store {n b : Nat} {Z : Obj} {w w' : World} (h : Chg (fun k => k = b) w w') (hb : n ≤ b) (hz : w.heap[b]? = some Z) : ZR n Z w w' :=
  ⟨h.os, h.tape, h.output, h.size, fun k hk => if e : k = b then .inr ⟨by omega, by rw [e]; exact hz⟩ else .inl (h.block k hk e)⟩
theorem ZR.at {n : Nat} {Z : Obj} {w w' : World} (h : ZR n Z w w') (k : Nat) (hk : w.heap[k]? ≠ some Z) : Chg (fun i => i ≠ k) w w' :=
  ⟨h.os, h.tape, h.output, h.size, fun i hi hn => by
    obtain rfl : i = k := Decidable.not_not.1 hn
    exact (h.block i hi).elim id (fun g => absurd g.2 hk)⟩
theorem ZR.all {n : Nat} {Z : Obj} {w w' : World} (h : ZR n Z w w') : Chg (fun _ => True) w w' := ⟨h.os, h.tape, h.output, h.size, fun _ _ h => absurd trivial h⟩
theorem ZR.ownsRow {n : Nat} {Z : Obj} {w w' : World} (h : ZR n Z w w') {e : TypeId} {sz len : Nat} {v : Value} {cells : List Value} (hv : w.ownsRow 0 e sz v len cells) (hne : ∀ cur, Z ≠ .cells cur e (0, 0)) : w'.ownsRow 0 e sz v len cells := by
  have hv2 := hv.2
  rcases hv2 with ⟨rfl, hn⟩ | ⟨g, cap, cur, rfl, _, hg, _⟩
  · exact ownsRow_chg hv h.all (fun k hk => by cases hk)
  · exact ownsRow_chg hv (h.at g (by rw [hg]; intro e; exact hne _ (Option.some.inj e).symm)) (fun k hk h => h (Option.some.inj hk).symm)
theorem ZR.bytes {n : Nat} {Z : Obj} {w w' : World} (h : ZR n Z w w') {a : Option Addr} {l : List UInt8} (hb : BytesAt w a l) (hZ : ∀ (b off : Nat) (x : UInt8), w.heap[b]? = some Z → w.cell? ⟨b, off, none⟩ ≠ some (bval x)) : BytesAt w' a l := by
  intro i hi
  obtain ⟨b, off, ha, hc⟩ := hb i hi
  refine ⟨b, off, ha, ?_⟩
  exact (h.at b (fun hz => hZ b _ _ hz hc)).cell hc (fun h => h rfl)
/-- A batch as it is made. -/
def batch0 : Obj := .cells #[.int .i64 0, .int .i64 0, .slice none 0 0] 112 (0, 0)
theorem batch0_byte {w : World} (b off : Nat) (x : UInt8) (h : w.heap[b]? = some batch0) : w.cell? ⟨b, off, none⟩ ≠ some (bval x) := by
  rw [cell_of_row w b off _ _ _ h]
  rcases off with _ | _ | _ | k
  · intro e; cases e
  · intro e; cases e
  · intro e; cases e
  · intro e; simp at e
theorem batch0_rec (cur : Array Value) : batch0 ≠ .cells cur 37 (0, 0) := by
  intro e
  unfold batch0 at e
  injection e with _ h2 _
  exact absurd h2 (by decide)

namespace Ch
section
variable {P : Program} {ops : Array Oper} {R : World → World → Prop} {C : List Nat} {F : List Value → World → Prop} {w0 : World} {Q : Exit → Act → World → Prop} {a0 : Act}
/-- A store into what the chain's first operation made. -/
theorem Walk.chainSx {β : Type} (G : β → Value) (H : β → World → Prop) (hG : ∀ v w, F [v] w → ∃ b, v = G b ∧ H b w) {js : List Nat} {E : List (List Nat)} {o : Oper} {os : List Oper} {specs : List Spec} (hd : o.dst = none) (hi : C[1]? = some specs.length)
    (h : ∀ w, R w0 w → ∀ b : β, H b w → ∀ N : Value → World → Prop, (∀ w', R w w' → F [G b, undef] w' → N undef w') → Ob P ops o N w (depsOf ops (chained C [G b] specs) js) a0)
    (hrest : Walk P ops R C F w0 Q a0 E os (specs ++ [Sum.inl undef])) : Walk P ops R C F w0 Q a0 (js :: E) (o :: os) specs :=
  Walk.chainS 1 hd hi (fun w hw vs hvs hF N hN => by
    obtain ⟨v, rfl⟩ := List.length_eq_one_iff.1 hvs
    obtain ⟨b, rfl, hb⟩ := hG v w hF
    exact h w hw b hb N hN) hrest
end
end Ch
end Go.Proofs.YtdjmifaidgbbaaaGreatDoor
