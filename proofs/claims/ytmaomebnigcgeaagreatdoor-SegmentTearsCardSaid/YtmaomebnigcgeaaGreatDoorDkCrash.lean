/-
  A crash.
-/
import Derived.Test.YtmaomebnigcgeaaGreatDoorDkList
import Derived.Deep.CutBlock
set_option linter.unusedSimpArgs false
set_option linter.unusedVariables false
namespace Go.Proofs.YtmaomebnigcgeaaGreatDoor
open Go.RowKit Go.Maps Go.Sort

theorem SlcRow.cut {w : World} {e : TypeId} {l : List UInt8} {a : Option Addr} {c : Nat} (h : SlcRow w e 1 (.slice a l.length c) l.length (l.map bval)) {k : Nat} (hk : k ≤ l.length) : SlcRow w e 1 (.slice a k k) (l.take k).length ((l.take k).map bval) := by
  have hlk : (l.take k).length = k := by rw [List.length_take]; omega
  rw [hlk]
  refine ⟨by simp; omega, ?_⟩
  rcases h.2 with ⟨hv, hn⟩ | ⟨a', hv, hn⟩ | ⟨g, cap, cur, hv, hg, hnc, hcm, hcs, htake⟩
  · obtain rfl : k = 0 := by omega
    simp only [Value.slice.injEq] at hv
    rw [hv.1]
    exact .inl ⟨rfl, rfl⟩
  · obtain rfl : k = 0 := by omega
    simp only [Value.slice.injEq] at hv
    rw [hv.1]
    exact .inr (.inl ⟨a', rfl, rfl⟩)
  · cases hv
    refine .inr (.inr ⟨g, k, cur, rfl, hg, Nat.le_refl _, by omega, by omega, ?_⟩)
    rw [List.map_take, ← htake, List.take_take, Nat.min_eq_left (by omega), Nat.mul_one]

theorem crashGo_snoc (fates : List UInt8) : ∀ (l : List Nm) (k : Nat) (x : Nm) (d : Dk), Dk.crashGo fates k (l ++ [x]) d = (Dk.crashGo fates k l d).crash1 fates (k + l.length) x
  | [], k, x, d => rfl
  | y :: r, k, x, d => by
    rw [List.cons_append, Dk.crashGo, Dk.crashGo, crashGo_snoc fates r (k + 1) x]
    rw [List.length_cons, show k + 1 + r.length = k + (r.length + 1) by omega]
theorem crash1_names (fates : List UInt8) (d : Dk) (i : Nat) (x : Nm) : (d.crash1 fates i x).names = d.names := by
  unfold Dk.crash1
  split
  · exact names_turn _ _ _
  · rfl
theorem crashGo_names (fates : List UInt8) : ∀ (l : List Nm) (k : Nat) (d : Dk), (Dk.crashGo fates k l d).names = d.names
  | [], _, _ => rfl
  | y :: r, k, d => by rw [Dk.crashGo, crashGo_names fates r, crash1_names]
theorem crash1_rest (fates : List UInt8) (d : Dk) (i : Nat) (x : Nm) : (d.crash1 fates i x).room = d.room ∧ (d.crash1 fates i x).left = d.left := by
  unfold Dk.crash1
  split <;> exact ⟨rfl, rfl⟩
theorem crashGo_rest (fates : List UInt8) : ∀ (l : List Nm) (k : Nat) (d : Dk), (Dk.crashGo fates k l d).room = d.room ∧ (Dk.crashGo fates k l d).left = d.left
  | [], _, _ => ⟨rfl, rfl⟩
  | y :: r, k, d => by
    rw [Dk.crashGo]
    have h1 := crashGo_rest fates r (k + 1) (d.crash1 fates k y)
    have h2 := crash1_rest fates d k y
    exact ⟨h1.1.trans h2.1, h1.2.trans h2.2⟩
theorem keep_le (f : Fl) (fates : List UInt8) (i : Nat) (h : f.safe ≤ f.bytes.length) : keepOf f fates i ≤ f.bytes.length := by
  unfold keepOf
  split <;> omega
theorem Dk.Ok.crash1 {d : Dk} (h : d.Ok) (fates : List UInt8) (i : Nat) (x : Nm) : (d.crash1 fates i x).Ok := by
  unfold Dk.crash1
  cases hf : d.find x with
  | none => exact h
  | some f =>
    have hs : f.safe ≤ f.bytes.length := h.safe (x, f) (lookup_some hf)
    refine h.turn hf ?_ ?_
    · show keepOf f fates i ≤ (f.bytes.take (keepOf f fates i)).length
      rw [List.length_take, Nat.min_eq_left (keep_le f fates i hs)]
      exact Nat.le_refl _
    · show d.used + (f.bytes.take (keepOf f fates i)).length ≤ d.room + f.bytes.length
      rw [List.length_take]
      have := h.fits
      omega
theorem Dk.Ok.crashGo (fates : List UInt8) : ∀ (l : List Nm) (k : Nat) {d : Dk}, d.Ok → (Dk.crashGo fates k l d).Ok
  | [], _, _, h => h
  | y :: r, k, _, h => Dk.Ok.crashGo fates r (k + 1) (h.crash1 fates k y)
theorem Dk.Ok.crash {d : Dk} (h : d.Ok) (fates : List UInt8) : (d.crash fates).Ok := by
  have := Dk.Ok.crashGo fates (d.list []) 0 h
  exact ⟨this.nodup, this.safe, this.fits, this.room, this.few, by show -1 ≤ (-1 : Int) ∧ (-1 : Int) ≤ _; omega, this.short⟩
theorem begins_nil (l : List Nm) : begins [] l = l := by
  unfold begins
  rw [List.filter_eq_self]
  intro x _
  rfl

theorem OwnS.val {B : Nat} {w : World} {v : Value} {l : List Nm} (h : OwnS B w v l) : ∃ a c, v = .slice a l.length c ∧ ∀ i (hi : i < l.length), ∃ q, a = some ⟨q, 0, none⟩ ∧ B ≤ q ∧ w.cell? ⟨q, i, none⟩ = some (encStr l[i]) := by
  rcases h.2 with ⟨rfl, hn⟩ | ⟨g, cap, cur, rfl, hbg, hg, hnc, hcm, hcs, htake⟩
  · have : l = [] := List.eq_nil_of_length_eq_zero hn
    subst this
    exact ⟨_, _, rfl, fun i hi => by simp at hi⟩
  · refine ⟨_, _, rfl, fun i hi => ⟨g, rfl, hbg, ?_⟩⟩
    rw [cell_of_row w g i cur _ (0, 0) hg]
    have h1 : (cur.toList.take (l.length * 1))[i]? = some (encStr l[i]) := by rw [htake]; simp [hi]
    rw [List.getElem?_take] at h1
    split at h1
    · simpa using h1
    · cases h1

theorem min_cast (a b c : Nat) : min (a : Int) ((b : Int) + (c : Int)) = ((min a (b + c) : Nat) : Int) := by omega
theorem size_toArr (x : List UInt8) : x.length = (ByteArray.mk x.toArray).size := by
  show _ = x.toArray.size
  simp

/-- What holds between two rounds of a crash. -/
structure CrashInv (w1 wr : World) (p mb : Nat) (fs : List (Nm × Nat)) (sv0 : Nat → Value) (d : Dk) (fates : List UInt8) (ns : List Nm) (i : Nat) (sv : Nat → Value) (con : Nat → Fl) : Prop where
  dm : Dm wr p mb fs sv con d.room d.left
  eq : (Dk.crashGo fates 0 (ns.take i) d).fs = fs.map (fun q => (q.1, con q.2))
  chg : Chg (Has p mb fs sv0) w1 wr
  has : ∀ k, Has p mb fs sv k → Has p mb fs sv0 k

theorem CrashInv.next {w1 wr w2 : World} {p mb : Nat} {fs : List (Nm × Nat)} {sv sv' : Nat → Value} {con' : Nat → Fl} {d : Dk} {fates : List UInt8} {ns : List Nm} {i : Nat} {x : Nm} {b : Nat} {a3 : Option Addr} {c3 K : Nat}
    (h : CrashInv w1 wr p mb fs sv d fates ns i sv' con') (hw : Chg Nil wr w2) (hb : fs.lookup x = some b) (hsv : sv' b = .slice a3 (con' b).bytes.length c3) (hle : (con' b).bytes.length ≤ c3) (hK : keepOf (con' b) fates i = K) (hKL : K ≤ (con' b).bytes.length)
    (hst : Dk.crashGo fates 0 (ns.take (i + 1)) d = (Dk.crashGo fates 0 (ns.take i) d).crash1 fates i x) :
    CrashInv w1 ((w2.setCell ⟨b, 0, none⟩ (.slice a3 K K)).setCell ⟨b, 1, none⟩ (.int .i64 (K : Nat))) p mb fs sv d fates ns (i + 1) (updSv sv' b (.slice a3 K K)) (updCon con' b ⟨(con' b).bytes.take K, K⟩) := by
  have hd := h.dm.chg hw (fun _ _ h => h)
  have hmem := lookup_some hb
  have hbx : Box w2 b [sv' b, .int .i64 ((con' b).safe : Nat)] 98 := hd.f _ hmem
  have hrow : SlcRow w2 5 1 (sv' b) (con' b).bytes.length ((con' b).bytes.map bval) := hd.o _ hmem
  rw [hsv] at hrow
  have hlk : ((con' b).bytes.take K).length = K := by rw [List.length_take]; omega
  have hrow2 := hrow.cut hKL
  have hs1 : Chg (fun k => k = b) w2 (w2.setCell ⟨b, 0, none⟩ (.slice a3 K K)) := Chg.setCell (S := fun k => k = b) (p := ⟨b, 0, none⟩) (Chg.refl _ w2) (.inl rfl) _
  have hs2 : Chg (fun k => k = b) w2 ((w2.setCell ⟨b, 0, none⟩ (.slice a3 K K)).setCell ⟨b, 1, none⟩ (.int .i64 (K : Nat))) := Chg.setCell (S := fun k => k = b) (p := ⟨b, 1, none⟩) hs1 (.inl rfl) _
  have hroom : ∀ k, Value.room (.slice a3 K K) = some k → Value.room (sv' b) = some k := fun k hk => by
    rw [hsv]
    cases K with
    | zero => cases a3 <;> cases hk
    | succ K =>
      cases c3 with
      | zero => omega
      | succ c => cases a3 with
        | none => cases hk
        | some y => exact hk
  have hnb : Value.room (sv' b) ≠ some b := hd.p_ne.2.2 _ hmem _ hmem
  obtain ⟨g1, g2, g3⟩ := hd.turn (q := (x, b)) hmem (.slice a3 K K) ⟨(con' b).bytes.take K, K⟩ ((hbx.set 0 (.slice a3 K K)).set 1 (.int .i64 (K : Nat))) (hrow2.chg hs2 (fun k hk e => hnb ((hroom k hk).trans (congrArg some e)))) (hs2.weak (fun k hk => .inl (.inl hk))) (fun k hk => .inl (hroom k hk))
  refine ⟨g1, ?_, (h.chg.trans hw (fun _ h => h.elim)).trans g2 (fun k hk => .inl (h.has k hk)), fun k hk => ?_⟩
  · rw [hst]
    have hfd : (Dk.crashGo fates 0 (ns.take i) d).find x = some (con' b) := by unfold Dk.find; rw [h.eq, find_map, hb]; rfl
    unfold Dk.crash1
    rw [hfd]
    show ((Dk.crashGo fates 0 (ns.take i) d).turn x (crashed (con' b) fates i)).fs = _
    unfold crashed
    rw [hK]
    exact turn_fs h.eq hb hd.m.1 hd.nd
  · rcases hk with rfl | rfl | ⟨r, hr, hk⟩
    · exact .inl rfl
    · exact .inr (.inl rfl)
    · refine h.has k (.inr (.inr ⟨r, hr, ?_⟩))
      by_cases hne : r.2 = b
      · have e : updSv sv' b (.slice a3 K K) r.2 = .slice a3 K K := if_pos hne
        rw [e] at hk
        exact hk.imp id (fun hk => by rw [hne]; exact hroom k hk)
      · have e : updSv sv' b (.slice a3 K K) r.2 = sv' r.2 := if_neg hne
        rw [e] at hk
        exact hk

theorem meas_step {n i : Nat} (h : i < n) (hw : wrap64 ((i : Int) + 1) = (i : Int) + 1) : n - (RowKit.intOf (Value.int .i64 (wrap64 ((i : Int) + 1)))).toNat < n - (RowKit.intOf (Value.int .i64 (i : Int))).toNat := by
  rw [hw]
  show n - ((i : Int) + 1).toNat < n - (i : Int).toNat
  omega


end Go.Proofs.YtmaomebnigcgeaaGreatDoor
