/-
  The first record that goes. (Of the logs' seat.)
-/
import Derived.Test.YtdjmifaidgbbaaaGreatDoorLc06
import Derived.Test.YtdjmifaidgbbaaaGreatDoorLc08
import Derived.Test.YtdjmifaidgbbaaaGreatDoorLc22
import Derived.Laws.CopyRow
import Derived.Laws.Tables
import Derived.Lib.ItoaNum
import Derived.Lib.ItoaMem
import Derived.Lib.AtoiTie
import Derived.Lib.ParseIntBTie
import Derived.Lib.Strings
import Derived.Lib.TrimByte
import Derived.Lib.Repeat
set_option linter.unusedSimpArgs false
set_option linter.unusedVariables false
namespace Go.Proofs.YtdjmifaidgbbaaaGreatDoor
open Go.RowKit Go.Maps

/-- What the search for the first one tells. -/
def IdxAt (bm bn ba bk mb : Nat) (now age : Int) (k : Nat) (fs : List (Nm × Int)) (rs : List Rec) (e : Ending) (w' : World) : Prop :=
  ((∀ r ∈ rs, goneR fs (wrap64 (now - age)) r = false) ∧ e = .returned (.int .i64 (-1)) ∧ GcW w' bm bn ba bk mb now age k fs) ∨
  (∃ i : Nat, ∃ hi : i < rs.length, goneR fs (wrap64 (now - age)) rs[i] = true ∧ (∀ r ∈ rs.take i, goneR fs (wrap64 (now - age)) r = false) ∧ e = .returned (.int .i64 (i : Nat)) ∧ GcW w' bm bn ba bk mb now age (k + 1) fs)
set_option maxHeartbeats 1000000 in
set_option maxRecDepth 20000 in
theorem idx_any {w : World} {bm bn ba bk mb : Nat} {now age : Int} {k : Nat} {fs : List (Nm × Int)} (h : GcW w bm bn ba bk mb now age k fs) (hk : k ≤ 900000) (ra : Option Addr) (rs : List Rec) (rc : Nat) (hrs : RecsAt w ra rs) (hl : rs.length ≤ 1000) (hok : ∀ r ∈ rs, r.key.size ≤ maxLen) (hn : rs ≠ [] → ∀ x, ra = some x → ¬ x.block = bk) :
    Calls Tryz.prog 106 #[.slice ra rs.length rc, askF bm bn ba bk] w fun e w' => IdxAt bm bn ba bk mb now age k fs rs e w' ∧ Chg (fun i => i = bk) w w' := by
  have HH := Lib.hid h
  have HRS := Lib.hid hrs
  have HOK := Lib.hid hok
  have HN := Lib.hid hn
  have HK := Lib.hid hk
  clear h hrs hok hn hk
  unfold askF
  go_enter Tryz.func106, Tryz.ntmps106
  go_wp2_with fail
  go_loopw [8] (fun iv wr => ∃ (wq : World) (i : Nat), wq = wr ∧ i ≤ rs.length ∧ iv = .int .i64 i ∧ GcW wr bm bn ba bk mb now age k fs ∧ Hid (∀ r ∈ rs.take i, goneR fs (wrap64 (now - age)) r = false) ∧ Chg (fun j => j = bk) w wr) (fun iv _ => rs.length - (RowKit.intOf iv).toNat)
  case atStart => exact ⟨_, 0, rfl, Nat.zero_le _, rfl, HH.out, fun r hr => (by simp at hr), Chg.refl _ _⟩
  case round =>
    obtain ⟨wr, i, rfl, hi, rfl, hg, hno, hc⟩ := hrel
    have HG := Lib.hid hg
    have HNO : Hid _ := hno
    have HC := Lib.hid hc
    clear hg hno hc
    by_cases hil : i < rs.length
    · have hii : (i : Int) < (rs.length : Int) := by omega
      have hrs2 : RecsAt wr ra rs := RecsAt.chg' HRS.out HC.out (fun h0 x hx e => HN.out h0 x hx e)
      obtain ⟨rb, off, hra, hcell0⟩ := hrs2 i hil
      subst hra
      obtain ⟨q, hq⟩ : ∃ q : Rec, rs[i] = q := ⟨_, rfl⟩
      have hcell : ∀ j u, (q.cells)[j]? = some u → wr.cell? ⟨rb, off + i * 6 + j, none⟩ = some u := by rw [← hq]; exact hcell0
      clear hcell0
      have HGA := Lib.hid (gone_any HG.out (by have := HK.out; omega) q (HOK.out q (by rw [← hq]; exact List.getElem_mem hil)))
      have HSN : Hid (goneR fs (wrap64 (now - age)) q = false → ∀ r ∈ rs.take (i + 1), goneR fs (wrap64 (now - age)) r = false) := fun h0 r hr => by
        rw [List.take_succ_eq_append_getElem hil] at hr
        rcases List.mem_append.1 hr with hr | hr
        · exact HNO.out r hr
        · rw [List.mem_singleton.1 hr, hq]; exact h0
      have HQ : Hid (∀ hi : i < rs.length, rs[i] = q) := fun _ => hq
      have HIL := Lib.hid hil
      clear hq hil hrs2
      obtain ⟨gq, hgq⟩ : ∃ gq, goneR fs (wrap64 (now - age)) q = gq := ⟨_, rfl⟩
      rw [hgq] at HGA HSN
      have HGQ := Lib.hid hgq
      clear hgq
      obtain ⟨qo, qt, qk, qkey, qg, qv⟩ := q
      have earr : (Rec.cells ⟨qo, qt, qk, qkey, qg, qv⟩).toArray = #[.int .i64 qo, .int .i64 qt, .bool qk, .string qkey, .bool qg, .string qv] := rfl
      rw [earr] at HGA
      clear earr
      have z0 := hcell 0 _ rfl
      have z1 := hcell 1 _ rfl
      have z2 := hcell 2 _ rfl
      have z3 := hcell 3 _ rfl
      have z4 := hcell 4 _ rfl
      have z5 := hcell 5 _ rfl
      rw [Nat.add_zero] at z0
      clear hcell
      go_wp2_with fail
      refine HGA.out.mono ?_
      rintro e w5 ⟨rfl, hg5, hc5⟩
      have HG5 := Lib.hid hg5
      have HC5 := Lib.hid (HC.out.trans hc5 (fun j hj => .inl hj))
      clear hg5 hc5 HGA z0 z1 z2 z3 z4 z5
      cases gq with
      | true =>
        go_wp2_with fail
        go_ret
        refine ⟨.inr ⟨i, HIL.out, by rw [HQ.out HIL.out]; exact HGQ.out, HNO.out, rfl, HG5.out⟩, HC5.out⟩
      | false =>
        have HNX := Lib.hid (HSN.out rfl)
        go_wp2_with fail
        go_roundw
        case rel => exact ⟨_, i + 1, rfl, HIL.out, by go_num, HG5.out, HNX.out, HC5.out⟩
        case measure => exact meas_two HIL.out
    · have hii : ¬ (i : Int) < (rs.length : Int) := by omega
      have HALL : Hid (∀ r ∈ rs, goneR fs (wrap64 (now - age)) r = false) := by
        have h1 := HNO.out
        rw [List.take_of_length_le (by omega)] at h1
        exact h1
      go_wp2_with fail
      go_ret
      exact ⟨.inl ⟨HALL.out, rfl, HG.out⟩, HC.out⟩
end Go.Proofs.YtdjmifaidgbbaaaGreatDoor

/-
  A record is put into its row. (Of the logs' seat.)
-/
set_option linter.unusedSimpArgs false
set_option linter.unusedVariables false
namespace Go.Proofs.YtdjmifaidgbbaaaGreatDoor
open Go.RowKit Go.Maps

theorem ownsRow_set {w : World} {base : Nat} {e : TypeId} {size g n cap m : Nat} {xs : List Value} (h : w.ownsRow base e size (.slice (some ⟨g, 0, none⟩) n cap) m xs) (j : Nat) (hj : j < xs.length) (u : Value) : (w.setCell ⟨g, j, none⟩ u).ownsRow base e size (.slice (some ⟨g, 0, none⟩) n cap) m (xs.set j u) := by
  rcases h.2 with ⟨hv, _⟩ | ⟨g', cap', cur, hv, hb, hg, hle, hcm, hcs, ht⟩
  · cases hv
  · obtain ⟨ha, hn, hc⟩ := Value.slice.inj hv
    obtain rfl : g = g' := by have := Option.some.inj ha; exact (Addr.mk.inj this).1
    subst hn hc
    refine ⟨by rw [List.length_set]; exact h.1, .inr ⟨g, cap, cur.setIfInBounds j u, rfl, hb, ?_, hle, hcm, by simpa using hcs, ?_⟩⟩
    · simp only [World.setCell, Array.getElem?_modify, if_true, hg, Option.map_some]
      simp
    · rw [Array.toList_setIfInBounds, List.take_set, ht]
theorem flat_set : ∀ (X : List Rec) (i : Nat), i < X.length → ∀ r : Rec, ((((((X.flatMap Rec.cells).set (i * 6) (.int .i64 r.off)).set (i * 6 + 1) (.int .i64 r.time)).set (i * 6 + 2) (.bool r.keyed)).set (i * 6 + 3) (.string r.key)).set (i * 6 + 4) (.bool r.gone)).set (i * 6 + 5) (.string r.value) = (X.set i r).flatMap Rec.cells
  | [], i, hi, r => by simp at hi
  | a :: X, 0, hi, r => by
    obtain ⟨ao, at', ak, akey, ag, av⟩ := a
    rfl
  | a :: X, i + 1, hi, r => by
    have ih := flat_set X i (by simpa using hi) r
    have hl : a.cells.length = 6 := rfl
    have e : ∀ t, (i + 1) * 6 + t = a.cells.length + (i * 6 + t) := fun t => by rw [hl]; omega
    have e0 : (i + 1) * 6 = a.cells.length + i * 6 := by rw [hl]; omega
    have key : ∀ (l : List Value) (t : Nat) (u : Value), (a.cells ++ l).set (a.cells.length + t) u = a.cells ++ l.set t u := fun l t u => by
      rw [List.set_append, if_neg (by omega), Nat.add_sub_cancel_left]
    rw [List.flatMap_cons, List.set_cons_succ, List.flatMap_cons, e 1, e 2, e 3, e 4, e 5, e0, key, key, key, key, key, key, ih]
theorem OwnR.put {w : World} {e : TypeId} {g n cap : Nat} {X : List Rec} (h : OwnR e w (.slice (some ⟨g, 0, none⟩) n cap) X) (i : Nat) (hi : i < X.length) (r : Rec) :
    OwnR e ((((((w.setCell ⟨g, i * 6, none⟩ (.int .i64 r.off)).setCell ⟨g, i * 6 + 1, none⟩ (.int .i64 r.time)).setCell ⟨g, i * 6 + 2, none⟩ (.bool r.keyed)).setCell ⟨g, i * 6 + 3, none⟩ (.string r.key)).setCell ⟨g, i * 6 + 4, none⟩ (.bool r.gone)).setCell ⟨g, i * 6 + 5, none⟩ (.string r.value)) (.slice (some ⟨g, 0, none⟩) n cap) (X.set i r) := by
  have hl : (X.flatMap Rec.cells).length = X.length * 6 := fm_len (f := Rec.cells) (n := 6) (fun _ => rfl) X
  have h1 := ownsRow_set h (i * 6) (by omega) (.int .i64 r.off)
  have h2 := ownsRow_set h1 (i * 6 + 1) (by rw [List.length_set]; omega) (.int .i64 r.time)
  have h3 := ownsRow_set h2 (i * 6 + 2) (by rw [List.length_set, List.length_set]; omega) (.bool r.keyed)
  have h4 := ownsRow_set h3 (i * 6 + 3) (by rw [List.length_set, List.length_set, List.length_set]; omega) (.string r.key)
  have h5 := ownsRow_set h4 (i * 6 + 4) (by rw [List.length_set, List.length_set, List.length_set, List.length_set]; omega) (.bool r.gone)
  have h6 := ownsRow_set h5 (i * 6 + 5) (by rw [List.length_set, List.length_set, List.length_set, List.length_set, List.length_set]; omega) (.string r.value)
  unfold OwnR
  rw [List.length_set, ← flat_set X i hi r]
  exact h6
theorem put_chg (w : World) (g : Nat) (a b c d e f : Nat) (u0 u1 u2 u3 u4 u5 : Value) : Chg (fun k => k = g) w ((((((w.setCell ⟨g, a, none⟩ u0).setCell ⟨g, b, none⟩ u1).setCell ⟨g, c, none⟩ u2).setCell ⟨g, d, none⟩ u3).setCell ⟨g, e, none⟩ u4).setCell ⟨g, f, none⟩ u5) :=
  ((((((Chg.refl (fun k => k = g) w).setCell (.inl rfl) _).setCell (.inl rfl) _).setCell (.inl rfl) _).setCell (.inl rfl) _).setCell (.inl rfl) _).setCell (.inl rfl) _
theorem zeroRec (w : World) : (zeroValue 37).run Tryz.prog w = .ok (.agg #[.int .i64 0, .int .i64 0, .bool false, .string ⟨#[]⟩, .bool false, .string ⟨#[]⟩]) w := by kernel_rfl
/-- What stands behind the kept ones is cleared. -/
theorem clear_recs {w : World} {g o n c : Nat} {cur : Array Value} (hg : w.heap[g]? = some (.cells cur 37 (0, 0))) (hs : o + n * 6 ≤ cur.size) (hn : 0 < n) : ∃ vs : List Value, vs.length = n * 6 ∧
    ∀ ty, (Builtin.clear_ #[33] ty #[.slice (some ⟨g, o, none⟩) n c]).run Tryz.prog w = .ok (.tuple #[]) (w.setRow g (cur.toList.take o ++ vs ++ cur.toList.drop (o + vs.length)).toArray) := by
  obtain ⟨zc, hzc⟩ : ∃ zc : Array Value, #[.int .i64 0, .int .i64 0, .bool false, .string ⟨#[]⟩, .bool false, .string ⟨#[]⟩] = zc := ⟨_, rfl⟩
  have hz6 : zc.size = 6 := by rw [← hzc]; rfl
  have h1 : ∀ v ∈ (Builtin.zeroCells zc n).toList, v.oneCell' = true := by
    intro v hv
    unfold Builtin.zeroCells at hv
    rw [Array.toList_map] at hv
    obtain ⟨i, _, rfl⟩ := List.mem_map.1 hv
    have h6 : i % zc.size < 6 := by rw [hz6]; exact Nat.mod_lt _ (by omega)
    have key : ∀ t, t < 6 → (zc[t]!).oneCell' = true := by
      intro t ht
      rw [← hzc]
      match t, ht with
      | 0, _ => rfl
      | 1, _ => rfl
      | 2, _ => rfl
      | 3, _ => rfl
      | 4, _ => rfl
      | 5, _ => rfl
    exact key _ h6
  have hl : (Builtin.zeroCells zc n).toList.length = n * 6 := by unfold Builtin.zeroCells; simp [hz6]
  refine ⟨(Builtin.zeroCells zc n).toList, hl, fun ty => ?_⟩
  have hst := run_storeCells_at (P := Tryz.prog) g o 37 (Builtin.zeroCells zc n).toList 0 cur w hg (by rw [hl]; omega) h1
  obtain ⟨m, rfl⟩ : ∃ m, n = m + 1 := ⟨n - 1, by omega⟩
  have hcl : (Value.agg #[.int .i64 0, .int .i64 0, .bool false, .string ⟨#[]⟩, .bool false, .string ⟨#[]⟩]).cells = zc := by rw [← hzc]; rfl
  simp only [Nat.add_zero] at hst
  simp [Builtin.clear_, run_underlying Tryz.underlying33, zeroRec, hcl, hst]
theorem OwnR.cleared {w : World} {e : TypeId} {g n cap i : Nat} {X : List Rec} {cur : Array Value} (h : OwnR e w (.slice (some ⟨g, 0, none⟩) n cap) X) (hg : w.heap[g]? = some (.cells cur e (0, 0))) (hi : i ≤ X.length) (vs : List Value) (hv : i * 6 + vs.length ≤ cur.size) :
    OwnR e (w.setRow g (cur.toList.take (i * 6) ++ vs ++ cur.toList.drop (i * 6 + vs.length)).toArray) (.slice (some ⟨g, 0, none⟩) i cap) (X.take i) := by
  rcases h.2 with ⟨hv, _⟩ | ⟨g', cap', cur', hv', hb, hg', hle, hcm, hcs, ht⟩
  · cases hv
  · obtain ⟨ha, hn, hc⟩ := Value.slice.inj hv'
    obtain rfl : g = g' := by have := Option.some.inj ha; exact (Addr.mk.inj this).1
    rw [hg] at hg'
    obtain rfl := (Obj.cells.inj (Option.some.inj hg')).1
    subst hc
    have htl : (X.take i).length = i := by rw [List.length_take]; omega
    refine ⟨by rw [htl, fm_len (f := Rec.cells) (n := 6) (fun _ => rfl), htl], .inr ⟨g, cap, _, by rw [htl], hb, setRow_heap w g cur _ _ _ hg, by rw [htl]; omega, hcm, ?_, ?_⟩⟩
    · simp only [List.size_toArray, List.length_append, List.length_take, List.length_drop, Array.length_toList]
      omega
    · rw [htl]
      have e1 : (X.take i).flatMap Rec.cells = (X.flatMap Rec.cells).take (i * 6) := by
        have e2 : X.flatMap Rec.cells = (X.take i).flatMap Rec.cells ++ (X.drop i).flatMap Rec.cells := by rw [← List.flatMap_append, List.take_append_drop]
        rw [e2, List.take_left' (by rw [fm_len (f := Rec.cells) (n := 6) (fun _ => rfl), htl])]
      rw [e1, ← ht, List.take_take, List.append_assoc]
      have e3 : (cur.toList.take (i * 6)).length = i * 6 := by rw [List.length_take, Array.length_toList]; omega
      show (cur.toList.take (i * 6) ++ (vs ++ _)).take (i * 6) = _
      rw [List.take_left' e3, Nat.min_eq_left (by have : X.length * 6 ≥ i * 6 := Nat.mul_le_mul_right _ hi; omega)]
theorem setRow_chg (w : World) (g : Nat) (cs : Array Value) : Chg (fun k => k = g) w (w.setRow g cs) :=
  ⟨rfl, rfl, rfl, by rw [size_setRow]; exact Nat.le_refl _, fun k _ hn => setRow_other w g k cs hn⟩
end Go.Proofs.YtdjmifaidgbbaaaGreatDoor

/-
  Plain facts on the names of segments' files: a name is read back; two ways of reading a name are one. Of no program.
-/
namespace Go.Proofs.YtdjmifaidgbbaaaGreatDoor
open Go.Lib

theorem decFrom_app (l m : List UInt8) : ∀ a, decFrom a (l ++ m) = (decFrom a l).bind fun b => decFrom b m := by
  induction l with
  | nil => intro a; rfl
  | cons x r ih =>
    intro a
    simp only [List.cons_append, decFrom]
    cases digitVal x with
    | none => rfl
    | some d => exact ih _

theorem decFrom_zeros (k : Nat) : decFrom 0 (List.replicate k 48) = some 0 := by
  induction k with
  | zero => rfl
  | succ k ih =>
    rw [List.replicate_succ]
    simp only [decFrom]
    have : digitVal 48 = some 0 := by decide
    rw [this]
    exact ih

theorem digit_of (u : Nat) (h : u < 10) : digitVal (UInt8.ofNat (48 + u)) = some u := by
  have e : (UInt8.ofNat (48 + u)).toNat = 48 + u := by rw [UInt8.toNat_ofNat']; omega
  unfold digitVal
  rw [e, if_pos (by omega)]
  congr 1
  omega

theorem dec_step {u : Nat} (h : ¬ u < 10) : decDigits u = decDigits (u / 10) ++ [UInt8.ofNat (48 + u % 10)] := by
  rw [decDigits, dif_neg h]
theorem dec_one {u : Nat} (h : u < 10) : decDigits u = [UInt8.ofNat (48 + u)] := by
  rw [decDigits, dif_pos h]

theorem dec_back (u : Nat) : decFrom 0 (decDigits u) = some u := by
  induction u using Nat.strongRecOn with
  | ind u ih =>
    by_cases h : u < 10
    · rw [dec_one h]
      simp only [decFrom, digit_of u h]
      simp
    · rw [dec_step h, decFrom_app, ih (u / 10) (by omega)]
      simp only [Option.bind_some, decFrom, digit_of (u % 10) (by omega)]
      congr 1
      omega

theorem dec_len : ∀ (k u : Nat), u < 10 ^ (k + 1) → (decDigits u).length ≤ k + 1
  | 0, u, h => by rw [dec_one (by simpa using h)]; simp
  | k + 1, u, h => by
    by_cases h10 : u < 10
    · rw [dec_one h10]; simp
    · rw [dec_step h10, List.length_append, List.length_singleton]
      have := dec_len k (u / 10) (by rw [Nat.pow_succ] at h; omega)
      omega

theorem dec_ne (u : Nat) : decDigits u ≠ [] := by
  intro h
  have := dec_back u
  by_cases h10 : u < 10
  · rw [dec_one h10] at h; cases h
  · rw [dec_step h10] at h; simp at h

/-- No nought stands ahead of a number that is none. -/
theorem dec_head (u : Nat) (h0 : 0 < u) : ∃ b r, decDigits u = b :: r ∧ b ≠ 48 := by
  induction u using Nat.strongRecOn with
  | ind u ih =>
    by_cases h : u < 10
    · refine ⟨_, [], dec_one h, fun e => ?_⟩
      have h1 := congrArg UInt8.toNat e
      rw [UInt8.toNat_ofNat'] at h1
      have : (48 : UInt8).toNat = 48 := by decide
      omega
    · obtain ⟨b, r, e, hb⟩ := ih (u / 10) (by omega) (by omega)
      exact ⟨b, r ++ [UInt8.ofNat (48 + u % 10)], by rw [dec_step h, e]; rfl, hb⟩

def zeros (n : Nat) : List UInt8 := List.replicate (10 - (decDigits n).length) 48
/-- A number, of ten digits at least. -/
def pad (n : Nat) : List UInt8 := zeros n ++ decDigits n
def dotlog : List UInt8 := [46, 108, 111, 103]
/-- A segment's file. -/
def segName (d : List UInt8) (n : Nat) : List UInt8 := d ++ [47] ++ pad n ++ dotlog

theorem pad_len {n : Nat} (h : n ≤ 1099511627776) : (pad n).length ≤ 13 := by
  unfold pad zeros
  rw [List.length_append, List.length_replicate]
  have := dec_len 12 n (by omega)
  omega

theorem pad_dec (n : Nat) : decNat (pad n) = some n := by
  have h : decFrom 0 (pad n) = some n := by
    unfold pad zeros
    rw [decFrom_app, decFrom_zeros]
    exact dec_back n
  unfold decNat
  have : (pad n).isEmpty = false := by
    unfold pad
    cases hd : zeros n ++ decDigits n with
    | nil => exact absurd (List.append_eq_nil_iff.1 hd).2 (dec_ne n)
    | cons _ _ => rfl
  rw [this]
  simpa using h

theorem atoi_of_dec {l : List UInt8} {n : Nat} (h : decNat l = some n) : atoi l = some (n : Int) := by
  cases l with
  | nil => simp [decNat] at h
  | cons b r =>
    have h0 : decFrom 0 (b :: r) = some n := by
      unfold decNat at h
      simpa using h
    obtain ⟨d, hd⟩ := digit_of_decFrom _ _ _ h0 0 b rfl
    have hne : b ≠ 45 ∧ b ≠ 43 := by
      constructor <;> (rintro rfl; simp [digitVal] at hd)
    unfold atoi
    simp [hne.1, hne.2, h]

theorem dec_nat (n : Nat) : decNat (decDigits n) = some n := by
  unfold decNat
  have : (decDigits n).isEmpty = false := by
    cases hd : decDigits n with
    | nil => exact absurd hd (dec_ne n)
    | cons _ _ => rfl
  rw [this]
  simpa using dec_back n

theorem pad_atoi {n : Nat} (h : n ≤ 1099511627776) : atoiAll (pad n) = .ok (n : Int) := by
  rw [atoiAll_short _ (by have := pad_len h; omega), atoi_of_dec (pad_dec n)]
  rfl

theorem dec_atoi {n : Nat} (h : n ≤ 1099511627776) : atoiAll (decDigits n) = .ok (n : Int) := by
  rw [atoiAll_short _ (by have := dec_len 12 n (by omega); omega), atoi_of_dec (dec_nat n)]
  rfl

/-- What the document's Number makes of a text. -/
def numR (s : List UInt8) : Int × Bool :=
  match parseIntB 64 s with
  | .ok v => if itoa v = s then (v, true) else (0, false)
  | _ => (0, false)

theorem numR_dec {n : Nat} (h : n ≤ 1099511627776) : numR (decDigits n) = ((n : Int), true) := by
  unfold numR
  rw [parseIntB_64, dec_atoi h]
  simp only [itoa_nonneg, if_true]

/-- The program's segment.Base. -/
def progBase (d nm : List UInt8) : Int :=
  let s := trimPrefix nm (d ++ [47])
  if hasSuffix s dotlog then
    match atoiAll (trimSuffix s dotlog) with
    | .ok v => if 0 ≤ v ∧ v ≤ 1099511627776 ∧ segName d v.toNat = nm then v else -1
    | _ => -1
  else -1

/-- The document's. -/
def refNum (s : List UInt8) : Int × Bool := if trimB s 48 = [] ∧ s ≠ [] then (0, true) else numR (trimLeftB s 48)
def refBase (d nm : List UInt8) : Int :=
  let r := refNum (trimSuffix (trimPrefix nm (d ++ [47])) dotlog)
  if r.2 = true ∧ 0 ≤ r.1 ∧ r.1 ≤ 1099511627776 ∧ segName d r.1.toNat = nm then r.1 else -1

theorem cut_pre (p l : List UInt8) : trimPrefix (p ++ l) p = l := by
  unfold trimPrefix hasPrefix
  rw [if_pos (by simp), List.drop_left]
theorem has_suf (l p : List UInt8) : hasSuffix (l ++ p) p = true := by
  unfold hasSuffix
  simp
theorem cut_suf (l p : List UInt8) : trimSuffix (l ++ p) p = l := by
  unfold trimSuffix
  rw [if_pos (has_suf l p), List.length_append, Nat.add_sub_cancel, List.take_left]

theorem segName_eq (d : List UInt8) (n : Nat) : segName d n = (d ++ [47]) ++ (pad n ++ dotlog) := by
  unfold segName
  rw [List.append_assoc]

theorem prog_hit (d : List UInt8) {n : Nat} (h : n ≤ 1099511627776) : progBase d (segName d n) = n := by
  unfold progBase
  simp only
  rw [show trimPrefix (segName d n) (d ++ [47]) = pad n ++ dotlog by rw [segName_eq]; exact cut_pre _ _]
  rw [has_suf, cut_suf, pad_atoi h]
  simp only [if_true]
  rw [if_pos ⟨by omega, by omega, by rw [Int.toNat_natCast]⟩]

theorem prog_miss {d nm : List UInt8} (h : ∀ n : Nat, n ≤ 1099511627776 → segName d n ≠ nm) : progBase d nm = -1 := by
  unfold progBase
  simp only
  split
  · split
    · rename_i v _
      rw [if_neg (fun ⟨h0, h1, h2⟩ => h v.toNat (by omega) h2)]
    · rfl
  · rfl

theorem dropWhile_rep (k : Nat) (l : List UInt8) : (List.replicate k 48 ++ l).dropWhile (· == (48 : UInt8)) = l.dropWhile (· == (48 : UInt8)) := by
  induction k with
  | zero => rfl
  | succ k ih => rw [List.replicate_succ, List.cons_append, List.dropWhile_cons_of_pos (by rfl)]; exact ih

theorem pad_left {n : Nat} (h0 : 0 < n) : trimLeftB (pad n) 48 = decDigits n := by
  obtain ⟨b, r, e, hb⟩ := dec_head n h0
  unfold pad zeros trimLeftB
  rw [dropWhile_rep, e, List.dropWhile_cons_of_neg (by simpa using hb)]

theorem dropWhile_none {p : UInt8 → Bool} : ∀ {l : List UInt8}, l.dropWhile p = [] → ∀ x ∈ l, p x = true
  | [], _, x, hx => by cases hx
  | b :: r, h, x, hx => by
    by_cases hb : p b = true
    · rw [List.dropWhile_cons_of_pos hb] at h
      rcases List.mem_cons.1 hx with rfl | hx
      · exact hb
      · exact dropWhile_none h x hx
    · rw [List.dropWhile_cons_of_neg hb] at h
      cases h

theorem trimB_all {l : List UInt8} (h : trimB l 48 = []) : ∀ x ∈ l, x = 48 := by
  unfold trimB trimLeftB at h
  replace h := dropWhile_none h
  unfold trimRightB at h
  cases hm : l.reverse.dropWhile (· == (48 : UInt8)) with
  | nil =>
    replace hm := dropWhile_none hm
    intro x hx
    simpa using hm x (by simpa using hx)
  | cons b r =>
    rw [hm] at h
    have h1 := h b (by simp)
    have h2 := List.head_dropWhile_not (p := fun x : UInt8 => x == 48) (l := l.reverse) (by rw [hm]; simp)
    simp only [hm, List.head_cons] at h2
    rw [h1] at h2
    cases h2

theorem refNum_pad {n : Nat} (h : n ≤ 1099511627776) : refNum (pad n) = ((n : Int), true) := by
  unfold refNum
  by_cases h0 : n = 0
  · subst h0
    rw [if_pos]
    · rfl
    · have : pad 0 = List.replicate 10 48 := by unfold pad zeros; rw [dec_one (by omega)]; rfl
      rw [this]
      exact ⟨by decide, by decide⟩
  · have hne : trimB (pad n) 48 ≠ [] := by
      intro e
      obtain ⟨b, r, e2, hb⟩ := dec_head n (by omega)
      have hm : b ∈ pad n := by unfold pad; rw [e2]; simp
      exact hb (trimB_all e b hm)
    rw [if_neg (fun h => hne h.1), pad_left (by omega)]
    exact numR_dec h

theorem ref_hit (d : List UInt8) {n : Nat} (h : n ≤ 1099511627776) : refBase d (segName d n) = n := by
  unfold refBase
  simp only
  rw [show trimPrefix (segName d n) (d ++ [47]) = pad n ++ dotlog by rw [segName_eq]; exact cut_pre _ _]
  rw [cut_suf, refNum_pad h]
  rw [if_pos ⟨rfl, by simp only; omega, by simp only; omega, by rw [Int.toNat_natCast]⟩]

theorem ref_miss {d nm : List UInt8} (h : ∀ n : Nat, n ≤ 1099511627776 → segName d n ≠ nm) : refBase d nm = -1 := by
  unfold refBase
  simp only
  rw [if_neg (fun ⟨_, h0, h1, h2⟩ => h _ (by omega) h2)]

/-- THE PLAIN LAW. -/
theorem bases_eq (d nm : List UInt8) : progBase d nm = refBase d nm := by
  by_cases h : ∃ n : Nat, n ≤ 1099511627776 ∧ segName d n = nm
  · obtain ⟨n, hn, rfl⟩ := h
    rw [prog_hit d hn, ref_hit d hn]
  · have h' : ∀ n : Nat, n ≤ 1099511627776 → segName d n ≠ nm := fun n hn e => h ⟨n, hn, e⟩
    rw [prog_miss h', ref_miss h']
end Go.Proofs.YtdjmifaidgbbaaaGreatDoor
