/-
  The last offset of each key, as the law finds it. (Of the logs' seat.)
-/
import Derived.Test.YtdjmifaidgbbaaaGreatDoorLc42
import Derived.Test.YtdjmifaidgbbaaaGreatDoorLc37
import Derived.Test.YtdjmifaidgbbaaaGreatDoorLc22
import Derived.Test.YtdjmifaidgbbaaaGreatDoorLc21
set_option linter.unusedSimpArgs false
set_option linter.unusedVariables false
namespace Go.Proofs.YtdjmifaidgbbaaaGreatDoor
open Go.RowKit Go.Lib Go.Maps

set_option maxHeartbeats 4000000 in
set_option maxRecDepth 20000 in
theorem latest_any {w : World} (a : Option Addr) (rs : List Rec) (c : Nat) (ha : RecsAt w a rs) (hl : rs.length ≤ 100000) (hok : ∀ r ∈ rs, r.key.size ≤ maxLen) :
    Calls Tryz.prog 21 #[.slice a rs.length c] w fun e w' => ∃ mb, e = .returned (.map (some mb)) ∧ NumsAt w' mb (lastOf rs) ∧ w.heap.size ≤ mb ∧ Chg Nil w w' := by
  have hm1 := NumsAt.made w
  have hal := (Chg.refl Nil w).alloc (.map #[] 0)
  have hmm := @run_makeMap Tryz.prog
  have HA := Lib.hid ha
  have HOK := Lib.hid hok
  have HBLK : Hid (rs ≠ [] → ∀ y, a = some y → y.block < w.heap.size) := fun h0 y hy => ha.lt h0 hy
  clear ha hok
  go_enter Tryz.func21, Tryz.ntmps21
  go_upto_region 2 with fail
  obtain ⟨mb, hmb⟩ : ∃ mb, w.heap.size = mb := ⟨_, rfl⟩
  generalize hw1 : w.alloc (.map #[] 0) = w1 at *
  rw [hmb] at hm1 HBLK
  rw [hmb]
  have HM1 : Hid (NumsAt w1 mb (lastOf [])) := hm1
  have HAL := Lib.hid hal
  have HMB : Hid (w.heap.size ≤ mb) := Nat.le_of_eq hmb
  obtain ⟨n, hn⟩ : ∃ n, rs.length = n := ⟨_, rfl⟩
  have HN := Lib.hid hn
  rw [hn] at hl
  rw [hn]
  clear hm1 hal hmm hw1 hmb hn
  go_wp2_with fail
  go_loopw [4] (fun iv wr => ∃ (wq : World) (i : Nat), wq = wr ∧ i ≤ n ∧ iv = .int .i64 i ∧ NumsAt wr mb (lastOf (rs.take i)) ∧ Chg (fun k => k = mb) w1 wr) (fun iv _ => n - (RowKit.intOf iv).toNat)
  case atStart => exact ⟨_, 0, rfl, Nat.zero_le _, rfl, HM1.out, Chg.refl _ _⟩
  case round =>
    obtain ⟨wr, i, rfl, hi, rfl, hnm, hc⟩ := hrel
    have HC := Lib.hid hc
    have HNM := Lib.hid hnm
    clear hnm hc
    by_cases hin : i < n
    · have hii : (i : Int) < (n : Int) := by omega
      have hil : i < rs.length := by rw [HN.out]; exact hin
      obtain ⟨b, off, rfl, hz⟩ := HA.out i hil
      have hbm : b ≠ mb := fun e => by
        have h1 : b < mb := HBLK.out (fun h0 => by rw [h0] at hil; simp at hil) _ rfl
        omega
      obtain ⟨r, hr⟩ : ∃ r : Rec, rs[i] = r := ⟨_, rfl⟩
      have hcell : ∀ t u, (r.cells)[t]? = some u → wr.cell? ⟨b, off + i * 6 + t, none⟩ = some u := fun t u ht => (HAL.out.trans HC.out (fun k hk => .inr (by rw [hk]; exact HMB.out))).cell (S := Nil) (hz t u (by rw [hr]; exact ht)) (fun h => h)
      have HTK : Hid (rs.take (i + 1) = rs.take i ++ [r]) := by rw [← hr]; exact List.take_succ_eq_append_getElem hil
      have hks : r.key.size ≤ maxLen := HOK.out r (by rw [← hr]; exact List.getElem_mem hil)
      have HFL : Hid ((rs.take i).length < maxLen) := by have h1 := List.length_take (i := i) (l := rs); unfold Hid maxLen; omega
      have HKS := Lib.hid hks
      have HIN := Lib.hid hin
      have HBM := Lib.hid hbm
      clear hz hr hil hks hin hbm
      obtain ⟨ro, rt, rk, rkey, rg, rv⟩ := r
      have z0 := hcell 0 _ rfl
      have z2 := hcell 2 _ rfl
      have z3 := hcell 3 _ rfl
      rw [Nat.add_zero] at z0
      clear hcell
      cases rk with
      | true =>
        obtain ⟨pre, hpre⟩ : ∃ pre, rs.take i = pre := ⟨_, rfl⟩
        rw [hpre] at HNM HFL HTK
        clear hpre
        go_upto_region 6 with fail
        refine Ch.wp_region_chain _ (Chg (fun k => k = mb)) [11] (fun vs w => match vs with | [] => NumsAt w mb (lastOf pre) | _ => NumsAt w mb (lastOf (pre ++ [⟨ro, rt, true, rkey, rg, rv⟩]))) (by kernel_rfl) (fun _ => Chg.refl _ _) (fun _ _ _ h k => h.trans k (fun _ h => .inl h)) [[], [], [], [1, 2], [3], [4], [], [], [6, 7], [8], [9], [0, 5, 10]] rfl (by kernel_rfl) (by kernel_rfl) (Chg.refl _ _).drew ?_ ?_
        · exact HNM.out.chg (Chg.refl Nil _).drew (fun h => h)
        iterate 5 ((with_reducible apply Ch.Walk.eq); (case hd => rfl); (case hi => rfl); case h => (intro w2 hw2 N hN; simp only [Ch.depsOf, List.filterMap_nil, List.filterMap_cons, List.getElem?_toArray, List.getElem?_cons_zero, List.getElem?_cons_succ, Option.bind_some, List.nil_append, List.cons_append, Ch.Ob]; go_simp; (try go_bits); with_reducible exact hN _ (Chg.refl _ _) (fun _ h => h)))
        ((with_reducible apply Ch.Walk.eq); (case hd => rfl); (case hi => rfl); case h => (intro w2 hw2 N hN; (have hq := hw2.cell z3 (fun e => HBM.out e)); simp only [Ch.depsOf, List.filterMap_nil, List.filterMap_cons, List.getElem?_toArray, List.getElem?_cons_zero, List.getElem?_cons_succ, Option.bind_some, List.nil_append, List.cons_append, Ch.Ob]; go_simp; (try go_bits); with_reducible exact hN _ (Chg.refl _ _) (fun _ h => h)))
        simp only [List.nil_append, List.cons_append]
        iterate 4 ((with_reducible apply Ch.Walk.eq); (case hd => rfl); (case hi => rfl); case h => (intro w2 hw2 N hN; simp only [Ch.depsOf, List.filterMap_nil, List.filterMap_cons, List.getElem?_toArray, List.getElem?_cons_zero, List.getElem?_cons_succ, Option.bind_some, List.nil_append, List.cons_append, Ch.Ob]; go_simp; (try go_bits); with_reducible exact hN _ (Chg.refl _ _) (fun _ h => h)))
        ((with_reducible apply Ch.Walk.eq); (case hd => rfl); (case hi => rfl); case h => (intro w2 hw2 N hN; (have hq := hw2.cell z0 (fun e => HBM.out e)); simp only [Ch.depsOf, List.filterMap_nil, List.filterMap_cons, List.getElem?_toArray, List.getElem?_cons_zero, List.getElem?_cons_succ, Option.bind_some, List.nil_append, List.cons_append, Ch.Ob]; go_simp; (try go_bits); with_reducible exact hN _ (Chg.refl _ _) (fun _ h => h)))
        simp only [List.nil_append, List.cons_append]
        refine Ch.Walk.chainS 0 rfl rfl ?_ ?_
        · intro w9 hw9 vs hvs hF N hN
          obtain rfl := List.eq_nil_of_length_eq_zero hvs
          have h0 : NumsAt w9 mb (lastOf pre) := hF
          obtain ⟨w8, hrun, hn8, hc8⟩ := h0.next ⟨ro, rt, true, rkey, rg, rv⟩ rfl HFL.out HKS.out
          have hrun : (Instr.mapUpdate 49 (.map (some mb)) (.string rkey) (.int .i64 ro)).run Tryz.prog w9 = .ok () w8 := hrun
          clear hF h0
          have HN8 := Lib.hid hn8
          have HC8 := Lib.hid hc8
          clear hn8 hc8
          simp only [Ch.depsOf, List.filterMap_nil, List.filterMap_cons, List.getElem?_toArray, List.getElem?_cons_zero, List.getElem?_cons_succ, Option.bind_some, List.nil_append, List.cons_append, Ch.Ob, Ch.chained_get, Option.map_some, List.idxOf?, List.findIdx?, List.findIdx?.go, Nat.reduceBEq, List.getD_cons_zero, List.getD_cons_succ, Nat.reduceAdd, if_true, if_false, Bool.false_eq_true]
          go_simp
          exact hN _ HC8.out HN8.out
        intro w9 hw9
        simp only [List.nil_append, List.cons_append, Ch.Fin, List.map_cons, List.map_nil, List.getD_cons_zero, List.getD_cons_succ]
        intro hF
        have HF : Hid (NumsAt w9 mb (lastOf (pre ++ [⟨ro, rt, true, rkey, rg, rv⟩]))) := hF
        have HW9 := Lib.hid hw9
        clear hF hw9 z0 z2 z3
        go_simp
        go_wp2_with fail
        go_roundw
        case rel => exact ⟨_, i + 1, rfl, HIN.out, by go_num, by rw [HTK.out]; exact HF.out, HC.out.trans HW9.out (fun _ h => .inl h)⟩
        case measure => exact meas_two HIN.out
      | false =>
        go_wp2_with fail
        go_roundw
        case rel => exact ⟨_, i + 1, rfl, HIN.out, by go_num, by rw [HTK.out, lastOf_not rfl]; exact HNM.out, HC.out⟩
        case measure => exact meas_two HIN.out
    · have hii : ¬ (i : Int) < (n : Int) := by omega
      have HT : Hid (rs.take i = rs) := List.take_of_length_le (by rw [HN.out]; omega)
      clear hin
      go_wp2_with fail
      go_ret
      exact ⟨_, rfl, by rw [← HT.out]; exact HNM.out, HMB.out, HAL.out.trans HC.out (fun k hk => .inr (by rw [hk]; exact HMB.out))⟩
end Go.Proofs.YtdjmifaidgbbaaaGreatDoor

/-
  A log with what it has: Compact, and Compact again. (Of the logs' seat.)
-/
set_option linter.unusedSimpArgs false
set_option linter.unusedVariables false
namespace Go.Proofs.YtdjmifaidgbbaaaGreatDoor
open Go.RowKit Go.Lib Go.Maps

/-- What Compact leaves: the segments but the last one without what goes, the last one as it was. -/
structure Cmpd (P : Rec → Bool) (A Z : List Rec) (g g' : Lg) (zs : List SgB) : Prop where
  recs : ∃ ys z, zs = ys ++ [z] ∧ recsOf (allBts ys) = A.filter P ∧ recsOf z.2 = Z
  start : g'.start = g.start
  dir : g'.dir = g.dir
  stop : g'.stop = g.stop
theorem snoc_of {α : Type} {l : List α} (h : 0 < l.length) : ∃ ys z, l = ys ++ [z] := by
  rcases List.eq_nil_or_concat l with h0 | ⟨ys, z, h0⟩
  · rw [h0] at h; simp at h
  · exact ⟨ys, z, by rw [h0, List.concat_eq_append]⟩
theorem allBts_snoc (ys : List SgB) (z : SgB) : recsOf (allBts (ys ++ [z])) = recsOf (allBts ys) ++ recsOf z.2 := by
  rw [allBts_append, recsOf_append, allBts_cons]
  simp [allBts]
theorem gonesN_all {p : Rec → Bool} {ys : List SgB} (h : (recsOf (allBts ys)).filter p = recsOf (allBts ys)) : ∀ x ∈ ys, gonesN p x.2 = 0 := by
  induction ys with
  | nil => intro x hx; cases hx
  | cons a ys ih =>
    rw [allBts_cons, recsOf_append, List.filter_append] at h
    have h1 := List.length_filter_le p (recsOf a.2)
    have h2 := List.length_filter_le p (recsOf (allBts ys))
    have h3 := congrArg List.length h
    rw [List.length_append, List.length_append] at h3
    intro x hx
    rcases List.mem_cons.1 hx with rfl | hx
    · unfold gonesN; omega
    · exact ih (List.Sublist.eq_of_length List.filter_sublist (by omega)) x hx
/-- A log in order beside its disk that does not fail, however much it holds. -/
def LgJ (B : Nat → Prop) (w : World) (p l : Nat) (g : Lg) (xs : List SgB) : Prop :=
  ∃ S sv ss d, LgS B w p l S sv ss d g ∧ LgOk d g xs ∧ d.left = -1 ∧ g.down = false
theorem LgI.j {B : Nat → Prop} {w : World} {p l r m : Nat} {g : Lg} {xs : List SgB} (h : LgI B w p l r m g xs) : LgJ B w p l g xs := by
  obtain ⟨S, sv, ss, d, h1, h2, h3, h4, _⟩ := h
  exact ⟨S, sv, ss, d, h1, h2, h3, h4⟩
theorem LgJ.nil {B : Nat → Prop} {w w' : World} {p l : Nat} {g : Lg} {xs : List SgB} (h : LgJ B w p l g xs) (hc : Chg Nil w w') : LgJ B w' p l g xs := by
  obtain ⟨S, sv, ss, d, h1, h2⟩ := h
  exact ⟨S, sv, ss, d, h1.nil hc, h2⟩
theorem LgJ.growC {B : Nat → Prop} {w w' : World} {p l : Nat} {g : Lg} {xs : List SgB} (h : LgJ B w p l g xs) (hc : Chg B w w') : LgJ (fun k => B k ∨ (w.heap.size ≤ k ∧ k < w'.heap.size)) w' p l g xs := by
  obtain ⟨S, sv, ss, d, h1, h2⟩ := h
  exact ⟨S, sv, ss, d, h1.growC hc, h2⟩
theorem LgJ.all {B : Nat → Prop} {w : World} {p l : Nat} {g : Lg} {xs : List SgB} (h : LgJ B w p l g xs) (hdir : g.dir.length ≤ 100) (hx : xs.length ≤ 9999) (most : Int) (hn : (g.told xs).length ≤ 4000) :
    Calls Tryz.prog 13 #[.pointer (some ⟨l, 0, none⟩), .int .i64 most] w fun e w' => ∃ v, e = .returned (.tuple #[v, .bool true]) ∧ OwnR 37 w' v (g.told xs) ∧ (∀ k, v.ownBlock = some k → w.heap.size ≤ k) ∧ Chg Nil w w' := by
  obtain ⟨S, sv, ss, d, h1, h2, h3, h4⟩ := h
  exact lall_any h1 h2 hdir (by rw [h1.len, h2.len]; omega) most hn
theorem LgI.compact {B : Nat → Prop} {w : World} {p l r m : Nat} {g : Lg} {xs : List SgB} (h : LgI B w p l r m g xs) (hs : g.start = 0) (hH : Handle w) (hB : B 0) (hdir : g.dir = [112]) (hm : m ≤ 40) (hr : 2 * (6000 * m) ≤ r) (now age : Int) :
    ∃ A Z, recsOf (allBts xs) = A ++ Z ∧ Calls Tryz.prog 20 #[.pointer (some ⟨l, 0, none⟩), .int .i64 now, .int .i64 age] w fun e w' => ∃ g' zs,
      e = .returned (.tuple #[.int .i64 ((A.length - (A.filter (keepR (lastOf (A ++ Z)) (wrap64 (now - age)))).length : Nat) : Int), .nilIface]) ∧ LgJ B w' p l g' zs ∧ Cmpd (keepR (lastOf (A ++ Z)) (wrap64 (now - age))) A Z g g' zs ∧ headIs g'.start zs ∧ zs.length = xs.length ∧ Chg (Off B) w w' := by
  obtain ⟨S, sv, ss, d, h1, h2, h3, h4, h5, h6, h7, h8⟩ := h
  obtain ⟨ys, z, rfl⟩ := snoc_of h2.pos
  have hN := h1.need h2 (by omega) (by rw [hdir]; decide) hH hB
  have hc := lcompact_any h1 h2 hN (by rw [hdir]; decide) (by omega) now age
  refine ⟨recsOf (allBts ys), recsOf z.2, allBts_snoc ys z, ?_⟩
  rw [allBts_snoc ys z |>.symm]
  obtain ⟨P, hP⟩ : ∃ P, keepR (lastOf (recsOf (allBts (ys ++ [z])))) (wrap64 (now - age)) = P := ⟨_, rfl⟩
  rw [hP]
  obtain ⟨d1, hf1, hok1, hon1, hu1, hl1⟩ := flush_ok h2 h3 h4
  obtain ⟨d', g', xs', e1, e2, e3, e4, e5, e6⟩ := comp_ok (p := P) (z := z) ys [] (g := { g with safe := g.stop }) 0 hok1 hon1.left (by omega) (by rw [hu1, hon1.room, h5]; omega) (fun n hn => by
    show dkName (segName g.dir n ++ dotnew) = true
    rw [hdir]
    exact (seg_ok n hn 112 (by decide)).2)
  have hcl : compLg now age (ys ++ [z]) d g = (0, gonesN P (allBts ys), d', g') := by
    unfold compLg
    rw [hf1, if_pos rfl, hP]
    have e7 : (ys ++ [z]).take ((ys ++ [z]).length - 1) = ys := by simp
    rw [e7]
    rw [Nat.zero_add] at e1
    exact e1
  rw [hcl] at hc
  refine hc.mono ?_
  rintro e w' ⟨he, ⟨S', sv', ss', h9, _⟩, hch⟩
  rw [List.nil_append] at e2
  refine ⟨g', xs' ++ [z], he, ⟨S', sv', ss', d', h9, e2, e6.left, e6.down.trans h4⟩, ⟨⟨xs', z, rfl, by rw [e3, recsOf_keep], rfl⟩, e5, e6.dir, e6.stop⟩, ?_, by rw [List.length_append, List.length_append, e4], hch⟩
  intro y hy
  have h10 := e2.lo y hy
  have h11 := (e2.each y (List.mem_of_mem_head? hy)).lo
  rw [e5] at h10 ⊢
  have h12 : ({ g with safe := g.stop } : Lg).start = 0 := hs
  omega
/-- Compact again: nothing goes. -/
theorem LgJ.again {B : Nat → Prop} {w : World} {p l : Nat} {g g' : Lg} {zs : List SgB} {A Z : List Rec} {now age n : Int} (h : LgJ B w p l g' zs) (hc : Cmpd (keepR (lastOf (A ++ Z)) (wrap64 (now - age))) A Z g g' zs) (hu : offUp n (A ++ Z)) (hH : Handle w) (hB : B 0) (hdir : g'.dir.length ≤ 100) (hx : zs.length ≤ 9999) :
    Calls Tryz.prog 20 #[.pointer (some ⟨l, 0, none⟩), .int .i64 now, .int .i64 age] w fun e w' => e = .returned (.tuple #[.int .i64 0, .nilIface]) ∧ Chg (Off B) w w' := by
  obtain ⟨S, sv, ss, d, h1, h2, h3, h4⟩ := h
  obtain ⟨ys, z, rfl, hy, hz⟩ := hc.recs
  have hN := h1.need h2 hx hdir hH hB
  have hcm := lcompact_any h1 h2 hN hdir hx now age
  obtain ⟨d1, hf1, hok1, hon1, hu1, hl1⟩ := flush_ok h2 h3 h4
  have hall : recsOf (allBts (ys ++ [z])) = A.filter (keepR (lastOf (A ++ Z)) (wrap64 (now - age))) ++ Z := by rw [allBts_snoc, hy, hz]
  have hk := kept_again (A := A) (Z := Z) (n := n) (lim := wrap64 (now - age)) hu
  rw [← hall, ← hy] at hk
  have hcl : compLg now age (ys ++ [z]) d g' = (0, 0, d1, { g' with safe := g'.stop }) := by
    unfold compLg
    rw [hf1, if_pos rfl]
    have e7 : (ys ++ [z]).take ((ys ++ [z]).length - 1) = ys := by simp
    rw [e7]
    refine comp_none _ _ _ _ _ (fun l hl => ?_)
    obtain ⟨x, hx, rfl⟩ := List.mem_map.1 hl
    exact gonesN_all hk x hx
  rw [hcl] at hcm
  refine hcm.mono ?_
  rintro e w' ⟨he, _, hch⟩
  exact ⟨he, hch⟩
theorem LgJ.toldAll {B : Nat → Prop} {w : World} {p l : Nat} {g : Lg} {xs : List SgB} (h : LgJ B w p l g xs) (hs : headIs g.start xs) : g.told xs = recsOf (allBts xs) := by
  obtain ⟨S, sv, ss, d, _, h2, _⟩ := h
  exact h2.told_all hs
/-! ### what the law looks at -/
/-- Whether a record that was is still there. -/
def keepQ (p : Rec → Bool) (Z : List Rec) (r : Rec) : Bool := p r || (match Z with | [] => false | z :: _ => decide (z.off ≤ r.off))
theorem stays {p : Rec → Bool} {A Z : List Rec} {n : Int} (hu : offUp n (A ++ Z)) : (A ++ Z).filter (keepQ p Z) = A.filter p ++ Z := by
  rw [List.filter_append]
  cases Z with
  | nil =>
    rw [List.filter_nil]
    congr 1
    refine List.filter_congr fun r _ => ?_
    unfold keepQ
    simp
  | cons z Z =>
    congr 1
    · refine List.filter_congr fun r hr => ?_
      have h1 := offUp_before hu r hr z (List.mem_cons_self ..)
      have h2 : decide (z.off ≤ r.off) = false := decide_eq_false (by omega)
      unfold keepQ
      simp only [h2, Bool.or_false]
    · rw [List.filter_eq_self]
      intro r hr
      have h1 : z.off ≤ r.off := by
        rcases List.mem_cons.1 hr with rfl | hr
        · exact Int.le_refl _
        · have h2 := offUp_right (a := A) hu
          have := offUp_mem h2.2 r hr
          omega
      unfold keepQ
      simp only [decide_eq_true h1, Bool.or_true]
/-- A record that goes. -/
theorem goes {fs : List (Nm × Int)} {lim : Int} {Z : List Rec} {r : Rec} (h : ¬ keepQ (keepR fs lim) Z r = true) : r.keyed = true ∧ (r.off < (fs.lookup r.key.data.toList).getD 0 ∨ (r.gone = true ∧ r.time < lim)) := by
  have h1 : keepR fs lim r = false := by
    cases hk : keepR fs lim r with
    | false => rfl
    | true => exact absurd (by unfold keepQ; rw [hk]; rfl) h
  unfold keepR goneR at h1
  simp at h1
  refine ⟨h1.1, ?_⟩
  by_cases hlt : r.off < (fs.lookup r.key.data.toList).getD 0
  · exact .inl hlt
  · exact .inr (h1.2 (by omega))
theorem stays_take {p : Rec → Bool} {L : List Rec} {i : Nat} (h : i < L.length) : ((L.take (i + 1)).filter p).length = ((L.take i).filter p).length + (if p L[i] = true then 1 else 0) := by
  rw [List.take_succ_eq_append_getElem h, List.filter_append, List.length_append]
  by_cases hp : p L[i] = true
  · rw [List.filter_cons_of_pos hp, if_pos hp]; rfl
  · rw [List.filter_cons_of_neg hp, if_neg hp]; rfl
theorem stays_at {p : Rec → Bool} {L : List Rec} {i : Nat} (h : i < L.length) (hp : p L[i] = true) : (L.filter p)[((L.take i).filter p).length]? = some L[i] := by
  have e : L = L.take i ++ L[i] :: L.drop (i + 1) := by rw [List.getElem_cons_drop, List.take_append_drop]
  have e2 : L.filter p = (L.take i).filter p ++ L[i] :: (L.drop (i + 1)).filter p := by
    conv => lhs; rw [e]
    rw [List.filter_append, List.filter_cons_of_pos hp]
  rw [e2, List.getElem?_append_right (Nat.le_refl _), Nat.sub_self]
  rfl
theorem stays_not {p : Rec → Bool} {L : List Rec} {n : Int} {i : Nat} (hu : offUp n L) (h : i < L.length) (hp : ¬ p L[i] = true) : ∀ r, (L.filter p)[((L.take i).filter p).length]? = some r → L[i].off < r.off := by
  intro r hr
  have e : L = L.take i ++ L[i] :: L.drop (i + 1) := by rw [List.getElem_cons_drop, List.take_append_drop]
  have e2 : L.filter p = (L.take i).filter p ++ (L.drop (i + 1)).filter p := by
    conv => lhs; rw [e]
    rw [List.filter_append, List.filter_cons_of_neg hp]
  rw [e2, List.getElem?_append_right (Nat.le_refl _), Nat.sub_self] at hr
  have hm : r ∈ L.drop (i + 1) := (List.mem_filter.1 (List.mem_of_getElem? hr)).1
  have hu2 : offUp n (L.take i ++ [L[i]] ++ L.drop (i + 1)) := by
    rw [List.append_assoc]
    exact e ▸ hu
  exact offUp_before hu2 _ (List.mem_append_right _ (List.mem_singleton.2 rfl)) _ hm
end Go.Proofs.YtdjmifaidgbbaaaGreatDoor

/-
  The fact of logs: two records. (Of the logs' seat.)
-/
set_option linter.unusedSimpArgs false
set_option linter.unusedVariables false
namespace Go.Proofs.YtdjmifaidgbbaaaGreatDoor
open Go.RowKit Go.Maps

theorem recsAt_box {w : World} {g : Nat} {rs : List Rec} {t : TypeId} (h : Box w g (rs.flatMap Rec.cells) t) : RecsAt w (some ⟨g, 0, none⟩) rs := by
  intro i hi
  refine ⟨g, 0, rfl, fun j u hj => ?_⟩
  have := h.cell (j := i * 6 + j) (fm_get (f := Rec.cells) (n := 6) (fun _ => rfl) rs i hi j _ hj)
  rwa [show 0 + i * 6 + j = i * 6 + j by omega]
def logRs : List Rec := [⟨0, 0, false, ⟨#[]⟩, false, ⟨#[97]⟩⟩, ⟨0, 0, false, ⟨#[]⟩, false, ⟨#[98]⟩⟩]
theorem log_err : encErr 0 (0 + (logRs.length : Nat)) (numbered 0 logRs) = 0 := by decide +kernel
theorem logRs_ok : ∀ r ∈ logRs, Rec.Ok r := fun r hr => by
  simp only [logRs, List.mem_cons, List.not_mem_nil, or_false] at hr
  rcases hr with rfl | rfl
  · exact ⟨by decide, by decide, Nat.zero_le _, show 1 ≤ maxLen by unfold maxLen; omega⟩
  · exact ⟨by decide, by decide, Nat.zero_le _, show 1 ≤ maxLen by unfold maxLen; omega⟩
theorem log_from : recsFrom 1 [⟨0, 0 + (logRs.length : Nat), numbered 0 logRs⟩] = [⟨1, 0, false, ⟨#[]⟩, false, ⟨#[98]⟩⟩] := by rfl
theorem newLg_stop (dir : List UInt8) (most : Int) (n : Nat) : (newLg dir most n n).stop = n := rfl

set_option maxHeartbeats 4000000 in
set_option maxRecDepth 100000 in
theorem logged_any {w : World} (hH : Handle w) (hT : Tabs w) : Calls Tryz.prog 9 #[] w fun e w' => e = .returned (.bool true) ∧ Chg Nil w w' := by
  have HNEW := Lib.hid (new_any 10000 (by omega) w)
  have HH := Lib.hid hH
  have HT := Lib.hid hT
  clear hH hT
  go_enter Tryz.func9, Tryz.ntmps9
  go_wp2_with fail
  refine HNEW.out.mono ?_
  rintro e w1 ⟨p, mb, rfl, hp, hmb, hdm, hc1⟩
  have HOP := Lib.hid (LgI.open (by omega) (DsS.start (by omega) hp hmb hdm hc1) hc1 HT.out 112 (by decide) 300 ⟨by omega, by omega⟩ 0 (by omega))
  clear hp hmb hdm hc1 HNEW
  go_wp2_with fail
  refine HOP.out.mono ?_
  rintro e w2 ⟨l, rfl, hlg, hc2⟩
  have HBX := Lib.hid (recsAt_box (rs := logRs) (Box.new w2 (logRs.flatMap Rec.cells) 37))
  have HAL := Lib.hid ((Chg.refl Nil w2).alloc (.cells (logRs.flatMap Rec.cells).toArray 37))
  have HAD : Hid (Calls Tryz.prog 12 #[.pointer (some ⟨l, 0, none⟩), .slice (some ⟨w2.heap.size, 0, none⟩) logRs.length 2] (w2.alloc (.cells (logRs.flatMap Rec.cells).toArray 37)) fun e w' => e = .returned (.tuple #[.int .i64 0, .nilIface]) ∧ (∃ g' xs', LgI (fun k => k < w.heap.size) w' p l 10000 1 g' xs' ∧ allBts xs' = [⟨0, 0 + (logRs.length : Nat), numbered 0 logRs⟩] ∧ g'.dir = [112] ∧ g'.start = 0 ∧ g'.stop = 2) ∧ Chg Nil w w') := by
    have hcw := hc2.trans HAL.out (fun _ h => h.elim)
    have h1 := (hlg.nil HAL.out).add (HH.out.chg hcw (fun h => h)) HH.out.lt (HT.out.chg hcw) HT.out.lt (by decide) (by omega) (by omega) (some ⟨w2.heap.size, 0, none⟩) logRs 2 (by decide) logRs_ok HBX.out
    rw [newLg_stop] at h1
    refine h1.mono ?_
    rintro e w' ⟨he, _, h0, hc⟩
    have hle : encErr ((0 : Nat) : Int) (((0 : Nat) : Int) + (logRs.length : Nat)) (numbered ((0 : Nat) : Int) logRs) = 0 := log_err
    rw [hle] at he
    obtain ⟨g', xs', hg, ha, hd, _, hs, hp⟩ := h0 hle
    exact ⟨he, ⟨g', xs', hg, by rw [ha]; rfl, hd, hs, hp⟩, hcw.trans hc (fun k hk => .inr (Nat.le_of_not_lt hk))⟩
  have hln : logRs.length = 2 := rfl
  clear hlg hc2
  go_wp2_with fail
  refine HAD.out.mono ?_
  rintro e w3 ⟨rfl, ⟨g', xs', hg, ha, hd, hs, hp⟩, hc3⟩
  have HG := Lib.hid hg
  have HC3 := Lib.hid hc3
  have HP := Lib.hid hp
  have HRD : Hid (Calls Tryz.prog 34 #[.pointer (some ⟨l, 0, none⟩), .int .i64 1, .int .i64 99] w3 fun e w' => ∃ g2 c, e = .returned (.tuple #[.slice (some ⟨g2, 0, none⟩) 1 c, .nilIface]) ∧ w'.cell? ⟨g2, 0, none⟩ = some (.int .i64 1) ∧ w'.cell? ⟨g2, 5, none⟩ = some (.string ⟨#[98]⟩) ∧ Chg Nil w3 w') := by
    refine (hg.read (by rw [hd]; decide) (by omega) 1 99 (by omega) (by omega)).mono ?_
    rintro e w' ⟨v, out, he, hown, hnew, ⟨rest, hr, hz⟩, hc⟩
    rw [ha, log_from] at hr
    have hout : out = [⟨1, 0, false, ⟨#[]⟩, false, ⟨#[98]⟩⟩] := by
      rcases out with _ | ⟨x, _ | ⟨y, o⟩⟩
      · rw [hz rfl] at hr; cases hr
      · simp only [List.cons_append, List.cons.injEq] at hr
        rw [← hr.1]
      · simp at hr
    subst hout
    obtain ⟨a, cap, hv, _, hcell⟩ := hown.valAt
    obtain ⟨g2, rfl, hz2⟩ := hcell 0 (by simp)
    have z0 := hz2 0 _ rfl
    have z5 := hz2 5 _ rfl
    exact ⟨g2, cap, by rw [he, hv]; rfl, z0, z5, hc⟩
  clear hg ha hd hs hp hc3 HAD HAL HBX hln
  go_wp2_with fail
  refine HRD.out.mono ?_
  rintro e w4 ⟨g2, c, rfl, z0, z5, hc4⟩
  have HEN := Lib.hid ((HG.out.nil hc4).endAt (by omega))
  have HC4 := Lib.hid (HC3.out.trans hc4 (fun _ h => h.elim))
  rw [HP.out] at HEN
  clear hc4 HRD
  go_wp2_with fail
  refine HEN.out.mono ?_
  rintro e w5 ⟨rfl, hc5⟩
  have z0 := hc5.cell z0 (fun h => h)
  have z5 := hc5.cell z5 (fun h => h)
  have HC5 := Lib.hid (HC4.out.trans hc5 (fun _ h => h.elim))
  clear hc5
  go_wp2_with fail
  go_ret
  exact ⟨rfl, HC5.out⟩
end Go.Proofs.YtdjmifaidgbbaaaGreatDoor

/-
  What the laws of logs take and keep: lists of records. (Of the logs' seat.)
-/
set_option linter.unusedSimpArgs false
set_option linter.unusedVariables false
namespace Go.Proofs.YtdjmifaidgbbaaaGreatDoor
open Go.RowKit Go.Maps

/-- A list of records among the arguments. -/
structure Rl where
  ra : Option Addr
  rs : List Rec
  rc : Nat
def RlsAt (w : World) (xa : Option Addr) (xs : List Rl) : Prop := ∀ i (h : i < xs.length), ∃ b off, xa = some ⟨b, off, none⟩ ∧ w.cell? ⟨b, off + i, none⟩ = some (.slice xs[i].ra xs[i].rs.length xs[i].rc)
structure Rl.Ok (w : World) (p : Rl) : Prop where
  recs : RecsAt w p.ra p.rs
  rok : ∀ r ∈ p.rs, Rec.Ok r
theorem OwnR.at {e : TypeId} {w : World} {a : Option Addr} {c : Nat} {rs : List Rec} (h : OwnR e w (.slice a rs.length c) rs) : RecsAt w a rs := by
  obtain ⟨a', c', he, hr, _⟩ := h.recs
  obtain ⟨rfl, _, _⟩ := Value.slice.inj he
  exact hr
theorem numbered_ge : ∀ {b : Int} {rs : List Rec}, ∀ r ∈ numbered b rs, b ≤ r.off
  | _, [], r, hr => by cases hr
  | b, x :: rs, r, hr => by
    rcases List.mem_cons.1 hr with rfl | hr
    · exact Int.le_refl _
    · have := numbered_ge r hr
      omega
end Go.Proofs.YtdjmifaidgbbaaaGreatDoor
