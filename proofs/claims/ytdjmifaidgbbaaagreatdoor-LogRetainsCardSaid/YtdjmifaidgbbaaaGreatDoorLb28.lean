/-
  The search among a segment's places.
-/
import Derived.Test.YtdjmifaidgbbaaaGreatDoorLb05
set_option linter.unusedSimpArgs false
set_option linter.unusedVariables false
namespace Go.Proofs.YtdjmifaidgbbaaaGreatDoor
open Go.RowKit

theorem cmp_any (q : Pl) (n : Int) (w : World) :
    Calls Tryz.prog 105 #[.agg #[.int .i64 (q.at' : Nat), .int .i64 (q.size : Nat), .int .i64 q.base, .int .i64 q.en, .int .i64 q.time], .int .i64 n] w fun e w' => e = .returned (.int .i64 (if q.en ≤ n then -1 else 1)) ∧ Chg Nil w w' := by
  obtain ⟨qa, qs, qb, qe, qt⟩ := q
  have HAL := Lib.hid ((Chg.refl Nil w).alloc (.cells #[.int .i64 (qa : Nat), .int .i64 (qs : Nat), .int .i64 qb, .int .i64 qe, .int .i64 qt] 157))
  have hbx : Box (w.alloc (.cells #[.int .i64 (qa : Nat), .int .i64 (qs : Nat), .int .i64 qb, .int .i64 qe, .int .i64 qt] 157)) w.heap.size [.int .i64 (qa : Nat), .int .i64 (qs : Nat), .int .i64 qb, .int .i64 qe, .int .i64 qt] 157 := Box.new _ _ _
  have y3 := hbx.cell (j := 3) rfl
  clear hbx
  by_cases h : qe ≤ n
  · have he : (if qe ≤ n then (-1 : Int) else 1) = -1 := if_pos h
    have HE := Lib.hid he
    clear he
    go_enter Tryz.func105, Tryz.ntmps105
    go_wp2_with fail
    go_ret
    exact ⟨rfl, HAL.out⟩
  · have he : (if qe ≤ n then (-1 : Int) else 1) = 1 := if_neg h
    have HE := Lib.hid he
    clear he
    go_enter Tryz.func105, Tryz.ntmps105
    go_wp2_with fail
    go_ret
    exact ⟨rfl, HAL.out⟩

/-- What the search tells. -/
def SearchAt (l : List Pl) (n : Int) (w : World) (e : Ending) (w' : World) : Prop :=
  ∃ (k : Nat) (b : Value), e = .returned (.tuple #[.int .i64 k, b]) ∧ k ≤ l.length ∧ (∀ i (h : i < l.length), i < k → l[i].en ≤ n) ∧ (∀ h : k < l.length, n < l[k].en) ∧ Chg Nil w w'

set_option maxHeartbeats 2000000 in
set_option maxRecDepth 20000 in
theorem search_any {w : World} {a : Option Addr} {c : Nat} (l : List Pl) (hn : l.length ≤ 1000000) (hcell : ∀ i (h : i < l.length), ∃ g, a = some ⟨g, 0, none⟩ ∧ ∀ j u, (l[i].cells)[j]? = some u → w.cell? ⟨g, i * 5 + j, none⟩ = some u)
    (hmono : ∀ i j (h : j < l.length) (hij : i ≤ j), (l[i]'(Nat.lt_of_le_of_lt hij h)).en ≤ l[j].en) (n : Int) :
    Calls Tryz.prog 104 #[.slice a l.length c, .int .i64 n, .func (.func 105) #[] #[]] w (SearchAt l n w) := by
  have HCELL := Lib.hid hcell
  have HM := Lib.hid hmono
  clear hcell hmono
  go_enter Tryz.func104, Tryz.ntmps104
  go_wp2_with fail
  go_loopw [9, 10] (fun iv jv wr => ∃ (wq : World) (i j : Nat), wq = wr ∧ i ≤ j ∧ j ≤ l.length ∧ iv = .int .i64 i ∧ jv = .int .i64 j ∧ Hid (∀ t (h : t < l.length), t < i → l[t].en ≤ n) ∧ Hid (∀ t (h : t < l.length), j ≤ t → n < l[t].en) ∧ Chg Nil w wr) (fun iv jv _ => (RowKit.intOf jv).toNat - (RowKit.intOf iv).toNat)
  case atStart => exact ⟨_, 0, l.length, rfl, by omega, by omega, rfl, rfl, fun t h ht => by omega, fun t h ht => by omega, Chg.refl _ _⟩
  case round =>
    obtain ⟨wr, i, j, rfl, hij, hjl, rfl, rfl, hlo, hhi, hc⟩ := hrel
    have HLO := hlo
    have HHI := hhi
    have HC := Lib.hid hc
    clear hlo hhi hc
    by_cases hlt : i < j
    · obtain ⟨m, hm⟩ : ∃ m, (i + j) / 2 = m := ⟨_, rfl⟩
      have hm1 : i ≤ m := by omega
      have hm2 : m < j := by omega
      have hml : m < l.length := by omega
      obtain ⟨b, rfl, hz⟩ := HCELL.out m hml
      obtain ⟨q, hq⟩ : ∃ q, q = l[m] := ⟨_, rfl⟩
      rw [← hq] at hz
      have HQ := Lib.hid hq
      clear hq
      have HCM := Lib.hid (fun (w' : World) => cmp_any q n w')
      obtain ⟨qa, qs, qb, qe, qt⟩ := q
      have z0 := HC.out.cell (hz 0 _ rfl) (fun h => h)
      have z1 := HC.out.cell (hz 1 _ rfl) (fun h => h)
      have z2 := HC.out.cell (hz 2 _ rfl) (fun h => h)
      have z3 := HC.out.cell (hz 3 _ rfl) (fun h => h)
      have z4 := HC.out.cell (hz 4 _ rfl) (fun h => h)
      rw [Nat.add_zero] at z0
      clear hz
      have hmi : ((i : Int) + (j : Int)) / 2 = (m : Int) := by omega
      have hw64 : wrap64 ((i : Int) + (j : Int)) = (i : Int) + (j : Int) := by unfold wrap64; omega
      by_cases hle : qe ≤ n
      · have HL := Lib.hid hle
        clear hle
        go_wp2_with fail
        refine (HCM.out _).mono ?_
        rintro e w7 ⟨rfl, hc7⟩
        have he : (if qe ≤ n then (-1 : Int) else 1) = -1 := if_pos HL.out
        rw [he]
        have HC7 := Lib.hid (HC.out.trans hc7 (fun _ h => h.elim))
        clear he hc7 z0 z1 z2 z3 z4
        go_wp2_with fail
        go_roundw
        case rel =>
          refine ⟨_, m + 1, j, rfl, by omega, hjl, by go_num, rfl, fun t h ht => ?_, HHI, HC7.out⟩
          have h1 := HM.out t m hml (by omega)
          have h2 : l[m].en ≤ n := by rw [← HQ.out]; exact HL.out
          omega
        case measure => simp [RowKit.intOf]; omega
      · have HL := Lib.hid hle
        clear hle
        go_wp2_with fail
        refine (HCM.out _).mono ?_
        rintro e w7 ⟨rfl, hc7⟩
        have he : (if qe ≤ n then (-1 : Int) else 1) = 1 := if_neg (Int.not_le.2 HL.out)
        rw [he]
        have HC7 := Lib.hid (HC.out.trans hc7 (fun _ h => h.elim))
        clear he hc7 z0 z1 z2 z3 z4
        go_wp2_with fail
        go_roundw
        case rel =>
          refine ⟨_, i, m, rfl, by omega, by omega, rfl, by go_num, HLO, fun t h ht => ?_, HC7.out⟩
          have h1 := HM.out m t h (by omega)
          have h2 : n < l[m].en := by rw [← HQ.out]; exact HL.out
          omega
        case measure => simp [RowKit.intOf]; omega
    · obtain rfl : i = j := by omega
      have hii : ¬ ((i : Int) < (i : Int)) := by omega
      clear hlt
      by_cases hil : i < l.length
      · obtain ⟨b, rfl, hz⟩ := HCELL.out i hil
        obtain ⟨q, hq⟩ : ∃ q, q = l[i] := ⟨_, rfl⟩
        rw [← hq] at hz
        have HCM := Lib.hid (fun (w' : World) => cmp_any q n w')
        obtain ⟨qa, qs, qb, qe, qt⟩ := q
        have z0 := HC.out.cell (hz 0 _ rfl) (fun h => h)
        have z1 := HC.out.cell (hz 1 _ rfl) (fun h => h)
        have z2 := HC.out.cell (hz 2 _ rfl) (fun h => h)
        have z3 := HC.out.cell (hz 3 _ rfl) (fun h => h)
        have z4 := HC.out.cell (hz 4 _ rfl) (fun h => h)
        rw [Nat.add_zero] at z0
        clear hz hq
        have hil' : (i : Int) < (l.length : Int) := by omega
        go_wp2_with fail
        refine (HCM.out _).mono ?_
        rintro e w7 ⟨rfl, hc7⟩
        have HC7 := Lib.hid (HC.out.trans hc7 (fun _ h => h.elim))
        clear hc7 z0 z1 z2 z3 z4
        obtain ⟨x, hx⟩ : ∃ x, (if qe ≤ n then (-1 : Int) else 1) = x := ⟨_, rfl⟩
        have hx0 : (x == 0) = false := by
          rw [← hx]
          split <;> rfl
        have e1 : (if (Pl.mk qa qs qb qe qt).en ≤ n then (-1 : Int) else 1) = x := hx
        rw [e1]
        clear e1 hx
        go_wp2_with fail
        go_ret2
        unfold SearchAt
        exact ⟨i, _, rfl, by omega, HLO, fun h => HHI i h (Nat.le_refl _), HC7.out⟩
      · have hil' : ¬ (i : Int) < (l.length : Int) := by omega
        go_wp2_with fail
        go_ret2
        unfold SearchAt
        exact ⟨i, _, rfl, by omega, HLO, fun h => absurd h hil, HC.out⟩
end Go.Proofs.YtdjmifaidgbbaaaGreatDoor
