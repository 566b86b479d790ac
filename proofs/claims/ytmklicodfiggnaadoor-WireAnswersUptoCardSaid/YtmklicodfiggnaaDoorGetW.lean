/-
  The walks of Get (the program's and the document's).
-/
import Derived.Test.YtmklicodfiggnaaDoorNumW
import Derived.Test.YtmklicodfiggnaaDoorMono
import Derived.BigQuiet
import Derived.Deep.QuietTactic
import Derived.Outline
import Derived.Deep.RegionWith
import Derived.RegionTactic
namespace Go.Proofs.YtmklicodfiggnaaDoor
open Go.RowKit

theorem i64_or_nat (a b : Nat) (ha : a < 4611686018427387904) (hb : b < 4611686018427387904) : bits .or .i64 (a : Int) (b : Int) = ((a ||| b : Nat) : Int) := by
  have hor : a ||| b < 2 ^ 62 := Nat.or_lt_two_pow (by omega) (by omega)
  show IntKind.i64.wrap ((BitVec.ofInt 64 (a : Int) ||| BitVec.ofInt 64 (b : Int)).toNat : Nat) = _
  rw [BitVec.toNat_or, BitVec.ofInt_natCast, BitVec.ofInt_natCast, BitVec.toNat_ofNat, BitVec.toNat_ofNat, Nat.mod_eq_of_lt (by omega), Nat.mod_eq_of_lt (by omega)]
  generalize a ||| b = x at *
  rw [IntKind.wrap_i64]
  omega

theorem wrap64_nat {x : Nat} (h : x < 9223372036854775808) : wrap64 (x : Int) = (x : Int) := by
  unfold wrap64; omega

theorem or7 {n c k : Nat} (hn : n < 128 ^ k) (hc : c < 256) (hk : k ≤ 5) :
    bits .or .i64 (n : Int) (wrap64 (wrap64 (bits .and .u8 (c : Int) 127) * 2 ^ (7 * k))) = ((n + c % 128 * 128 ^ k : Nat) : Int) := by
  have h1 : bits .and .u8 (c : Int) 127 = ((c % 128 : Nat) : Int) := by
    rw [u8_and _ _ (by omega) (by omega) (by omega) (by omega), Int.toNat_natCast]
    have : (127 : Int).toNat = 2 ^ 7 - 1 := by decide
    rw [this, Nat.and_two_pow_sub_one_eq_mod]
  have e7 : (128 : Nat) ^ k = 2 ^ (7 * k) := by rw [Nat.pow_mul]
  have e7i : (2 : Int) ^ (7 * k) = ((128 ^ k : Nat) : Int) := by rw [e7]; norm_cast
  have hor : n ||| (c % 128 * 128 ^ k) = n + c % 128 * 128 ^ k := by
    rw [Nat.or_comm, Nat.add_comm, Nat.mul_comm, e7, ← Nat.two_pow_add_eq_or_of_lt (by rw [← e7]; exact hn)]
  have hp : (128 : Nat) ^ k ≤ 34359738368 := Nat.le_trans (Nat.pow_le_pow_right (by omega) hk) (by decide)
  rw [h1, e7i]
  clear e7 e7i h1
  generalize 128 ^ k = p at *
  have hx : c % 128 < 128 := Nat.mod_lt _ (by omega)
  generalize c % 128 = x at *
  have hm : x * p ≤ 127 * 34359738368 := Nat.mul_le_mul (by omega) hp
  rw [wrap64_nat (by omega), ← Int.natCast_mul, wrap64_nat (by omega), ← hor]
  exact i64_or_nat _ _ (by omega) (by omega)

set_option maxRecDepth 100000 in
theorem get_any (a : Option Addr) (l : List UInt8) (cap : Nat) (w : World) (hl : l.length ≤ maxLen) (hc : BytesAt w a l) :
    Calls Tryd.prog 57 #[.slice a l.length cap] w fun e w' => e = .returned (.tuple #[.int .i64 (get l).1, .int .i64 (get l).2]) ∧ w = w' := by
  unfold maxLen at hl
  go_enter Tryd.func57, Tryd.ntmps57
  go_wp2
  go_loop [2, 8] (fun v i => ∃ k : Nat, k ≤ l.length ∧ k ≤ 6 ∧ i = .int .i64 k ∧ v = .int .i64 (val (l.take k) : Nat) ∧ Hid (getAt l (6 - k) k = get l) ∧ Hid (∀ x ∈ l.take k, 128 ≤ x.toNat)) (fun _ i => l.length - (intOf i).toNat)
  case atStart => exact ⟨0, by omega, by omega, rfl, rfl, rfl, by intro x hx; simp at hx⟩
  case round =>
    obtain ⟨k, hk, hk6, rfl, rfl, HG, HH⟩ := hrel
    by_cases hlt : k < l.length
    · obtain ⟨b, off, rfl, hcell⟩ := hc k hlt
      clear hc
      unfold bval at hcell
      by_cases h5 : 5 < k
      · have HZ : Hid (get l = (0, 0)) := by
          have : 6 - k = 0 := by omega
          rw [← HG.out, this]; rfl
        go_wp2_with fail
        go_ret2
        exact ⟨by rw [HZ.out]; rfl, rfl⟩
      · have hc8 := u8_lt' l[k]
        have hv := val_lt (l.take k)
        rw [List.length_take, Nat.min_eq_left hk] at hv
        have hor := or7 hv hc8 (by omega)
        have hs : l.take (k + 1) = l.take k ++ [l[k]] := take_snoc l k hlt
        have hvs := val_snoc (l.take k) l[k]
        rw [← hs, List.length_take, Nat.min_eq_left hk] at hvs
        rw [← hvs] at hor
        have HE : Hid (∀ (_ : l[k].toNat < 128) (_ : l[k] = 0 ∧ 0 < k ∨ 1099511627776 < val (l.take (k + 1))), get l = (0, 0)) := by
          intro h1 h2
          rw [← HG.out, show 6 - k = (5 - k) + 1 by omega, getAt_end hlt h1 h2]
        have HO : Hid (∀ (_ : l[k].toNat < 128) (_ : ¬ (l[k] = 0 ∧ 0 < k ∨ 1099511627776 < val (l.take (k + 1)))), get l = (val (l.take (k + 1)), k + 1)) := by
          intro h1 h2
          rw [← HG.out, show 6 - k = (5 - k) + 1 by omega, getAt_ok hlt h1 h2]
        have HN : Hid (¬ l[k].toNat < 128 → getAt l (6 - (k + 1)) (k + 1) = get l) := by
          intro h1
          rw [← HG.out, show 6 - k = (5 - k) + 1 by omega, getAt_on hlt h1, show 6 - (k + 1) = 5 - k by omega]
        have HS : Hid (l.take (k + 1) = l.take k ++ [l[k]]) := hs
        clear hvs hs
        have hz : (l[k] = 0) ↔ l[k].toNat = 0 := by rw [← UInt8.toNat_inj]; rfl
        have HZ := Lib.hid hz
        clear hz
        generalize l[k] = c at *
        by_cases hc1 : c.toNat < 128
        · generalize val (l.take (k + 1)) = m at *
          generalize val (l.take k) = n at *
          by_cases h0 : c.toNat = 0
          · have hb : ((c.toNat : Int) == 0) = true := by rw [h0]; rfl
            have H0 := Lib.hid h0
            clear h0
            by_cases hk0 : 0 < k
            · have HR : Hid (get l = (0, 0)) := HE.out hc1 (.inl ⟨HZ.out.2 H0.out, hk0⟩)
              go_wp2_with fail
              go_ret2
              exact ⟨by rw [HR.out]; rfl, rfl⟩
            · by_cases hm : 1099511627776 < m
              · have HR : Hid (get l = (0, 0)) := HE.out hc1 (.inr hm)
                go_wp2_with fail
                go_ret2
                exact ⟨by rw [HR.out]; rfl, rfl⟩
              · have HR : Hid (get l = (m, k + 1)) := HO.out hc1 (fun h => h.elim (fun h => hk0 h.2) hm)
                go_wp2_with fail
                go_ret2
                exact ⟨by rw [HR.out]; rfl, rfl⟩
          · have hb : ((c.toNat : Int) == 0) = false := by simp; omega
            by_cases hm : 1099511627776 < m
            · have HR : Hid (get l = (0, 0)) := HE.out hc1 (.inr hm)
              go_wp2_with fail
              go_ret2
              exact ⟨by rw [HR.out]; rfl, rfl⟩
            · have HR : Hid (get l = (m, k + 1)) := HO.out hc1 (fun h => h.elim (fun h => h0 (HZ.out.1 h.1)) hm)
              go_wp2_with fail
              go_ret2
              exact ⟨by rw [HR.out]; rfl, rfl⟩
        · go_wp2_with fail
          all_goals
            go_round
            case rel => exact ⟨k + 1, by omega, by omega, by go_num, rfl, HN.out hc1, by
              intro x hx
              rw [HS.out] at hx
              rcases List.mem_append.1 hx with hx | hx
              · exact HH.out x hx
              · simp only [List.mem_singleton] at hx; subst hx; omega⟩
            case measure => simp [intOf]; omega
    · have HZ : Hid (get l = (0, 0)) := by rw [← HG.out, getAt_none (by omega)]; rfl
      go_wp2
      go_ret2
      exact ⟨by rw [HZ.out]; rfl, rfl⟩

theorem sum7 {n c k : Nat} (hn : n < 128 ^ k) (hk : k ≤ 5) :
    wrap64 ((n : Int) + wrap64 ((c : Int) % 128 * ((128 ^ k : Nat) : Int))) = ((n + c % 128 * 128 ^ k : Nat) : Int) := by
  have hp : (128 : Nat) ^ k ≤ 34359738368 := Nat.le_trans (Nat.pow_le_pow_right (by omega) hk) (by decide)
  generalize 128 ^ k = p at *
  have e : (c : Int) % 128 = ((c % 128 : Nat) : Int) := by omega
  have hx : c % 128 < 128 := Nat.mod_lt _ (by omega)
  rw [e]
  generalize c % 128 = x at *
  have hm : x * p ≤ 127 * 34359738368 := Nat.mul_le_mul (by omega) hp
  rw [← Int.natCast_mul, wrap64_nat (by omega), ← Int.natCast_add, wrap64_nat (by omega)]
theorem pow7 {k : Nat} (hk : k ≤ 5) : wrap64 (((128 ^ k : Nat) : Int) * 128) = ((128 ^ (k + 1) : Nat) : Int) := by
  have hp : (128 : Nat) ^ k ≤ 34359738368 := Nat.le_trans (Nat.pow_le_pow_right (by omega) hk) (by decide)
  rw [Nat.pow_succ]
  generalize 128 ^ k = p at *
  unfold wrap64
  omega

set_option maxRecDepth 100000 in
theorem refGet_any (a : Option Addr) (l : List UInt8) (cap : Nat) (w : World) (hl : l.length ≤ maxLen) (hcap : l.length ≤ cap) (hc : BytesAt w a l) :
    Calls Tryd.prog 55 #[.slice a l.length cap] w fun e w' => e = .returned (.tuple #[.int .i64 (get l).1, .int .i64 (get l).2]) ∧ Chg Nil w w' := by
  unfold maxLen at hl
  go_enter Tryd.func55, Tryd.ntmps55
  go_wp2
  go_loop [4, 5, 6] (fun v t i => ∃ k : Nat, k ≤ l.length ∧ k ≤ 6 ∧ i = .int .i64 k ∧ v = .int .i64 (val (l.take k) : Nat) ∧ t = .int .i64 (128 ^ k : Nat) ∧ Hid (getAt l (6 - k) k = get l) ∧ Hid (∀ x ∈ l.take k, 128 ≤ x.toNat)) (fun _ _ i => l.length - (intOf i).toNat)
  case atStart => exact ⟨0, by omega, by omega, rfl, rfl, rfl, rfl, by intro x hx; simp at hx⟩
  case round =>
    obtain ⟨k, hk, hk6, rfl, rfl, rfl, HG, HH⟩ := hrel
    by_cases hlt : k < l.length ∧ k < 6
    · obtain ⟨hlt, h5⟩ := hlt
      obtain ⟨b, off, rfl, hcell⟩ := hc k hlt
      unfold bval at hcell
      have HC := Lib.hid hc
      clear hc
      have hc8 := u8_lt' l[k]
      have hv := val_lt (l.take k)
      rw [List.length_take, Nat.min_eq_left hk] at hv
      have hs : l.take (k + 1) = l.take k ++ [l[k]] := take_snoc l k hlt
      have hvs := val_snoc (l.take k) l[k]
      rw [← hs, List.length_take, Nat.min_eq_left hk] at hvs
      have hsum : wrap64 (((val (l.take k) : Nat) : Int) + wrap64 ((l[k].toNat : Int) % 128 * ((128 ^ k : Nat) : Int))) = ((val (l.take (k + 1)) : Nat) : Int) := by
        rw [hvs]; exact sum7 hv (by omega)
      have hpw : wrap64 (((128 ^ k : Nat) : Int) * 128) = ((128 ^ (k + 1) : Nat) : Int) := pow7 (by omega)
      have HE : Hid (∀ (_ : l[k].toNat < 128) (_ : l[k] = 0 ∧ 0 < k ∨ 1099511627776 < val (l.take (k + 1))), get l = (0, 0)) := by
        intro h1 h2
        rw [← HG.out, show 6 - k = (5 - k) + 1 by omega, getAt_end hlt h1 h2]
      have HO : Hid (∀ (_ : l[k].toNat < 128) (_ : ¬ (l[k] = 0 ∧ 0 < k ∨ 1099511627776 < val (l.take (k + 1)))), get l = (val (l.take (k + 1)), k + 1)) := by
        intro h1 h2
        rw [← HG.out, show 6 - k = (5 - k) + 1 by omega, getAt_ok hlt h1 h2]
      have HN : Hid (¬ l[k].toNat < 128 → getAt l (6 - (k + 1)) (k + 1) = get l) := by
        intro h1
        rw [← HG.out, show 6 - k = (5 - k) + 1 by omega, getAt_on hlt h1, show 6 - (k + 1) = 5 - k by omega]
      have HS : Hid (l.take (k + 1) = l.take k ++ [l[k]]) := hs
      have HP : Hid (l[k].toNat < 128 → (put (val (l.take (k + 1))) = l.take (k + 1) ↔ ¬ (l[k] = 0 ∧ 0 < k))) := by
        intro h1
        have := put_snoc_iff HH.out h1
        rw [List.length_take, Nat.min_eq_left hk] at this
        rw [hs]; exact this
      clear hvs hs hv
      have hlk : k + 1 ≤ l.length := by omega
      have HT : Hid ((l.take (k + 1)).length = k + 1) := by unfold Hid; rw [List.length_take]; omega
      have HB : Hid (BytesAt w (some ⟨b, off, none⟩) (l.take (k + 1))) := by
        intro i hi
        rw [List.length_take] at hi
        obtain ⟨b2, off2, h1, h2⟩ := HC.out i (by omega)
        exact ⟨b2, off2, h1, by rw [h2, List.getElem_take]⟩
      generalize hq : l.take (k + 1) = q at *
      generalize hm : val q = m at *
      generalize hw : 128 ^ (k + 1) = p1 at *
      generalize 128 ^ k = p at *
      generalize val (l.take k) = n at *
      generalize l[k] = c at *
      have HQ := Lib.hid hq
      have HM := Lib.hid hm
      have HW := Lib.hid hw
      clear hq hm hw
      by_cases hc1 : c.toNat < 128
      · by_cases hmx : 1099511627776 < m
        · have HR : Hid (get l = (0, 0)) := HE.out hc1 (.inr hmx)
          have hd : decide ((1099511627776 : Int) < (m : Int)) = true := by simp; omega
          go_wp2_with fail
          go_quiet (fail)
          go_wp2
          go_ret2
          exact ⟨by rw [HR.out]; rfl, (Chg.refl _ _).drewN _⟩
        · have hd : decide ((1099511627776 : Int) < (m : Int)) = false := by simp; omega
          go_wp2_with fail
          refine wp_region_mono _ (Chg Nil) (by kernel_rfl) (fun _ _ _ h k => h.trans k (fun _ h => h.elim)) [[], [0], [1], [2], [2, 3], [2, 4], [2], [2], [2, 7], [2, 6, 8], [2, 9], [2, 5, 10], [2, 11]] rfl (by kernel_rfl) (Chg.refl _ _).drew ?_
          have hk1 : IntKind.i64.wrap ((k : Int) + 1) = (k : Int) + 1 := IntWalk.i64_in _ (by omega)
          have hk2 : 0 ≤ (k : Int) + 1 := by omega
          have hk3 : ((k : Int) + 1).toNat = k + 1 := by omega
          have hk4 : (k : Int) + 1 ≤ (cap : Int) := by omega
          repeat (apply Walk.eq; case h => (intro w2 hw2 N hN; simp only [depsOf, List.filterMap_nil, List.filterMap_cons, List.getElem?_toArray, List.getElem?_cons_zero, List.getElem?_cons_succ, Option.bind_some, List.nil_append, List.cons_append, Ob]; go_simp; exact hN _ (Chg.refl _ _)))
          refine Walk.sat (IsB (put m)) (fun _ _ _ h k => h.chg k) rfl ?_ ?_
          · intro w2 hw2 N hN
            simp only [depsOf, List.filterMap_nil, List.filterMap_cons, List.getElem?_toArray, List.getElem?_cons_zero, List.getElem?_cons_succ, Option.bind_some, List.nil_append, List.cons_append, Ob]
            go_simp
            refine (refPut_any 5 m w2 (by omega) (by omega)).mono ?_
            rintro e w3 ⟨v, rfl, hown, hchg, _⟩
            exact ⟨v, rfl, hN v w3 hown.isB hchg⟩
          apply Walk.eq
          case h =>
            intro w2 hw2 N hN
            simp only [depsOf, List.filterMap_nil, List.filterMap_cons, List.getElem?_toArray, List.getElem?_cons_zero, List.getElem?_cons_succ, Option.bind_some, List.nil_append, List.cons_append, Ob]
            rintro v ⟨a1, cap1, rfl, hb1⟩
            have hcv := conv_bytes (dst := 9) Tryd.underlying25 Tryd.underlying5 Tryd.underlying9 hb1 cap1
            go_simp
            exact hN _ (Chg.refl _ _)
          repeat (apply Walk.eq; case h => (intro w2 hw2 N hN; simp only [depsOf, List.filterMap_nil, List.filterMap_cons, List.getElem?_toArray, List.getElem?_cons_zero, List.getElem?_cons_succ, Option.bind_some, List.nil_append, List.cons_append, Ob]; go_simp; exact hN _ (Chg.refl _ _)))
          apply Walk.eq
          case h =>
            intro w2 hw2 N hN
            have hcv := conv_bytes (dst := 9) Tryd.underlying25 Tryd.underlying5 Tryd.underlying9 (hw2.bytesAt HB.out (fun _ _ h => h)) cap
            rw [HT.out] at hcv
            simp only [depsOf, List.filterMap_nil, List.filterMap_cons, List.getElem?_toArray, List.getElem?_cons_zero, List.getElem?_cons_succ, Option.bind_some, List.nil_append, List.cons_append, Ob]
            go_simp
            exact hN _ (Chg.refl _ _)
          repeat (apply Walk.eq; case h => (intro w2 hw2 N hN; simp only [depsOf, List.filterMap_nil, List.filterMap_cons, List.getElem?_toArray, List.getElem?_cons_zero, List.getElem?_cons_succ, Option.bind_some, List.nil_append, List.cons_append, Ob]; go_simp; exact hN _ (Chg.refl _ _)))
          intro w2 hw2
          simp only [List.nil_append, List.cons_append, Fin]
          intro v hv
          go_simp
          clear hk1 hk2 hk3 hk4
          have hch : Chg Nil w w2 := hw2
          by_cases hz : c = 0 ∧ 0 < k
          · have HR : Hid (get l = (0, 0)) := HE.out hc1 (.inl hz)
            have hb : (put m == q) = false := by
              rw [beq_eq_false_iff_ne]; exact fun e => ((HP.out hc1).1 e) hz
            simp only [hb, Bool.not_false]
            clear hb
            go_wp2
            go_ret2
            exact ⟨by rw [HR.out]; rfl, hch⟩
          · have HR : Hid (get l = (m, k + 1)) := HO.out hc1 (fun h => h.elim hz hmx)
            have hb : (put m == q) = true := by rw [beq_iff_eq]; exact (HP.out hc1).2 hz
            simp only [hb, Bool.not_true]
            clear hz hb
            go_wp2
            go_ret2
            exact ⟨by rw [HR.out]; rfl, hch⟩
      · go_wp2_with fail
        all_goals
          go_round
          case rel => exact ⟨k + 1, by omega, by omega, by go_num, by rw [hsum, HQ.out, HM.out], by rw [hpw, HW.out], HN.out hc1, by
            intro x hx
            rw [HQ.out, HS.out] at hx
            rcases List.mem_append.1 hx with hx | hx
            · exact HH.out x hx
            · simp only [List.mem_singleton] at hx; subst hx; omega⟩
          case measure => simp [intOf]; omega
    · have HZ : Hid (get l = (0, 0)) := by
        rw [← HG.out]
        by_cases h6 : k = 6
        · subst h6; rfl
        · exact getAt_none (by omega)
      by_cases hl1 : k < l.length
      · have h6 : ¬ k < 6 := fun h => hlt ⟨hl1, h⟩
        clear hlt
        go_wp2
        go_ret2
        exact ⟨by rw [HZ.out]; rfl, Chg.refl _ _⟩
      · clear hlt
        go_wp2
        go_ret2
        exact ⟨by rw [HZ.out]; rfl, Chg.refl _ _⟩
end Go.Proofs.YtmklicodfiggnaaDoor
