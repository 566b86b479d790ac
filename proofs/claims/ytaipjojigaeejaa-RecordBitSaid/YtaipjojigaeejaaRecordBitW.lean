/-
  The walk of RecordBit.
-/
import Derived.Test.YtaipjojigaeejaaRecordedW
import Derived.Test.YtaipjojigaeejaaLast
set_option linter.unusedSimpArgs false
namespace Go.Proofs.Ytaipjojigaeejaa
open Go.RowKit

theorem numbered_ok {base : Int} {rs : List Rec} (h0 : 0 ≤ base) (h1 : base + rs.length ≤ 9223372036854775807) (h : ∀ r ∈ rs, r.Ok) : ∀ r ∈ numbered base rs, r.Ok := by
  induction rs generalizing base with
  | nil => simp [numbered]
  | cons x rs ih =>
    intro r hr
    simp only [List.length_cons] at h1
    rcases List.mem_cons.1 hr with rfl | hr
    · have hx := h x (by simp)
      exact ⟨by simp only; omega, hx.time, hx.key, hx.value⟩
    · exact ih (by omega) (by push_cast at h1; omega) (fun y hy => h y (by simp [hy])) r hr

set_option maxHeartbeats 1000000 in
set_option maxRecDepth 100000 in
theorem recordBit_in (base : Int) (a : Option Addr) (rs : List Rec) (cap : Nat) (bit : Int) (w : World) (h0 : 0 ≤ base) (h1 : base ≤ 1099511627676) (hl : rs.length ≤ 60) (hok : ∀ r ∈ rs, r.Ok) (hc : RecsAt w a rs) :
    Calls Try.prog 5 #[.int .i64 base, .slice a rs.length cap, .int .i64 bit] w fun e w' => e = .returned (.bool true) ∧ Chg Nil w w' := by
  have HOK := Lib.hid (numbered_ok h0 (by omega) hok)
  have HC := Lib.hid hc
  clear hok hc
  go_enter Try.func5, Try.ntmps5
  go_wp2_with fail
  refine (batch_any base a rs cap w ⟨h0, by omega⟩ (by omega) HC.out).mono ?_
  rintro e w1 ⟨hch1, v, rfl, hown⟩
  obtain ⟨va, vcap, rfl, hrecs, hvle⟩ := hown.recs
  have HRC := Lib.hid hrecs
  have hnl := numbered_length base rs
  have hle : (numbered base rs).length ≤ maxLen := by rw [hnl]; unfold maxLen; omega
  have HLE := Lib.hid hle
  clear hown hrecs hvle hnl hle
  go_wp2_with fail
  refine (encode_any base (base + rs.length) va (numbered base rs) vcap w1 (by omega) (by omega) HLE.out HOK.out HRC.out).mono ?_
  rintro e w2 ⟨hch2, hpost⟩
  have hch3 := hch1.trans hch2 (fun _ h => .inl h)
  have hws := hch1.size
  clear HOK HC HRC HLE hch1 hch2
  rcases hpost with ⟨hbad, rfl⟩ | ⟨hgood, v, rfl, hown, hvb⟩
  · have he : errV 50 (encErr base (base + rs.length) (numbered base rs)) = .iface 50 (.int .i64 ((encErr base (base + rs.length) (numbered base rs) : Nat) : Int)) := by unfold errV; rw [if_neg hbad]
    rw [he]
    clear he hbad
    generalize encErr base (base + rs.length) (numbered base rs) = ce at *
    go_wp2_with fail
    refine (recorded_any w2).mono ?_
    rintro e w4 ⟨rfl, hc4⟩
    go_wp2_with fail
    refine (recorded_any w4).mono ?_
    rintro e w5 ⟨rfl, hc5⟩
    go_wp2_with fail
    go_ret
    exact ⟨rfl, (hch3.trans hc4 (fun _ h => .inl h)).trans hc5 (fun _ h => .inl h)⟩
  · have HT : Hid (∀ (i : Nat) (hi : i < (encAll base (base + rs.length) (numbered base rs)).length) (d : UInt8), (encAll base (base + rs.length) (numbered base rs))[i] ≠ d → decErr ((encAll base (base + rs.length) (numbered base rs)).set i d) ≠ 0) := fun i hi d hd => turned_seen hgood hi hd
    have hlen := (decErr_enc hgood).2.1
    have h6 : 8 + (encBody base (base + rs.length) (numbered base rs)).length ≤ 6000 := by
      unfold encErr at hgood
      by_cases hc : checkB base (base + rs.length) (numbered base rs) ≠ 0
      · rw [if_pos hc] at hgood; exact absurd hgood hc
      · rw [if_neg hc] at hgood
        by_cases h6 : 6000 < 8 + (encBody base (base + rs.length) (numbered base rs)).length
        · rw [if_pos h6] at hgood; cases hgood
        · omega
    have hlo : 8 ≤ (encAll base (base + rs.length) (numbered base rs)).length := by omega
    have hhi : (encAll base (base + rs.length) (numbered base rs)).length ≤ 6000 := by omega
    clear hlen h6 hgood
    generalize encAll base (base + rs.length) (numbered base rs) = L at *
    go_wp2_with fail
    refine (recorded_any w2).mono ?_
    rintro e w4 ⟨rfl, hc4⟩
    have hch5 := hch3.trans hc4 (fun _ h => .inl h)
    have hown4 := hown.chg hc4 (fun _ _ h => h)
    obtain ⟨g, cap5, rfl, hcap5⟩ := hown4.slice (by intro h; subst h; simp at hlo)
    obtain ⟨a6, cap6, hv6, hby6, hcap6, hm6⟩ := hown4.room
    simp only [Value.slice.injEq] at hv6
    obtain ⟨rfl, _, rfl⟩ := hv6
    have hgw := hvb g rfl
    have HO := Lib.hid hown4
    clear hown4 hown hvb hch3 hc4 hby6
    go_wp2_with fail
    refine (pick_any bit (8 * L.length) w4 (by omega) (by omega)).mono ?_
    rintro e w5 ⟨rfl, rfl⟩
    have hk := pickN_lt (a := bit) (n := 8 * L.length) (by omega)
    generalize pickN bit (8 * L.length) = k at *
    go_upto_region 7 with fail
    have HR : Hid ((k : Int).tmod 8 = ((k % 8 : Nat) : Int)) := by unfold Hid; rw [Int.tmod_eq_emod_of_nonneg (by omega)]; omega
    have hs8 : k % 8 < 8 := by omega
    generalize k % 8 = s at *
    have hm8 : 2 ^ s < 256 ∧ 0 < 2 ^ s := ⟨Nat.pow_lt_pow_right (n := 8) (by omega) hs8, Nat.pow_pos (by omega)⟩
    have HM : Hid (IntKind.u8.wrap ((2 : Int) ^ s) = ((2 ^ s : Nat) : Int)) := by
      unfold Hid
      rw [IntKind.wrap_u8']
      have e : (2 : Int) ^ s = ((2 ^ s : Nat) : Int) := by push_cast; rfl
      rw [e]
      omega
    generalize 2 ^ s = m at *
    have hi : k / 8 < L.length := by omega
    have hcell := (HO.out.cell hi).1
    have hfz := (HO.out.cell hi).2
    unfold bval at hcell
    have hbyte := u8_lt L[k / 8]
    have HX : Hid (bits .xor .u8 (L[k / 8].toNat : Int) (m : Int) = ((L[k / 8].toNat ^^^ m : Nat) : Int)) := u8_xor_nat _ _ hbyte hm8.1
    have hxl : L[k / 8].toNat ^^^ m < 256 := Nat.xor_lt_two_pow (n := 8) (by omega) (by omega)
    have HB : Hid (.int .u8 ((L[k / 8].toNat ^^^ m : Nat) : Int) = bval (UInt8.ofNat (L[k / 8].toNat ^^^ m))) := (bval_nat hxl).symm
    have HNE : Hid (L[k / 8] ≠ UInt8.ofNat (L[k / 8].toNat ^^^ m)) := by
      intro e
      have e2 := congrArg UInt8.toNat e
      rw [toNat_small hxl] at e2
      have e3 : L[k / 8].toNat ^^^ 0 = L[k / 8].toNat ^^^ m := by rw [Nat.xor_zero]; exact e2
      have := xor_left_inj e3
      omega
    have hgl : g < w4.heap.size := World.block_lt_of_cell? _ _ hcell
    have HQ : Hid (IntKind.i64.wrap ((k : Int) / 8) = ((k / 8 : Nat) : Int)) := by unfold Hid; rw [IntKind.wrap_i64]; omega
    generalize hik : k / 8 = i at *
    have HIK := Lib.hid hik
    clear hik
    refine Ch.wp_region_last _ _ rfl (Chg (Nil)) [] (fun _ _ => True) (by kernel_rfl) (fun _ => Chg.refl _ _) (fun _ _ _ h k => h.trans k (fun _ h => .inl h)) [[], [], [1], [0, 2], [3], [], [5], [6], [4, 7], [0, 2]] rfl (by kernel_rfl) (by kernel_rfl) (by kernel_rfl) (Chg.refl _ _).drew ?_ ?_
    · trivial
    simp only [List.dropLast_cons_cons, List.dropLast_singleton]
    iterate 2 ((with_reducible apply Ch.Walk.eq); (case hd => rfl); (case hi => rfl); case h => (intro w2 hw2 N hN; simp only [Ch.depsOf, List.filterMap_nil, List.filterMap_cons, List.getElem?_toArray, List.getElem?_cons_zero, List.getElem?_cons_succ, Option.bind_some, List.nil_append, List.cons_append, Ch.Ob]; go_simp; (try go_bits); with_reducible exact hN _ (Chg.refl _ _) (fun _ h => h)))
    with_reducible apply Ch.Walk.eq
    case hd => rfl
    case hi => rfl
    case h =>
      intro w2 hw2 N hN
      simp only [Ch.depsOf, List.filterMap_nil, List.filterMap_cons, List.getElem?_toArray, List.getElem?_cons_zero, List.getElem?_cons_succ, Option.bind_some, List.nil_append, List.cons_append, Ch.Ob, Ch.chained_get, Option.map_some, List.idxOf?, List.findIdx?, List.findIdx?.go, Nat.reduceBEq, List.getD_cons_zero, List.getD_cons_succ, Nat.reduceAdd, if_true, if_false, Bool.false_eq_true]
      go_simp
      rw [HQ.out]
      exact hN _ (Chg.refl _ _) (fun _ h => h)
    ((with_reducible apply Ch.Walk.eq); (case hd => rfl); (case hi => rfl); case h => (intro w2 hw2 N hN; simp only [Ch.depsOf, List.filterMap_nil, List.filterMap_cons, List.getElem?_toArray, List.getElem?_cons_zero, List.getElem?_cons_succ, Option.bind_some, List.nil_append, List.cons_append, Ch.Ob]; go_simp; (try go_bits); with_reducible exact hN _ (Chg.refl _ _) (fun _ h => h)))
    ((with_reducible apply Ch.Walk.eq); (case hd => rfl); (case hi => rfl); case h => (intro w2 hw2 N hN; (have hc := hw2.cell hcell (fun h => h)); simp only [Ch.depsOf, List.filterMap_nil, List.filterMap_cons, List.getElem?_toArray, List.getElem?_cons_zero, List.getElem?_cons_succ, Option.bind_some, List.nil_append, List.cons_append, Ch.Ob]; go_simp; (try go_bits); with_reducible exact hN _ (Chg.refl _ _) (fun _ h => h)))
    ((with_reducible apply Ch.Walk.eq); (case hd => rfl); (case hi => rfl); case h => (intro w2 hw2 N hN; simp only [Ch.depsOf, List.filterMap_nil, List.filterMap_cons, List.getElem?_toArray, List.getElem?_cons_zero, List.getElem?_cons_succ, Option.bind_some, List.nil_append, List.cons_append, Ch.Ob]; go_simp; (try go_bits); with_reducible exact hN _ (Chg.refl _ _) (fun _ h => h)))
    with_reducible apply Ch.Walk.eq
    case hd => rfl
    case hi => rfl
    case h =>
      intro w2 hw2 N hN
      simp only [Ch.depsOf, List.filterMap_nil, List.filterMap_cons, List.getElem?_toArray, List.getElem?_cons_zero, List.getElem?_cons_succ, Option.bind_some, List.nil_append, List.cons_append, Ch.Ob, Ch.chained_get, Option.map_some, List.idxOf?, List.findIdx?, List.findIdx?.go, Nat.reduceBEq, List.getD_cons_zero, List.getD_cons_succ, Nat.reduceAdd, if_true, if_false, Bool.false_eq_true]
      go_simp
      rw [HR.out]
      exact hN _ (Chg.refl _ _) (fun _ h => h)
    with_reducible apply Ch.Walk.eq
    case hd => rfl
    case hi => rfl
    case h =>
      intro w2 hw2 N hN
      simp only [Ch.depsOf, List.filterMap_nil, List.filterMap_cons, List.getElem?_toArray, List.getElem?_cons_zero, List.getElem?_cons_succ, Option.bind_some, List.nil_append, List.cons_append, Ch.Ob, Ch.chained_get, Option.map_some, List.idxOf?, List.findIdx?, List.findIdx?.go, Nat.reduceBEq, List.getD_cons_zero, List.getD_cons_succ, Nat.reduceAdd, if_true, if_false, Bool.false_eq_true]
      go_simp
      rw [HM.out]
      exact hN _ (Chg.refl _ _) (fun _ h => h)
    with_reducible apply Ch.Walk.eq
    case hd => rfl
    case hi => rfl
    case h =>
      intro w2 hw2 N hN
      simp only [Ch.depsOf, List.filterMap_nil, List.filterMap_cons, List.getElem?_toArray, List.getElem?_cons_zero, List.getElem?_cons_succ, Option.bind_some, List.nil_append, List.cons_append, Ch.Ob, Ch.chained_get, Option.map_some, List.idxOf?, List.findIdx?, List.findIdx?.go, Nat.reduceBEq, List.getD_cons_zero, List.getD_cons_succ, Nat.reduceAdd, if_true, if_false, Bool.false_eq_true]
      go_simp
      rw [HX.out]
      exact hN _ (Chg.refl _ _) (fun _ h => h)
    ((with_reducible apply Ch.Walk.eq); (case hd => rfl); (case hi => rfl); case h => (intro w2 hw2 N hN; simp only [Ch.depsOf, List.filterMap_nil, List.filterMap_cons, List.getElem?_toArray, List.getElem?_cons_zero, List.getElem?_cons_succ, Option.bind_some, List.nil_append, List.cons_append, Ch.Ob]; go_simp; (try go_bits); with_reducible exact hN _ (Chg.refl _ _) (fun _ h => h)))
    intro w6 hw6
    simp only [List.nil_append, List.cons_append, Ch.Fin, List.map_cons, List.map_nil, List.getD_cons_zero, List.getD_cons_succ]
    intro hF
    simp only [Ch.Then, Oper.wp]
    have hfz6 : w6.frozen? ⟨g, i, none⟩ = false := (hw6.frozen (a := ⟨g, i, none⟩) hgl (fun h => h)).trans hfz
    have hc6 := hw6.cell hcell (fun h => h)
    go_simp
    have hown7 := (HO.out.chg hw6 (fun _ _ h => h)).set (i := i) (UInt8.ofNat (L[i].toNat ^^^ m))
    rw [← HB.out] at hown7
    have hch7 : Chg Nil w (w6.setCell ⟨g, i, none⟩ (.int .u8 ((L[i].toNat ^^^ m : Nat) : Int))) := by
      refine (hch5.trans hw6 (fun _ h => .inl h)).setCell (.inr ?_) _
      exact Nat.le_trans hws hgw
    have hD0 := HT.out i hi (UInt8.ofNat (L[i].toNat ^^^ m)) HNE.out
    obtain ⟨a7, cap7, hv7, hby7, _, _⟩ := hown7.room
    simp only [Value.slice.injEq] at hv7
    obtain ⟨rfl, hl7, rfl⟩ := hv7
    have hdec := decode_any (some ⟨g, 0, none⟩) (L.set i (UInt8.ofNat (L[i].toNat ^^^ m))) cap5 _ (by rw [← hl7]; exact hcap5) hm6 hby7
    rw [← hl7] at hdec
    have HDEC := Lib.hid hdec
    have HD0 := Lib.hid hD0
    clear hdec hD0 hl7 hby7 hown7 hc6 hfz6 hw6 HT HX HB HNE hcell hfz
    generalize (w6.setCell ⟨g, i, none⟩ (.int .u8 ((L[i].toNat ^^^ m : Nat) : Int))) = w7 at *
    go_wp2_with fail
    refine HDEC.out.mono ?_
    rintro e w8 ⟨hch8, hpost⟩
    rcases hpost with ⟨hbad, he⟩ | ⟨hgood, _⟩
    · have he2 : errV 50 (decErr (L.set i (UInt8.ofNat (L[i].toNat ^^^ m)))) = .iface 50 (.int .i64 ((decErr (L.set i (UInt8.ofNat (L[i].toNat ^^^ m))) : Nat) : Int)) := by unfold errV; rw [if_neg hbad]
      rw [he2] at he
      subst he
      clear he2 hbad
      generalize decErr (L.set i (UInt8.ofNat (L[i].toNat ^^^ m))) = ce at *
      go_wp2_with fail
      go_ret
      exact ⟨rfl, hch7.trans hch8 (fun _ h => .inl h)⟩
    · exact absurd hgood HD0.out

set_option maxRecDepth 100000 in
theorem recordBit_any (base : Int) (a : Option Addr) (rs : List Rec) (cap : Nat) (bit : Int) (w : World) (hl : rs.length ≤ maxLen) (hok : ∀ r ∈ rs, r.Ok) (hc : RecsAt w a rs) :
    Calls Try.prog 5 #[.int .i64 base, .slice a rs.length cap, .int .i64 bit] w fun e w' => e = .returned (.bool true) ∧ Chg Nil w w' := by
  by_cases h0 : base < 0
  · go_enter Try.func5, Try.ntmps5
    go_wp2_with fail
    go_ret
    exact ⟨rfl, Chg.refl _ _⟩
  · by_cases h1 : 1099511627676 < base
    · go_enter Try.func5, Try.ntmps5
      go_wp2_with fail
      go_ret
      exact ⟨rfl, Chg.refl _ _⟩
    · by_cases h2 : 60 < rs.length
      · unfold maxLen at hl
        go_enter Try.func5, Try.ntmps5
        go_wp2_with fail
        go_ret
        exact ⟨rfl, Chg.refl _ _⟩
      · exact recordBit_in base a rs cap bit w (by omega) (by omega) (by omega) hok hc
end Go.Proofs.Ytaipjojigaeejaa
