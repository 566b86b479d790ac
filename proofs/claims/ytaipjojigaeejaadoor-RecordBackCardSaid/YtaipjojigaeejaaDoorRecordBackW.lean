/-
  The walk of RecordBack.
-/
import Derived.Test.YtaipjojigaeejaaDoorRecordedW
import Derived.Test.YtaipjojigaeejaaDoorBareW
namespace Go.Proofs.YtaipjojigaeejaaDoor
open Go.RowKit

/-- What stands behind a batch's bytes is not looked at; and less than all of them is not whole. -/
theorem back_more {base en : Int} {rs : List Rec} (h : encErr base en rs = 0) (more : List UInt8) :
    decErr (encAll base en rs ++ more) = 0 ∧ fromB (encAll base en rs ++ more) = (encAll base en rs).length ∧ (encAll base en rs ++ more).take (fromB (encAll base en rs ++ more)) = encAll base en rs := by
  obtain ⟨h0, hl, hf, hp⟩ := decErr_enc h
  have hlo : 8 ≤ (encAll base en rs).length := by omega
  have hfm : fromB (encAll base en rs ++ more) = fromB (encAll base en rs) := by
    have hg : ∀ j, j < 4 → (encAll base en rs ++ more).getD j 0 = (encAll base en rs).getD j 0 := by
      intro j hj
      simp only [List.getD_eq_getElem?_getD, List.getElem?_append_left (show j < (encAll base en rs).length by omega)]
    rw [fromB_eq, fromB_eq, hg 0 (by omega), hg 1 (by omega), hg 2 (by omega), hg 3 (by omega)]
  have hfl : fromB (encAll base en rs) = (encAll base en rs).length := by omega
  have hd4 : fromB ((encAll base en rs ++ more).drop 4) = fromB ((encAll base en rs).drop 4) := by
    have hg : ∀ j, j < 4 → ((encAll base en rs ++ more).drop 4).getD j 0 = ((encAll base en rs).drop 4).getD j 0 := by
      intro j hj
      simp only [List.getD_eq_getElem?_getD, List.getElem?_drop, List.getElem?_append_left (show 4 + j < (encAll base en rs).length by omega)]
    rw [fromB_eq, fromB_eq, hg 0 (by omega), hg 1 (by omega), hg 2 (by omega), hg 3 (by omega)]
  have ht : (encAll base en rs ++ more).take (fromB (encAll base en rs ++ more)) = encAll base en rs := by
    rw [hfm, hfl]; exact List.take_left' rfl
  refine ⟨?_, by rw [hfm, hfl], ht⟩
  have h0' := h0
  unfold decErr at h0' ⊢
  rw [ht, hd4, hfm]
  rw [List.take_of_length_le (by omega)] at h0'
  by_cases g1 : (encAll base en rs).length < 8
  · omega
  rw [if_neg g1] at h0'
  rw [if_neg (by rw [List.length_append]; omega)]
  by_cases g2 : fromB (encAll base en rs) < 11 ∨ 6000 < fromB (encAll base en rs)
  · rw [if_pos g2] at h0'; cases h0'
  rw [if_neg g2] at h0' ⊢
  rw [if_neg (by omega)] at h0'
  rw [if_neg (by rw [List.length_append]; omega)]
  exact h0'
theorem back_less {base en : Int} {rs : List Rec} (h : encErr base en rs = 0) {k : Nat} (hk : k < (encAll base en rs).length) : decErr ((encAll base en rs).take k) = 12 := by
  obtain ⟨h0, hl, hf, hp⟩ := decErr_enc h
  have hlen : ((encAll base en rs).take k).length = k := by rw [List.length_take]; omega
  unfold decErr
  by_cases g1 : k < 8
  · rw [if_pos (by omega)]
  · rw [if_neg (by omega)]
    have hfm : fromB ((encAll base en rs).take k) = fromB (encAll base en rs) := by
      have hg : ∀ j, j < 4 → ((encAll base en rs).take k).getD j 0 = (encAll base en rs).getD j 0 := by
        intro j hj
        simp only [List.getD_eq_getElem?_getD, List.getElem?_take, if_pos (show j < k by omega)]
      rw [fromB_eq, fromB_eq, hg 0 (by omega), hg 1 (by omega), hg 2 (by omega), hg 3 (by omega)]
    rw [hfm]
    have g2 : ¬ (fromB (encAll base en rs) < 11 ∨ 6000 < fromB (encAll base en rs)) := by
      intro g
      unfold decErr at h0
      rw [if_neg (by omega), if_pos g] at h0
      cases h0
    rw [if_neg g2, if_pos (by omega)]

theorem numbered_ok' {base : Int} {rs : List Rec} (h0 : 0 ≤ base) (h1 : base + rs.length ≤ 9223372036854775807) (h : ∀ r ∈ rs, r.Ok) : ∀ r ∈ numbered base rs, r.Ok := by
  induction rs generalizing base with
  | nil => simp [numbered]
  | cons x rs ih =>
    intro r hr
    simp only [List.length_cons] at h1
    rcases List.mem_cons.1 hr with rfl | hr
    · have hx := h x (by simp)
      exact ⟨by simp only; omega, hx.time, hx.key, hx.value⟩
    · exact ih (by omega) (by push_cast at h1; omega) (fun y hy => h y (by simp [hy])) r hr

set_option maxHeartbeats 1000000 in
set_option maxRecDepth 100000 in
theorem recordBack_in (base : Int) (a : Option Addr) (rs : List Rec) (cap : Nat) (ma : Option Addr) (more : List UInt8) (mcap : Nat) (cut : Int) (w : World) (hgl : Handle w) (h0 : 0 ≤ base) (h1 : base ≤ 1099511627676) (hl : rs.length ≤ 60) (hml : more.length ≤ 2000)
    (hok : ∀ r ∈ rs, r.Ok) (hc : RecsAt w a rs) (hmb : BytesAt w ma more) :
    Calls Tryd.prog 6 #[.int .i64 base, .slice a rs.length cap, .slice ma more.length mcap, .int .i64 cut] w fun e w' => e = .returned (.bool true) ∧ Chg Nil w w' := by
  have HOK := Lib.hid (numbered_ok' h0 (by omega) hok)
  have HC := Lib.hid hc
  have HM := Lib.hid hmb
  clear hok hc hmb
  go_enter Tryd.func6, Tryd.ntmps6
  go_wp2_with fail
  refine (batch_any base a rs cap w ⟨h0, by omega⟩ (by omega) HC.out).mono ?_
  rintro e w1 ⟨hch1, v, rfl, hown⟩
  obtain ⟨va, vcap, rfl, hrecs, hvle⟩ := hown.recs
  have hnl := numbered_length base rs
  have hle : (numbered base rs).length ≤ maxLen := by rw [hnl]; unfold maxLen; omega
  have HLE := Lib.hid hle
  have HNL := Lib.hid hnl
  have hx : Box (w1.alloc (.cells #[.int .i64 base, .int .i64 (base + rs.length), .slice va (numbered base rs).length vcap] 24)) w1.heap.size [.int .i64 base, .int .i64 (base + rs.length), .slice va (numbered base rs).length vcap] 24 := Box.new _ _ _
  have hal := (Chg.refl Nil w1).alloc (.cells #[.int .i64 base, .int .i64 (base + rs.length), .slice va (numbered base rs).length vcap] 24)
  have hrc1 := hrecs.chg hal (fun _ _ h => h)
  have HRC := Lib.hid hrc1
  have hch2 := hch1.trans hal (fun _ h => .inl h)
  clear hown hrecs hvle hnl hle hrc1 hal
  go_wp2_with fail
  have c0 := hx.cell (j := 0) rfl
  have c1 := hx.cell (j := 1) rfl
  have c2 := hx.cell (j := 2) rfl
  refine (encode_any base (base + rs.length) va (numbered base rs) vcap _ (by omega) (by omega) HLE.out HOK.out HRC.out).mono ?_
  rintro e w2 ⟨hch3, hpost⟩
  have hch4 := hch2.trans hch3 (fun _ h => .inl h)
  have hx2 := hx.chg hch3 (fun h => h)
  have HRC2 := Lib.hid (HRC.out.chg hch3 (fun _ _ h => h))
  have hws : w.heap.size ≤ w1.heap.size := hch1.size
  have hwz : w1.heap.size + 1 ≤ w2.heap.size := by have := hch3.size; simp at this; omega
  clear HOK HC HLE hch1 hch2 hx HRC c0 c1 c2
  rcases hpost with ⟨hbad, rfl⟩ | ⟨hgood, v, rfl, hown, hvb⟩
  · have he : errV 29 (encErr base (base + rs.length) (numbered base rs)) = .iface 29 (.int .i64 ((encErr base (base + rs.length) (numbered base rs) : Nat) : Int)) := by unfold errV; rw [if_neg hbad]
    rw [he]
    clear he hbad
    generalize encErr base (base + rs.length) (numbered base rs) = ce at *
    clear hch3
    go_wp2_with fail
    refine (recorded_any w2).mono ?_
    rintro e w4 ⟨rfl, hc4⟩
    go_wp2_with fail
    refine (recorded_any w4).mono ?_
    rintro e w5 ⟨rfl, hc5⟩
    go_wp2_with fail
    go_ret
    exact ⟨rfl, (hch4.trans hc4 (fun _ h => .inl h)).trans hc5 (fun _ h => .inl h)⟩
  · have HBM := Lib.hid (back_more hgood more)
    have HBL := Lib.hid (fun k hk => back_less (k := k) hgood hk)
    have HP := Lib.hid (decErr_enc hgood).2.2.2
    have HFB := Lib.hid ((decErr_enc hgood).2.2.1.trans (decErr_enc hgood).2.1.symm)
    have hlen := (decErr_enc hgood).2.1
    have h6 : 8 + (encBody base (base + rs.length) (numbered base rs)).length ≤ 6000 := by
      unfold encErr at hgood
      by_cases hc : checkB base (base + rs.length) (numbered base rs) ≠ 0
      · rw [if_pos hc] at hgood; exact absurd hgood hc
      · rw [if_neg hc] at hgood
        by_cases h6 : 6000 < 8 + (encBody base (base + rs.length) (numbered base rs)).length
        · rw [if_pos h6] at hgood; cases hgood
        · omega
    have hlo : 8 ≤ (encAll base (base + rs.length) (numbered base rs)).length := by omega
    have hhi : (encAll base (base + rs.length) (numbered base rs)).length ≤ 6000 := by omega
    clear hlen h6 hgood hch3
    generalize encAll base (base + rs.length) (numbered base rs) = L at *
    go_wp2_with fail
    refine (recorded_any w2).mono ?_
    rintro e w4 ⟨rfl, hc4⟩
    have hch5 := hch4.trans hc4 (fun _ h => .inl h)
    have hown4 := hown.chg hc4 (fun _ _ h => h)
    have hx4 := hx2.chg hc4 (fun h => h)
    have HRC4 := Lib.hid (HRC2.out.chg hc4 (fun _ _ h => h))
    obtain ⟨g, cap5, rfl, hcap5⟩ := hown4.slice (by intro h; subst h; simp at hlo)
    obtain ⟨a6, cap6, hv6, hby6, hcap6, hm6⟩ := hown4.room
    simp only [Value.slice.injEq] at hv6
    obtain ⟨rfl, _, rfl⟩ := hv6
    have hgw := hvb g rfl
    have hgs : g < w4.heap.size := hown4.lt g rfl
    have HO := Lib.hid hown4
    have HB4 := Lib.hid hby6
    have HM4 := Lib.hid (HM.out.kept (w' := w4) fun b off i v _ hv => hch5.cell hv (fun h => h))
    have hgl4 := hgl.chg hch5 (fun h => h)
    clear hown4 hown hvb hch4 hby6 HM hx2 HRC2 hgl hc4
    have hown0 : OwnB 5 (w4.alloc (.cells #[] 5)) (.slice (some ⟨w4.heap.size, 0, none⟩) 0 0) [] := OwnB.made (l := []) (heap_alloc_new w4 _) rfl (Nat.le_refl _) (Nat.zero_le _) rfl
    have hal := (Chg.refl Nil w4).alloc (.cells #[] 5)
    have HO0 := Lib.hid hown0
    have HB0 := Lib.hid (hal.bytesAt HB4.out (fun _ _ h => h))
    have hq0 : ([] : List UInt8).length + L.length ≤ 140737488355328 := by simp; omega
    have hq1 : L.length + more.length ≤ 140737488355328 := by omega
    have HQ0 := Lib.hid hq0
    have HQ1 := Lib.hid hq1
    clear hown0 hq0 hq1
    have HMA := Lib.hid (hal.bytesAt HM4.out (fun _ _ h => h))
    go_wp2_with (first
      | (at_builtin; refine wpList_append_bytes rfl (.tmp 49) (.tmp 50) 32 32 rfl bytesT _ Tryd.underlying32 (by intro _; simp) _ _ rfl HO0.out _ L rfl (Source.bytes HB0.out) HQ0.out ?_; intro v5 w5 hown5 hg5 _; have hcN := (hg5.full rfl).1; have HO5 := Lib.hid hown5; have HM5 := Lib.hid (hcN.bytesAt HMA.out (fun _ _ h => h)); clear hown5)
      | (at_builtin; refine wpList_append_bytes rfl (.tmp 51) (.tmp 52) 32 32 rfl bytesT _ Tryd.underlying32 (by intro _; simp) _ _ rfl HO5.out _ more rfl (Source.bytes HM5.out) HQ1.out ?_; intro v6 w6 hown6 hg6 _; have HO6 := Lib.hid hown6; clear hown6))
    have hv5 : ∀ k, v5.ownBlock = some k → w4.heap.size ≤ k := by
      intro k hk
      rcases hg5.own k hk with h | h
      · have : w4.heap.size = k := Option.some.inj h
        omega
      · simp at h; omega
    have hcN : Chg Nil w4 w6 := (hal.trans (hg5.full rfl).1 (fun _ h => .inl h)).trans hg6.chg (fun i hi => .inr (hv5 i hi))
    obtain ⟨a7, cap7, rfl, hby7, hcap7, hm7⟩ := HO6.out.room
    simp only [List.nil_append] at hby7 hcap7
    have hch6 := hch5.trans hcN (fun _ h => .inl h)
    have hx6 := hx4.chg hcN (fun h => h)
    have HRC6 := Lib.hid (HRC4.out.chg hcN (fun _ _ h => h))
    have HB6 := Lib.hid (hcN.bytesAt HB4.out (fun _ _ h => h))
    have hgl6 := hgl4.chg hcN (fun h => h)
    have HBY7 := Lib.hid hby7
    clear hg5 hg6 hv5 hal HO0 HB0 HO5 HM5 HO6 hx4 HRC4 HB4 hgl4 hch5 hby7 HMA HM4 HO
    simp only [List.nil_append]
    refine (decode_any a7 (L ++ more) cap7 w6 hcap7 hm7 HBY7.out).mono ?_
    rintro e w8 ⟨hc8, hpost⟩
    rcases hpost with ⟨hbad, _⟩ | ⟨_, v8, he, hown8, hvb8⟩
    · exact absurd HBM.out.1 hbad
    have HP2 : Hid (parse (((L ++ more).take (fromB (L ++ more))).drop 8) = ⟨base.toNat, (base + rs.length - base).toNat, numbered base rs, ([], false)⟩) := by
      unfold Hid
      rw [HBM.out.2.2]
      have := HP.out
      rw [HFB.out, List.take_length] at this
      exact this
    have eb : ((base.toNat : Nat) : Int) = base := by omega
    have el : (((base + rs.length - base).toNat : Nat) : Int) = rs.length := by omega
    rw [HP2.out, HBM.out.2.1] at he
    rw [HP2.out] at hown8
    simp only [eb, el] at he hown8
    subst he
    obtain ⟨va8, vcap8, rfl, hrecs8, hvle8⟩ := hown8.recs
    have hch8 := hch6.trans hc8 (fun _ h => .inl h)
    have hx8 := hx6.chg hc8 (fun h => h)
    have hgl8 := hgl6.chg hc8 (fun h => h)
    have hal := (Chg.refl Nil w8).alloc (.cells #[.int .i64 base, .int .i64 (base + rs.length), .slice va8 (numbered base rs).length vcap8] 24)
    have hy8 : Box (w8.alloc (.cells #[.int .i64 base, .int .i64 (base + rs.length), .slice va8 (numbered base rs).length vcap8] 24)) w8.heap.size [.int .i64 base, .int .i64 (base + rs.length), .slice va8 (numbered base rs).length vcap8] 24 := Box.new _ _ _
    have hx9 := hx8.chg hal (fun h => h)
    have hch9 := hch8.trans hal (fun _ h => .inl h)
    have hgl9 := hgl8.chg hal (fun h => h)
    have HRC9 := Lib.hid ((HRC6.out.chg hc8 (fun _ _ h => h)).chg hal (fun _ _ h => h))
    have HRY9 := Lib.hid (hrecs8.chg hal (fun _ _ h => h))
    have HB9 := Lib.hid (hal.bytesAt (hc8.bytesAt HB6.out (fun _ _ h => h)) (fun _ _ h => h))
    clear hown8 hrecs8 hvb8 hvle8 hch8 hx8 hgl8 hch6 hx6 hgl6 HRC6 HB6 hc8 eb el HP HP2 HBM HBY7 hal
    have HXL := Lib.hid hy8
    go_wp2_with fail
    generalize (w8.alloc (.cells #[.int .i64 base, .int .i64 (base + rs.length), .slice va8 (numbered base rs).length vcap8] 24)) = w9 at *
    refine (pick_any cut L.length w9 (by omega) (by omega)).mono ?_
    rintro e w10 ⟨rfl, rfl⟩
    have hk := pickN_lt (a := cut) (n := L.length) (by omega)
    have HLS := Lib.hid (HBL.out _ hk)
    generalize pickN cut L.length = k at *
    have hkl : (L.take k).length = k := by rw [List.length_take]; omega
    have hdec := decode_any (some ⟨g, 0, none⟩) (L.take k) cap5 w9 (by omega) hm6 (HB9.out.take k)
    rw [hkl] at hdec
    have HDEC := Lib.hid hdec
    clear hdec hkl HBL
    have hkc : (k : Int) ≤ (cap5 : Int) := by omega
    go_wp2_with fail
    refine HDEC.out.mono ?_
    rintro e w11 ⟨hc11, hpost⟩
    rcases hpost with ⟨_, he⟩ | ⟨hgood, _⟩
    · rw [HLS.out] at he
      replace he : e = .returned (.tuple #[.agg #[.int .i64 0, .int .i64 0, .slice none 0 0], .int .i64 0, .iface 29 (.int .i64 12)]) := he
      subst he
      have hal := (Chg.refl Nil w11).alloc (.cells #[.int .i64 0, .int .i64 0, .slice none 0 0] 24)
      have hcA := hc11.trans hal (fun _ h => .inl h)
      have hx12 := hx9.chg hcA (fun h => h)
      have hy12 := hy8.chg hcA (fun h => h)
      have hgl12 := hgl9.chg hcA (fun h => h)
      have hch12 := hch9.trans hcA (fun _ h => .inl h)
      have HRX := Lib.hid (HRC9.out.chg hcA (fun _ _ h => h))
      have HRY := Lib.hid (HRY9.out.chg hcA (fun _ _ h => h))
      have x0 := hx12.cell (j := 0) rfl
      have x1 := hx12.cell (j := 1) rfl
      have x2 := hx12.cell (j := 2) rfl
      have y0 := hy12.cell (j := 0) rfl
      have y1 := hy12.cell (j := 1) rfl
      have y2 := hy12.cell (j := 2) rfl
      have hle : (numbered base rs).length ≤ maxLen := by rw [HNL.out]; unfold maxLen; omega
      have HLE := Lib.hid hle
      clear hx9 hy8 hgl9 hch9 HRC9 HRY9 hc11 hal hcA hx12 hy12 HXL HDEC HLS HB9 hle
      go_wp2_with fail
      refine (same_any va8 va (numbered base rs) vcap8 vcap _ HLE.out HRY.out HRX.out).mono ?_
      rintro e w13 ⟨rfl, hc13⟩
      go_wp2_with fail
      refine (tell_errno 12 w13 (hgl12.chg hc13 (fun h => h))).mono ?_
      rintro e w14 ⟨rfl, hc14⟩
      go_wp2_with fail
      go_ret
      exact ⟨rfl, (hch12.trans hc13 (fun _ h => .inl h)).trans hc14 (fun _ h => .inl h)⟩
    · rw [HLS.out] at hgood; cases hgood

set_option maxRecDepth 100000 in
theorem recordBack_any (base : Int) (a : Option Addr) (rs : List Rec) (cap : Nat) (ma : Option Addr) (more : List UInt8) (mcap : Nat) (cut : Int) (w : World) (hgl : Handle w) (hl : rs.length ≤ maxLen) (hml : more.length ≤ maxLen)
    (hok : ∀ r ∈ rs, r.Ok) (hc : RecsAt w a rs) (hmb : BytesAt w ma more) :
    Calls Tryd.prog 6 #[.int .i64 base, .slice a rs.length cap, .slice ma more.length mcap, .int .i64 cut] w fun e w' => e = .returned (.bool true) ∧ Chg Nil w w' := by
  unfold maxLen at hl hml
  by_cases h0 : base < 0
  · go_enter Tryd.func6, Tryd.ntmps6
    go_wp2_with fail
    go_ret
    exact ⟨rfl, Chg.refl _ _⟩
  · by_cases h1 : 1099511627676 < base
    · go_enter Tryd.func6, Tryd.ntmps6
      go_wp2_with fail
      go_ret
      exact ⟨rfl, Chg.refl _ _⟩
    · by_cases h2 : 60 < rs.length
      · go_enter Tryd.func6, Tryd.ntmps6
        go_wp2_with fail
        go_ret
        exact ⟨rfl, Chg.refl _ _⟩
      · by_cases h3 : 2000 < more.length
        · go_enter Tryd.func6, Tryd.ntmps6
          go_wp2_with fail
          go_ret
          exact ⟨rfl, Chg.refl _ _⟩
        · exact recordBack_in base a rs cap ma more mcap cut w hgl (by omega) (by omega) (by omega) (by omega) hok hc hmb
end Go.Proofs.YtaipjojigaeejaaDoor
