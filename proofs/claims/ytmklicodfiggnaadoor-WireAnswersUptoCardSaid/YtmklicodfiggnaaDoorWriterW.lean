/-
  The walks of the program's writer: num, truth, text.
-/
import Derived.Test.YtmklicodfiggnaaDoorWriteL
set_option linter.unusedSimpArgs false
namespace Go.Proofs.YtmklicodfiggnaaDoor
open Go.RowKit

set_option maxHeartbeats 1000000 in
set_option maxRecDepth 100000 in
theorem wnum_any (g a : Nat) (v : Value) (s : WS) (l : List Int) (w : World) (hl : l.length ≤ 8) (hs : s.1.length ≤ 10000000000000) (h : Wr 68 w g v s) (ha : Box w a (l.map fun n => .int .i64 n) 3) (hag : a ≠ g) (hav : v.ownBlock ≠ some a) :
    Calls Tryd.prog 32 #[.pointer (some ⟨g, 0, none⟩), .slice (some ⟨a, 0, none⟩) l.length l.length] w fun e w' => e = .returned (.tuple #[]) ∧ ∃ v', Wr 68 w' g v' (numsW s l) ∧ Step g w w' v v' := by
  go_enter Tryd.func32, Tryd.ntmps32
  go_wp2_with fail
  go_loopw [8] (fun i wr => ∃ (k : Nat) (v1 : Value), k ≤ l.length ∧ i = .int .i64 k ∧ Wr 68 wr g v1 (numsW s (l.take k)) ∧ Step g w wr v v1) (fun i _ => l.length - (intOf i).toNat)
  case atStart => exact ⟨0, v, Nat.zero_le _, rfl, h, Step.refl _ _ _⟩
  case round =>
    obtain ⟨k, v1, hk, rfl, hW, hS⟩ := hrel
    by_cases hlt : k < l.length
    · have hcell := (hS.keeps ha hag hav).1.cell (j := k) (u := .int .i64 l[k]) (by simp [hlt])
      have HN : Hid (numsW s (l.take (k + 1)) = numW (numsW s (l.take k)) l[k]) := by unfold Hid; rw [take_snoc l k hlt, numsW_snoc]
      have hln := numsW_len s (l.take k)
      rw [List.length_take] at hln
      generalize numsW s (l.take k) = s1 at *
      generalize l[k] = n at *
      have hlen1 : s1.1.length ≤ 20000000000000 := by omega
      clear hln
      by_cases hbad : n < 0 ∨ 1099511627776 < n
      · have HN2 : Hid (numW s1 n = (s1.1 ++ put 0, 2)) := by unfold Hid numW; rw [if_pos hbad]
        have f1 := hW.box.free 1
        have f0 := hW.box.free 0
        have b0 := hW.box.cell (j := 0) rfl
        have b1 := hW.box.cell (j := 1) rfl
        have hset : Chg (fun k => k = g) wr (wr.setCell ⟨g, 1, none⟩ (.int .i64 2)) := (Chg.refl (fun k => k = g) _).setCell (.inl rfl) _
        have hbx := hW.box.set 1 (.int .i64 2)
        have how := hW.own.chg hset (fun k hk e => hW.ne (by rw [hk, e]))
        have HBX := Lib.hid hbx
        have HOW := Lib.hid how
        have HWW := Lib.hid hW
        have HSET := Lib.hid hset
        clear hbx how hset hW
        have hput := put_any v1 s1.1 0 (wr.setCell ⟨g, 1, none⟩ (.int .i64 2)) (by omega) (by omega) HOW.out
        simp only [Int.cast_ofNat_Int] at hput
        have HP := Lib.hid hput
        clear hput
        by_cases hneg : n < 0
        · clear hbad
          go_wp2_with fail
          refine HP.out.mono ?_
          rintro e w2 ⟨v2, rfl, hown2, hg2⟩
          have hbx2 : Box w2 g _ _ := HBX.out.chg hg2.chg (fun e => HWW.out.ne e)
          have q0 := hbx2.cell (j := 0) rfl
          have y0 := hbx2.free 0
          obtain ⟨x2, m2, c2, rfl⟩ := ownsRow_form hown2
          have HO2 := Lib.hid hown2
          have HB2 := Lib.hid hbx2
          clear hown2 hbx2 b0 b1 f0 f1
          go_wp2_with fail
          go_roundw
          case rel =>
            have hlt2 : wr.heap.size ≤ w2.heap.size := by have := hg2.chg.size; simpa using this
            have hgl := HWW.out.lt
            have hne2 : (Value.slice x2 m2 c2).ownBlock ≠ some g := fun e => (hg2.own g e).elim HWW.out.ne fun l => by simp at l; omega
            have hs2 : Chg (fun k => k = g) w2 (w2.setCell ⟨g, 0, none⟩ (.slice x2 m2 c2)) := (Chg.refl (fun k => k = g) _).setCell (.inl rfl) _
            refine ⟨k + 1, .slice x2 m2 c2, by omega, by go_num, ?_, ?_⟩
            · rw [HN.out, HN2.out]
              exact ⟨HB2.out.set 0 _, HO2.out.chg hs2 (fun k hk e => hne2 (by rw [hk, e])), hne2⟩
            · refine hS.trans ⟨((HSET.out.weak (fun i hi => .inl (.inl hi))).trans hg2.chg (fun i hi => .inl (.inr hi))).trans hs2 (fun i hi => .inl (.inl hi)), fun i hi => (hg2.own i hi).imp id fun l => by simpa using l⟩
          case measure => simp [intOf]; omega
        · have hbig : 1099511627776 < n := by omega
          clear hbad
          go_wp2_with fail
          refine HP.out.mono ?_
          rintro e w2 ⟨v2, rfl, hown2, hg2⟩
          have hbx2 : Box w2 g _ _ := HBX.out.chg hg2.chg (fun e => HWW.out.ne e)
          have q0 := hbx2.cell (j := 0) rfl
          have y0 := hbx2.free 0
          obtain ⟨x2, m2, c2, rfl⟩ := ownsRow_form hown2
          have HO2 := Lib.hid hown2
          have HB2 := Lib.hid hbx2
          clear hown2 hbx2 b0 b1 f0 f1
          go_wp2_with fail
          go_roundw
          case rel =>
            have hlt2 : wr.heap.size ≤ w2.heap.size := by have := hg2.chg.size; simpa using this
            have hgl := HWW.out.lt
            have hne2 : (Value.slice x2 m2 c2).ownBlock ≠ some g := fun e => (hg2.own g e).elim HWW.out.ne fun l => by simp at l; omega
            have hs2 : Chg (fun k => k = g) w2 (w2.setCell ⟨g, 0, none⟩ (.slice x2 m2 c2)) := (Chg.refl (fun k => k = g) _).setCell (.inl rfl) _
            refine ⟨k + 1, .slice x2 m2 c2, by omega, by go_num, ?_, ?_⟩
            · rw [HN.out, HN2.out]
              exact ⟨HB2.out.set 0 _, HO2.out.chg hs2 (fun k hk e => hne2 (by rw [hk, e])), hne2⟩
            · refine hS.trans ⟨((HSET.out.weak (fun i hi => .inl (.inl hi))).trans hg2.chg (fun i hi => .inl (.inr hi))).trans hs2 (fun i hi => .inl (.inl hi)), fun i hi => (hg2.own i hi).imp id fun l => by simpa using l⟩
          case measure => simp [intOf]; omega
      · obtain ⟨m, rfl⟩ : ∃ m : Nat, n = (m : Int) := ⟨n.toNat, by omega⟩
        have HN2 : Hid (numW s1 (m : Int) = (s1.1 ++ put m, s1.2)) := by unfold Hid numW; rw [if_neg hbad]; rfl
        have hm : m ≤ 1099511627776 := by omega
        have hnb : ¬ 1099511627776 < m := by omega
        have b0 := hW.box.cell (j := 0) rfl
        have HWW := Lib.hid hW
        have HP := Lib.hid (put_any v1 s1.1 m wr hm (by omega) hW.own)
        clear hbad hW
        go_wp2_with fail
        refine HP.out.mono ?_
        rintro e w2 ⟨v2, rfl, hown2, hg2⟩
        have hbx2 : Box w2 g _ _ := HWW.out.box.chg hg2.chg (fun e => HWW.out.ne e)
        have q0 := hbx2.cell (j := 0) rfl
        have y0 := hbx2.free 0
        obtain ⟨x2, m2, c2, rfl⟩ := ownsRow_form hown2
        have HO2 := Lib.hid hown2
        have HB2 := Lib.hid hbx2
        clear hown2 hbx2 b0
        go_wp2_with fail
        go_roundw
        case rel =>
          have hlt2 := hg2.chg.size
          have hgl := HWW.out.lt
          have hne2 : (Value.slice x2 m2 c2).ownBlock ≠ some g := fun e => (hg2.own g e).elim HWW.out.ne fun l => by omega
          have hs2 : Chg (fun k => k = g) w2 (w2.setCell ⟨g, 0, none⟩ (.slice x2 m2 c2)) := (Chg.refl (fun k => k = g) _).setCell (.inl rfl) _
          refine ⟨k + 1, .slice x2 m2 c2, by omega, by go_num, ?_, ?_⟩
          · rw [HN.out, HN2.out]
            exact ⟨HB2.out.set 0 _, HO2.out.chg hs2 (fun k hk e => hne2 (by rw [hk, e])), hne2⟩
          · refine hS.trans ⟨(hg2.chg.weak (fun i hi => .inl (.inr hi))).trans hs2 (fun i hi => .inl (.inl hi)), hg2.own⟩
        case measure => simp [intOf]; omega
    · have hkl : k = l.length := by omega
      subst hkl
      rw [List.take_length] at hW
      go_wp2_with fail
      go_end0
      exact ⟨rfl, v1, hW, hS⟩

/-- num, of one number, in a new slice. -/
theorem wnum_one (g : Nat) (v : Value) (s : WS) (n : Int) (w : World) (hs : s.1.length ≤ 10000000000000) (h : Wr 68 w g v s) :
    Calls Tryd.prog 32 #[.pointer (some ⟨g, 0, none⟩), .slice (some ⟨w.heap.size, 0, none⟩) 1 1] (w.alloc (.cells #[.int .i64 n] 3)) fun e w' => e = .returned (.tuple #[]) ∧ ∃ v', Wr 68 w' g v' (numsW s [n]) ∧ Step g w w' v v' := by
  refine (wnum_any g w.heap.size v s [n] (w.alloc (.cells #[.int .i64 n] 3)) (by simp) hs (h.alloc _) (Box.new w [.int .i64 n] 3) (by have := h.lt; omega) (fun e => by have := h.own.lt _ e; omega)).mono ?_
  rintro e w' ⟨rfl, v', hW, hS⟩
  exact ⟨rfl, v', hW, hS.pre ((Chg.refl Nil w).alloc _)⟩

set_option maxRecDepth 100000 in
theorem wtruth_any (g : Nat) (v : Value) (s : WS) (b : Bool) (w : World) (hs : s.1.length ≤ 10000000000000) (h : Wr 68 w g v s) :
    Calls Tryd.prog 51 #[.pointer (some ⟨g, 0, none⟩), .bool b] w fun e w' => e = .returned (.tuple #[]) ∧ ∃ v', Wr 68 w' g v' (truthW s b) ∧ Step g w w' v v' := by
  have h1 := Lib.hid (wnum_one g v s 1 w hs h)
  have h0 := Lib.hid (wnum_one g v s 0 w hs h)
  clear h
  go_enter Tryd.func51, Tryd.ntmps51
  cases b
  · go_wp2_with fail
    refine h0.out.mono ?_
    rintro e w1 ⟨rfl, v1, hW, hS⟩
    go_wp2_with fail
    go_end0
    exact ⟨rfl, v1, hW, hS⟩
  · go_wp2_with fail
    refine h1.out.mono ?_
    rintro e w1 ⟨rfl, v1, hW, hS⟩
    go_wp2_with fail
    go_end0
    exact ⟨rfl, v1, hW, hS⟩

set_option maxHeartbeats 1000000 in
set_option maxRecDepth 100000 in
theorem wtext_any (g : Nat) (v : Value) (s : WS) (t : ByteArray) (most : Nat) (w : World) (ht : t.size ≤ 1048576) (hs : s.1.length ≤ 10000000000000) (h : Wr 68 w g v s) :
    Calls Tryd.prog 50 #[.pointer (some ⟨g, 0, none⟩), .string t, .int .i64 (most : Nat)] w fun e w' => e = .returned (.tuple #[]) ∧ ∃ v', Wr 68 w' g v' (textW s t most) ∧ Step g w w' v v' := by
  have HT : Hid (textW s t most = ((numsW (s.1, if most < t.size then 4 else s.2) [(t.size : Int)]).1 ++ t.data.toList, (numsW (s.1, if most < t.size then 4 else s.2) [(t.size : Int)]).2)) := rfl
  have hsl : t.data.toList.length = t.size := by rw [Array.length_toList]; rfl
  have HSL := Lib.hid hsl
  clear hsl
  -- the end, behind the number
  have fin : ∀ (s1 : WS) (v1 : Value) (w1 : World), s1.1.length ≤ 20000000000000 → Wr 68 w1 g v1 s1 → s1.1.length + t.data.toList.length ≤ 140737488355328 ∧ Source Tryd.prog w1 1 (.string t) t.data.toList.length (t.data.toList.map bval) := fun s1 v1 w1 h1 _ =>
    ⟨by rw [HSL.out]; omega, Source.string t⟩
  have FIN := Lib.hid fin
  clear fin
  by_cases hb : most < t.size
  · have hbi : (most : Int) < (t.size : Int) := by omega
    have f1 := h.box.free 1
    have hset : Chg (fun k => k = g) w (w.setCell ⟨g, 1, none⟩ (.int .i64 4)) := (Chg.refl (fun k => k = g) _).setCell (.inl rfl) _
    have hW0 : Wr 68 (w.setCell ⟨g, 1, none⟩ (.int .i64 4)) g v (s.1, 4) := ⟨h.box.set 1 _, h.own.chg hset (fun k hk e => h.ne (by rw [hk, e])), h.ne⟩
    have hS0 : Step g w (w.setCell ⟨g, 1, none⟩ (.int .i64 4)) v v := ⟨hset.weak (fun i hi => .inl (.inl hi)), fun _ h => .inl h⟩
    have b1 := h.box.cell (j := 1) rfl
    have hw1 := wnum_one g v (s.1, 4) (t.size : Int) _ hs hW0
    have hz1 : (w.setCell ⟨g, 1, none⟩ (.int .i64 4)).heap.size = w.heap.size := by simp
    rw [hz1] at hw1
    have HW := Lib.hid hw1
    clear hw1 hz1
    have HS0 := Lib.hid hS0
    rw [if_pos hb] at HT
    clear hset hW0 hS0 h
    go_enter Tryd.func50, Tryd.ntmps50
    go_wp2_with fail
    refine HW.out.mono ?_
    rintro e w1 ⟨rfl, v1, hW1, hS1⟩
    have hln := numsW_len (s.1, 4) [(t.size : Int)]
    simp only [List.length_cons, List.length_nil] at hln
    generalize numsW (s.1, 4) [(t.size : Int)] = s1 at *
    obtain ⟨hq, hsrc⟩ := FIN.out s1 v1 w1 (by omega) hW1
    have HQ := Lib.hid hq
    have HSR := Lib.hid hsrc
    have HO := Lib.hid hW1.own
    have HBX := Lib.hid hW1.box
    have HNE := Lib.hid hW1.ne
    have c0 := hW1.box.cell (j := 0) rfl
    clear hq hsrc hW1 b1 f1
    go_wp2_with (at_builtin; go_must (refine wpList_append_bytes rfl (.tmp 22) (.tmp 23) 25 9 rfl bytesT _ Tryd.underlying9 (by intro _; simp) _ _ rfl HO.out _ t.data.toList rfl HSR.out HQ.out ?_); intro v2 w2 hown2 hg2 _; obtain ⟨x2, m2, c2, rfl⟩ := ownsRow_form hown2; have hBX2 := HBX.out.chg hg2.chg (fun h => HNE.out h); have y2 := hBX2.free 0; have z2 := hBX2.cell (j := 0) rfl; have HO2 := Lib.hid hown2; have HB2 := Lib.hid hBX2; clear hown2 hBX2)
    go_wp2
    go_end0
    have hgl : g < w1.heap.size := (Array.getElem?_eq_some_iff.1 HBX.out).1
    have hne2 : (Value.slice x2 m2 c2).ownBlock ≠ some g := fun e => (hg2.own g e).elim HNE.out fun l => by omega
    have hs2 : Chg (fun k => k = g) w2 (w2.setCell ⟨g, 0, none⟩ (.slice x2 m2 c2)) := (Chg.refl (fun k => k = g) _).setCell (.inl rfl) _
    refine ⟨rfl, .slice x2 m2 c2, ?_, (HS0.out.trans hS1).trans ⟨(hg2.chg.weak (fun i hi => .inl (.inr hi))).trans hs2 (fun i hi => .inl (.inl hi)), hg2.own⟩⟩
    rw [HT.out]
    exact ⟨HB2.out.set 0 _, HO2.out.chg hs2 (fun k hk e => hne2 (by rw [hk, e])), hne2⟩
  · have hbi : ¬ (most : Int) < (t.size : Int) := by omega
    have HW := Lib.hid (wnum_one g v s (t.size : Int) w hs h)
    rw [if_neg hb] at HT
    have e : (s.1, s.2) = s := rfl
    rw [e] at HT
    clear h e
    go_enter Tryd.func50, Tryd.ntmps50
    go_wp2_with fail
    refine HW.out.mono ?_
    rintro e w1 ⟨rfl, v1, hW1, hS1⟩
    have hln := numsW_len s [(t.size : Int)]
    simp only [List.length_cons, List.length_nil] at hln
    generalize numsW s [(t.size : Int)] = s1 at *
    obtain ⟨hq, hsrc⟩ := FIN.out s1 v1 w1 (by omega) hW1
    have HQ := Lib.hid hq
    have HSR := Lib.hid hsrc
    have HO := Lib.hid hW1.own
    have HBX := Lib.hid hW1.box
    have HNE := Lib.hid hW1.ne
    have c0 := hW1.box.cell (j := 0) rfl
    clear hq hsrc hW1
    go_wp2_with (at_builtin; go_must (refine wpList_append_bytes rfl (.tmp 22) (.tmp 23) 25 9 rfl bytesT _ Tryd.underlying9 (by intro _; simp) _ _ rfl HO.out _ t.data.toList rfl HSR.out HQ.out ?_); intro v2 w2 hown2 hg2 _; obtain ⟨x2, m2, c2, rfl⟩ := ownsRow_form hown2; have hBX2 := HBX.out.chg hg2.chg (fun h => HNE.out h); have y2 := hBX2.free 0; have z2 := hBX2.cell (j := 0) rfl; have HO2 := Lib.hid hown2; have HB2 := Lib.hid hBX2; clear hown2 hBX2)
    go_wp2
    go_end0
    have hgl : g < w1.heap.size := (Array.getElem?_eq_some_iff.1 HBX.out).1
    have hne2 : (Value.slice x2 m2 c2).ownBlock ≠ some g := fun e => (hg2.own g e).elim HNE.out fun l => by omega
    have hs2 : Chg (fun k => k = g) w2 (w2.setCell ⟨g, 0, none⟩ (.slice x2 m2 c2)) := (Chg.refl (fun k => k = g) _).setCell (.inl rfl) _
    refine ⟨rfl, .slice x2 m2 c2, ?_, hS1.trans ⟨(hg2.chg.weak (fun i hi => .inl (.inr hi))).trans hs2 (fun i hi => .inl (.inl hi)), hg2.own⟩⟩
    rw [HT.out]
    exact ⟨HB2.out.set 0 _, HO2.out.chg hs2 (fun k hk e => hne2 (by rw [hk, e])), hne2⟩
end Go.Proofs.YtmklicodfiggnaaDoor
