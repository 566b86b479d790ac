/-
  The walks of sameTopics and sameAnswer, where both are the same.
-/
import Derived.Test.YtmklicodfiggnaaDoorTopsW
import Derived.Test.YtmklicodfiggnaaDoorSameW
set_option linter.unusedSimpArgs false
namespace Go.Proofs.YtmklicodfiggnaaDoor
open Go.RowKit

set_option maxHeartbeats 400000 in
set_option maxRecDepth 100000 in
theorem sameT_any (x y : Option Addr) (ts : List Tp) (cx cy : Nat) (w : World) (hl : ts.length ≤ maxLen) (hx : TopsAt w x ts) (hy : TopsAt w y ts) :
    Calls Tryd.prog 46 #[.slice x ts.length cx, .slice y ts.length cy] w fun e w' => e = .returned (.bool true) ∧ Chg Nil w w' := by
  unfold maxLen at hl
  go_enter Tryd.func46, Tryd.ntmps46
  go_wp2
  go_loopw [5] (fun i wr => ∃ k : Nat, k ≤ ts.length ∧ i = .int .i64 k ∧ Chg Nil w wr) (fun i _ => ts.length - (intOf i).toNat)
  case atStart => exact ⟨0, Nat.zero_le _, rfl, Chg.refl _ _⟩
  case round =>
    obtain ⟨k, hk, rfl, hch⟩ := hrel
    by_cases hlt : k < ts.length
    · obtain ⟨b, off, rfl, hc⟩ := TopsAt.chg hch hx (fun _ _ h => h) k hlt
      obtain ⟨b2, off2, rfl, hd⟩ := TopsAt.chg hch hy (fun _ _ h => h) k hlt
      have g0 : wr.cell? ⟨b, off + k * 3, none⟩ = _ := hc 0 _ rfl
      have g1 := hc 1 _ rfl
      have g2 := hc 2 _ rfl
      have k0 : wr.cell? ⟨b2, off2 + k * 3, none⟩ = _ := hd 0 _ rfl
      have k1 := hd 1 _ rfl
      have k2 := hd 2 _ rfl
      clear hc hd hx hy
      generalize ts[k] = r at *
      obtain ⟨nm, pt, cp⟩ := r
      simp only at g0 g1 g2 k0 k1 k2
      go_wp2_with fail
      go_quiet (fail)
      go_wp2_with fail
      go_roundw
      case rel => exact ⟨k + 1, by omega, by go_num, hch.drewN _⟩
      case measure => simp [intOf]; omega
    · go_wp2_with fail
      go_ret
      exact ⟨rfl, hch⟩

set_option maxHeartbeats 4000000 in
set_option maxRecDepth 100000 in
theorem sameA_any (f0 f1 f2 f3 f4 f5 : Int) (f6 : Bool) (rs : List Rec) (ts : List Tp) (x y xt yt : Option Addr) (cx cy ct dt : Nat) (w : World) (hl : rs.length ≤ maxLen) (hlt : ts.length ≤ maxLen) (hx : RecsAt w x rs) (hy : RecsAt w y rs) (hxt : TopsAt w xt ts) (hyt : TopsAt w yt ts) :
    Calls Tryd.prog 19 #[.agg #[.int .i64 f0, .int .i64 f1, .int .i64 f2, .int .i64 f3, .int .i64 f4, .int .i64 f5, .bool f6, .slice x rs.length cx, .slice xt ts.length ct], .agg #[.int .i64 f0, .int .i64 f1, .int .i64 f2, .int .i64 f3, .int .i64 f4, .int .i64 f5, .bool f6, .slice y rs.length cy, .slice yt ts.length dt]] w fun e w' => e = .returned (.bool true) ∧ Chg Nil w w' := by
  have ha1 := (Chg.refl Nil w).alloc (.cells #[.int .i64 f0, .int .i64 f1, .int .i64 f2, .int .i64 f3, .int .i64 f4, .int .i64 f5, .bool f6, .slice x rs.length cx, .slice xt ts.length ct] 37)
  have hb1 := Box.new w [.int .i64 f0, .int .i64 f1, .int .i64 f2, .int .i64 f3, .int .i64 f4, .int .i64 f5, .bool f6, .slice x rs.length cx, .slice xt ts.length ct] 37
  go_enter Tryd.func19, Tryd.ntmps19
  go_upto_region 1 with fail
  have hsz1 : (w.alloc (.cells #[.int .i64 f0, .int .i64 f1, .int .i64 f2, .int .i64 f3, .int .i64 f4, .int .i64 f5, .bool f6, .slice x rs.length cx, .slice xt ts.length ct] 37)).heap.size = w.heap.size + 1 := by simp
  have hb2 := Box.new (w.alloc (.cells #[.int .i64 f0, .int .i64 f1, .int .i64 f2, .int .i64 f3, .int .i64 f4, .int .i64 f5, .bool f6, .slice x rs.length cx, .slice xt ts.length ct] 37)) [.int .i64 f0, .int .i64 f1, .int .i64 f2, .int .i64 f3, .int .i64 f4, .int .i64 f5, .bool f6, .slice y rs.length cy, .slice yt ts.length dt] 37
  rw [hsz1] at hb2
  have ha2 := ha1.alloc (.cells #[.int .i64 f0, .int .i64 f1, .int .i64 f2, .int .i64 f3, .int .i64 f4, .int .i64 f5, .bool f6, .slice y rs.length cy, .slice yt ts.length dt] 37)
  have hc2 := hb1.chg ((Chg.refl Nil _).alloc (.cells #[.int .i64 f0, .int .i64 f1, .int .i64 f2, .int .i64 f3, .int .i64 f4, .int .i64 f5, .bool f6, .slice y rs.length cy, .slice yt ts.length dt] 37)) (fun h => h)
  clear hsz1 hb1 ha1
  generalize ((w.alloc (.cells #[.int .i64 f0, .int .i64 f1, .int .i64 f2, .int .i64 f3, .int .i64 f4, .int .i64 f5, .bool f6, .slice x rs.length cx, .slice xt ts.length ct] 37)).alloc (.cells #[.int .i64 f0, .int .i64 f1, .int .i64 f2, .int .i64 f3, .int .i64 f4, .int .i64 f5, .bool f6, .slice y rs.length cy, .slice yt ts.length dt] 37)) = w2 at *
  have HSM := Lib.hid (same_any x y rs cx cy w2 hl (hx.chg ha2 (fun _ _ h => h)) (hy.chg ha2 (fun _ _ h => h)))
  have HST := Lib.hid (fun w3 (h : Chg Nil w2 w3) => sameT_any xt yt ts ct dt w3 hlt (TopsAt.chg (ha2.trans h (fun _ h => .inl h)) hxt (fun _ _ h => h)) (TopsAt.chg (ha2.trans h (fun _ h => .inl h)) hyt (fun _ _ h => h)))
  generalize hA : w.heap.size = A at *
  generalize hB : A + 1 = B at *
  clear hA hB
  have a0 := hc2.cell (j := 0) rfl
  have b0 := hb2.cell (j := 0) rfl
  have a1 := hc2.cell (j := 1) rfl
  have b1 := hb2.cell (j := 1) rfl
  have a2 := hc2.cell (j := 2) rfl
  have b2 := hb2.cell (j := 2) rfl
  have a3 := hc2.cell (j := 3) rfl
  have b3 := hb2.cell (j := 3) rfl
  have a4 := hc2.cell (j := 4) rfl
  have b4 := hb2.cell (j := 4) rfl
  have a5 := hc2.cell (j := 5) rfl
  have b5 := hb2.cell (j := 5) rfl
  have a6 := hc2.cell (j := 6) rfl
  have b6 := hb2.cell (j := 6) rfl
  have a7 := hc2.cell (j := 7) rfl
  have b7 := hb2.cell (j := 7) rfl
  have a8 := hc2.cell (j := 8) rfl
  have b8 := hb2.cell (j := 8) rfl
  go_wp2_with fail
  refine HSM.out.mono ?_
  rintro e w5 ⟨rfl, hc5⟩
  have HS5 := Lib.hid (HST.out w5 hc5)
  have ht5 := hc2.chg hc5 (fun h => h)
  have hu5 := hb2.chg hc5 (fun h => h)
  clear a0 b0 a1 b1 a2 b2 a3 b3 a4 b4 a5 b5 a6 b6 a7 b7 a8 b8
  have a0 := ht5.cell (j := 0) rfl
  have b0 := hu5.cell (j := 0) rfl
  have a1 := ht5.cell (j := 1) rfl
  have b1 := hu5.cell (j := 1) rfl
  have a2 := ht5.cell (j := 2) rfl
  have b2 := hu5.cell (j := 2) rfl
  have a3 := ht5.cell (j := 3) rfl
  have b3 := hu5.cell (j := 3) rfl
  have a4 := ht5.cell (j := 4) rfl
  have b4 := hu5.cell (j := 4) rfl
  have a5 := ht5.cell (j := 5) rfl
  have b5 := hu5.cell (j := 5) rfl
  have a6 := ht5.cell (j := 6) rfl
  have b6 := hu5.cell (j := 6) rfl
  have a7 := ht5.cell (j := 7) rfl
  have b7 := hu5.cell (j := 7) rfl
  have a8 := ht5.cell (j := 8) rfl
  have b8 := hu5.cell (j := 8) rfl
  go_wp2_with fail
  refine HS5.out.mono ?_
  rintro e w6 ⟨rfl, hc6⟩
  go_wp2_with fail
  go_ret
  exact ⟨rfl, (ha2.trans hc5 (fun _ h => .inl h)).trans hc6 (fun _ h => .inl h)⟩
end Go.Proofs.YtmklicodfiggnaaDoor
