/-
  The walk of sameRequest, where both requests are the same.
-/
import Derived.Test.YtmklicodfiggnaaDoorAskedC
import Derived.Test.YtmklicodfiggnaaDoorSameW
set_option linter.unusedSimpArgs false
namespace Go.Proofs.YtmklicodfiggnaaDoor
open Go.RowKit

set_option maxHeartbeats 4000000 in
set_option maxRecDepth 100000 in
theorem sameQ_any (f0 f1 f3 f4 f5 f6 f7 f8 f9 : Int) (f2 : ByteArray) (f10 f11 : Bool) (rs : List Rec) (x y : Option Addr) (cx cy : Nat) (w : World) (hl : rs.length ≤ maxLen) (hx : RecsAt w x rs) (hy : RecsAt w y rs) :
    Calls Tryd.prog 16 #[.agg #[.int .i64 f0, .int .i64 f1, .string f2, .int .i64 f3, .int .i64 f4, .int .i64 f5, .int .i64 f6, .int .i64 f7, .int .i64 f8, .int .i64 f9, .bool f10, .bool f11, .slice x rs.length cx], .agg #[.int .i64 f0, .int .i64 f1, .string f2, .int .i64 f3, .int .i64 f4, .int .i64 f5, .int .i64 f6, .int .i64 f7, .int .i64 f8, .int .i64 f9, .bool f10, .bool f11, .slice y rs.length cy]] w fun e w' => e = .returned (.bool true) ∧ Chg Nil w w' := by
  have ha1 := (Chg.refl Nil w).alloc (.cells #[.int .i64 f0, .int .i64 f1, .string f2, .int .i64 f3, .int .i64 f4, .int .i64 f5, .int .i64 f6, .int .i64 f7, .int .i64 f8, .int .i64 f9, .bool f10, .bool f11, .slice x rs.length cx] 24)
  have hb1 := Box.new w [.int .i64 f0, .int .i64 f1, .string f2, .int .i64 f3, .int .i64 f4, .int .i64 f5, .int .i64 f6, .int .i64 f7, .int .i64 f8, .int .i64 f9, .bool f10, .bool f11, .slice x rs.length cx] 24
  go_enter Tryd.func16, Tryd.ntmps16
  go_upto_region 1 with fail
  have hsz1 : (w.alloc (.cells #[.int .i64 f0, .int .i64 f1, .string f2, .int .i64 f3, .int .i64 f4, .int .i64 f5, .int .i64 f6, .int .i64 f7, .int .i64 f8, .int .i64 f9, .bool f10, .bool f11, .slice x rs.length cx] 24)).heap.size = w.heap.size + 1 := by simp
  have hb2 := Box.new (w.alloc (.cells #[.int .i64 f0, .int .i64 f1, .string f2, .int .i64 f3, .int .i64 f4, .int .i64 f5, .int .i64 f6, .int .i64 f7, .int .i64 f8, .int .i64 f9, .bool f10, .bool f11, .slice x rs.length cx] 24)) [.int .i64 f0, .int .i64 f1, .string f2, .int .i64 f3, .int .i64 f4, .int .i64 f5, .int .i64 f6, .int .i64 f7, .int .i64 f8, .int .i64 f9, .bool f10, .bool f11, .slice y rs.length cy] 24
  rw [hsz1] at hb2
  have ha2 := ha1.alloc (.cells #[.int .i64 f0, .int .i64 f1, .string f2, .int .i64 f3, .int .i64 f4, .int .i64 f5, .int .i64 f6, .int .i64 f7, .int .i64 f8, .int .i64 f9, .bool f10, .bool f11, .slice y rs.length cy] 24)
  have hc2 := hb1.chg ((Chg.refl Nil _).alloc (.cells #[.int .i64 f0, .int .i64 f1, .string f2, .int .i64 f3, .int .i64 f4, .int .i64 f5, .int .i64 f6, .int .i64 f7, .int .i64 f8, .int .i64 f9, .bool f10, .bool f11, .slice y rs.length cy] 24)) (fun h => h)
  clear hsz1 hb1 ha1
  generalize ((w.alloc (.cells #[.int .i64 f0, .int .i64 f1, .string f2, .int .i64 f3, .int .i64 f4, .int .i64 f5, .int .i64 f6, .int .i64 f7, .int .i64 f8, .int .i64 f9, .bool f10, .bool f11, .slice x rs.length cx] 24)).alloc (.cells #[.int .i64 f0, .int .i64 f1, .string f2, .int .i64 f3, .int .i64 f4, .int .i64 f5, .int .i64 f6, .int .i64 f7, .int .i64 f8, .int .i64 f9, .bool f10, .bool f11, .slice y rs.length cy] 24)) = w2 at *
  have HSM := Lib.hid (same_any x y rs cx cy w2 hl (hx.chg ha2 (fun _ _ h => h)) (hy.chg ha2 (fun _ _ h => h)))
  generalize hA : w.heap.size = A at *
  generalize hB : A + 1 = B at *
  clear hA hB
  have a0 := hc2.cell (j := 0) rfl
  have b0 := hb2.cell (j := 0) rfl
  have a1 := hc2.cell (j := 1) rfl
  have b1 := hb2.cell (j := 1) rfl
  have a2 := hc2.cell (j := 2) rfl
  have b2 := hb2.cell (j := 2) rfl
  have a3 := hc2.cell (j := 3) rfl
  have b3 := hb2.cell (j := 3) rfl
  have a4 := hc2.cell (j := 4) rfl
  have b4 := hb2.cell (j := 4) rfl
  have a5 := hc2.cell (j := 5) rfl
  have b5 := hb2.cell (j := 5) rfl
  have a6 := hc2.cell (j := 6) rfl
  have b6 := hb2.cell (j := 6) rfl
  have a7 := hc2.cell (j := 7) rfl
  have b7 := hb2.cell (j := 7) rfl
  have a8 := hc2.cell (j := 8) rfl
  have b8 := hb2.cell (j := 8) rfl
  have a9 := hc2.cell (j := 9) rfl
  have b9 := hb2.cell (j := 9) rfl
  have a10 := hc2.cell (j := 10) rfl
  have b10 := hb2.cell (j := 10) rfl
  have a11 := hc2.cell (j := 11) rfl
  have b11 := hb2.cell (j := 11) rfl
  have a12 := hc2.cell (j := 12) rfl
  have b12 := hb2.cell (j := 12) rfl
  go_wp2_with fail
  refine HSM.out.mono ?_
  rintro e w5 ⟨rfl, hc5⟩
  go_wp2_with fail
  go_ret
  exact ⟨rfl, ha2.trans hc5 (fun _ h => .inl h)⟩
end Go.Proofs.YtmklicodfiggnaaDoor
