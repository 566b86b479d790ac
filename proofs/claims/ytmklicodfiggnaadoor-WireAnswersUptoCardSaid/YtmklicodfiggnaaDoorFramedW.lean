/-
  The walk of framed: one request, asked and read again.
-/
import Derived.Test.YtmklicodfiggnaaDoorBackL
import Derived.Test.YtmklicodfiggnaaDoorAskedW
set_option linter.unusedSimpArgs false
namespace Go.Proofs.YtmklicodfiggnaaDoor
open Go.RowKit

theorem framed_body : reqW ([], 0) ⟨3, 3, ⟨#[97]⟩, 1, 0, 0, 0, 0, 300, 0, false, false, []⟩ = (put 3 ++ (put 3 ++ (put 1 ++ ([97] ++ (put 1 ++ put 300)))), 0) := by
  have hs : ByteArray.size ⟨#[97]⟩ = 1 := rfl
  unfold reqW endW topW numsW textW numsW
  simp [numW, hs]
theorem framed_parse : parseQ wText (reqW ([], 0) ⟨3, 3, ⟨#[97]⟩, 1, 0, 0, 0, 0, 300, 0, false, false, []⟩).1 = (⟨3, 3, ⟨#[97]⟩, 1, 0, 0, 0, 0, 300, 0, false, false, []⟩, ([], false)) := by
  rw [framed_body]
  have n5 : numS (put 300, false) = (300, ([], false)) := by simpa using numS_put 300 [] (by omega)
  unfold parseQ
  simp only
  rw [numS_put 3 _ (by omega)]
  simp only
  rw [numS_put 3 _ (by omega)]
  simp only
  unfold topS wText
  rw [if_neg (by omega), numS_put 1 _ (by omega)]
  simp only
  rw [if_neg (by simp)]
  unfold tailS
  simp only [List.singleton_append, List.take_succ_cons, List.take_zero, List.drop_succ_cons, List.drop_zero]
  rw [if_neg (by omega), if_neg (by omega), if_pos trivial, numS_put 1 _ (by omega)]
  simp only
  rw [n5]
  rfl
theorem framed_ok : askErr ⟨3, 3, ⟨#[97]⟩, 1, 0, 0, 0, 0, 300, 0, false, false, []⟩ = 0 := by
  unfold askErr frameErr
  rw [framed_body]
  have h1 : (put 3).length ≤ 6 := put_length (k := 5) (by omega)
  have h2 : (put 1).length ≤ 6 := put_length (k := 5) (by omega)
  have h3 : (put 300).length ≤ 6 := put_length (k := 5) (by omega)
  rw [if_neg (by decide), if_neg (by simp), if_neg]
  simp only [List.length_append, List.length_cons, List.length_nil]
  omega

set_option maxHeartbeats 2000000 in
set_option maxRecDepth 100000 in
theorem framed_any (w : World) : Calls Tryd.prog 20 #[] w fun e w' => e = .returned (.bool true) ∧ Chg Nil w w' := by
  have HAK := Lib.hid (wask_any 3 3 1 0 0 0 0 300 0 ⟨#[97]⟩ false false [] none 0 w (by simp) (by decide) (by simp) (fun i hi => by simp at hi))
  simp only [List.length_nil, Int.cast_ofNat_Int] at HAK
  go_enter Tryd.func20, Tryd.ntmps20
  go_wp2_with fail
  refine HAK.out.mono ?_
  rintro e w1 ⟨hc1, ⟨hbad, _⟩ | ⟨_, v, rfl, hown, _⟩⟩
  · exact absurd framed_ok hbad
  have HB := Lib.hid (ask_back _ framed_ok [])
  have HP := Lib.hid framed_parse
  simp only [List.append_nil] at HB
  have HCH := Lib.hid (@chain_parse (askB ⟨3, 3, ⟨#[97]⟩, 1, 0, 0, 0, 0, 300, 0, false, false, []⟩))
  obtain ⟨a, cap, rfl, hby, hcap, hm⟩ := hown.room
  have HDK := Lib.hid (wasked_any a _ cap w1 hcap hm hby)
  clear hown hby HAK
  have hP : (chainQ (bodyQ (askB ⟨3, 3, ⟨#[97]⟩, 1, 0, 0, 0, 0, 300, 0, false, false, []⟩))).1 = ⟨3, 3, ⟨#[97]⟩, 1, 0, 0, 0, 0, 300, 0, false, false, []⟩ := by
    rw [HCH.out HB.out.1, HB.out.2.2.1, HP.out]
  rw [hP] at HDK
  have HE := Lib.hid HB.out.1
  have HN := Lib.hid HB.out.2.1
  clear HB HP HCH hP
  generalize askB ⟨3, 3, ⟨#[97]⟩, 1, 0, 0, 0, 0, 300, 0, false, false, []⟩ = L at *
  have e0 : errV 26 0 = .nilIface := rfl
  rw [e0]
  go_wp2_with fail
  refine HDK.out.mono ?_
  rintro e w2 ⟨hc2, ⟨hbd, _⟩ | ⟨_, u, rfl, hou, _⟩⟩
  · exact absurd HE.out hbd
  rw [HN.out, e0]
  obtain ⟨ua, uc, rfl, hrecu, huc⟩ := hou.recs
  have hx := Box.new w2 [.int .i64 3, .int .i64 3, .string ⟨#[97]⟩, .int .i64 1, .int .i64 0, .int .i64 0, .int .i64 0, .int .i64 0, .int .i64 300, .int .i64 0, .bool false, .bool false, .slice ua 0 uc] 24
  have hcx := (Chg.refl Nil w2).alloc (.cells #[.int .i64 3, .int .i64 3, .string ⟨#[97]⟩, .int .i64 1, .int .i64 0, .int .i64 0, .int .i64 0, .int .i64 0, .int .i64 300, .int .i64 0, .bool false, .bool false, .slice ua 0 uc] 24)
  have hch := (hc1.trans hc2 (fun _ h => .inl h)).trans hcx (fun _ h => .inl h)
  have x0 := hx.cell (j := 0) rfl
  have x1 := hx.cell (j := 1) rfl
  have x2 := hx.cell (j := 2) rfl
  have x3 := hx.cell (j := 3) rfl
  have x8 := hx.cell (j := 8) rfl
  clear hou hrecu HDK hc1 hc2 hcx hx HE HN
  simp only [rqCells, List.length_nil]
  go_wp2_with fail
  go_ret
  exact ⟨rfl, hch⟩
end Go.Proofs.YtmklicodfiggnaaDoor
