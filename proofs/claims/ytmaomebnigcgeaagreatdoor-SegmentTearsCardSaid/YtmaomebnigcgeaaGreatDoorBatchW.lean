/-
  The walks of pick and batch.
-/
import Derived.Test.YtmaomebnigcgeaaGreatDoorBoxG
import Derived.Test.YtmaomebnigcgeaaGreatDoorEncL
namespace Go.Proofs.YtmaomebnigcgeaaGreatDoor
open Go.RowKit

/-- A number within n. -/
def pickN (a : Int) (n : Nat) : Nat := (a % 18446744073709551616 % (n : Int)).toNat
theorem pickN_lt {a : Int} {n : Nat} (h : 0 < n) : pickN a n < n := by
  unfold pickN
  have h1 : 0 ≤ a % 18446744073709551616 % (n : Int) := Int.emod_nonneg _ (by omega)
  have h2 : a % 18446744073709551616 % (n : Int) < n := Int.emod_lt_of_pos _ (by omega)
  omega
theorem pick_eq {a : Int} {n : Nat} (h : 0 < n) (hn : n ≤ 1000000) : wrap64 ((IntKind.u64.wrap a).tmod (n : Int)) = (pickN a n : Nat) := by
  rw [IntKind.wrap_u64, Int.tmod_eq_emod_of_nonneg (Int.emod_nonneg _ (by omega))]
  have h1 : 0 ≤ a % 18446744073709551616 % (n : Int) := Int.emod_nonneg _ (by omega)
  have h2 : a % 18446744073709551616 % (n : Int) < n := Int.emod_lt_of_pos _ (by omega)
  unfold pickN
  rw [Int.toNat_of_nonneg h1]
  generalize a % 18446744073709551616 % (n : Int) = x at *
  unfold wrap64
  omega

set_option maxRecDepth 100000 in
theorem pick_any (a : Int) (n : Nat) (w : World) (h0 : 0 < n) (hn : n ≤ 1000000) :
    Calls Tryz.prog 31 #[.int .i64 a, .int .i64 n] w fun e w' => e = .returned (.int .i64 (pickN a n : Nat)) ∧ w = w' := by
  have HP := Lib.hid (pick_eq (a := a) h0 hn)
  go_enter Tryz.func31, Tryz.ntmps31
  go_wp2
  go_ret
  exact ⟨by rw [← HP.out]; rfl, rfl⟩

/-- The facts on slices of records. -/
theorem recsT : SliceT Tryz.prog 39 55 6 64 :=
  ⟨Tryz.underlying39, by
    have h : (Tryz.prog.info? 55).map (fun i => (i.zero, i.size, i.bytes)) = some (some (.agg #[.int .i64 0, .int .i64 0, .bool false, .string ⟨#[]⟩, .bool false, .string ⟨#[]⟩]), 6, 64) := by kernel_rfl
    obtain ⟨i, hi, hz, h1, h2⟩ := info_parts h
    exact ⟨i, _, hi, hz, rfl, h1, h2⟩⟩

/-- The records of a batch that begins at base, from place k on. -/
def numbered (base : Int) : List Rec → List Rec
  | [] => []
  | r :: rs => { r with off := base } :: numbered (base + 1) rs








theorem Rec.cells_one (r : Rec) : ∀ u ∈ r.cells, u.oneCell' = true := by
  intro u hu
  simp only [Rec.cells, List.mem_cons, List.not_mem_nil, or_false] at hu
  rcases hu with rfl | rfl | rfl | rfl | rfl | rfl <;> rfl


/-- A slice of records that is the call's own. -/
def OwnR (e : TypeId) (w : World) (v : Value) (rs : List Rec) : Prop := w.ownsRow 0 e 6 v rs.length (rs.flatMap Rec.cells)
theorem OwnR.nil (e : TypeId) (w : World) : OwnR e w (.slice none 0 0) [] := World.ownsRow_nil w 0 e 6

theorem numbered_length (base : Int) (rs : List Rec) : (numbered base rs).length = rs.length := by
  induction rs generalizing base with
  | nil => rfl
  | cons r rs ih => simp [numbered, ih]
theorem numbered_snoc (base : Int) (rs : List Rec) (r : Rec) : numbered base (rs ++ [r]) = numbered base rs ++ [{ r with off := base + rs.length }] := by
  induction rs generalizing base with
  | nil => simp [numbered]
  | cons x rs ih =>
    simp only [List.cons_append, numbered, ih, List.length_cons]
    congr 3
    simp
    omega

set_option maxRecDepth 100000 in
theorem batch_any (base : Int) (a : Option Addr) (rs : List Rec) (cap : Nat) (w : World) (hb : 0 ≤ base ∧ base ≤ 1099511627776) (hl : rs.length ≤ 100) (hc : RecsAt w a rs) :
    Calls Tryz.prog 28 #[.int .i64 base, .slice a rs.length cap] w fun e w' => Chg Nil w w' ∧ ∃ v, e = .returned (.agg #[.int .i64 base, .int .i64 (base + rs.length), v]) ∧ OwnR 55 w' v (numbered base rs) := by
  go_enter Tryz.func28, Tryz.ntmps28
  go_wp2
  have hx0 : Box ((w.alloc (.cells #[.int .i64 0, .int .i64 0, .slice none 0 0] 41)).alloc (.cells #[.int .i64 base, .int .i64 (base + rs.length), .slice none 0 0] 41)) (w.heap.size + 1) [.int .i64 base, .int .i64 (base + rs.length), .slice none 0 0] 41 := by
    have := Box.new (w.alloc (.cells #[.int .i64 0, .int .i64 0, .slice none 0 0] 41)) [.int .i64 base, .int .i64 (base + rs.length), .slice none 0 0] 41
    simpa using this
  have hz0 : Box ((w.alloc (.cells #[.int .i64 0, .int .i64 0, .slice none 0 0] 41)).alloc (.cells #[.int .i64 base, .int .i64 (base + rs.length), .slice none 0 0] 41)) w.heap.size [.int .i64 0, .int .i64 0, .slice none 0 0] 41 :=
    (Box.new w [.int .i64 0, .int .i64 0, .slice none 0 0] 41).chg ((Chg.refl Nil _).alloc _) (fun h => h)
  have hch0 : Chg Nil w ((w.alloc (.cells #[.int .i64 0, .int .i64 0, .slice none 0 0] 41)).alloc (.cells #[.int .i64 base, .int .i64 (base + rs.length), .slice none 0 0] 41)) := ((Chg.refl Nil _).alloc _).alloc _
  generalize (w.alloc (.cells #[.int .i64 0, .int .i64 0, .slice none 0 0] 41)).alloc (.cells #[.int .i64 base, .int .i64 (base + rs.length), .slice none 0 0] 41) = w1 at *
  go_loopw [6] (fun i wr => ∃ (k : Nat) (v : Value), k ≤ rs.length ∧ i = .int .i64 k ∧ Box wr (w.heap.size + 1) [.int .i64 base, .int .i64 (base + rs.length), v] 41 ∧ Box wr w.heap.size [.int .i64 0, .int .i64 0, .slice none 0 0] 41 ∧
    OwnR 55 wr v (numbered base (rs.take k)) ∧ (∀ b, v.ownBlock = some b → w.heap.size + 1 < b) ∧ Chg Nil w wr) (fun i _ => rs.length - (intOf i).toNat)
  case atStart => exact ⟨0, _, Nat.zero_le _, rfl, hx0, hz0, OwnR.nil _ _, by simp [Value.ownBlock], hch0⟩
  case round =>
    obtain ⟨k, v, hk, rfl, hx, hz, hown, hvb, hch⟩ := hrel
    clear hx0 hz0 hch0
    obtain ⟨vx, vn, vc, rfl⟩ := ownsRow_form hown
    by_cases hlt : k < rs.length
    · obtain ⟨b, off, rfl, hcell⟩ := RecsAt.chg hch hc (fun _ _ h => h) k hlt
      have g0 : wr.cell? ⟨b, off + k * 6, none⟩ = _ := hcell 0 _ rfl
      have g1 := hcell 1 _ rfl
      have g2 := hcell 2 _ rfl
      have g3 := hcell 3 _ rfl
      have g4 := hcell 4 _ rfl
      have g5 := hcell 5 _ rfl
      have hx2 := hx.cell (j := 2) rfl
      have hgx : w.heap.size + 1 < wr.heap.size := (Array.getElem?_eq_some_iff.1 hx).1
      have HS : Hid (numbered base (rs.take (k + 1)) = numbered base (rs.take k) ++ [{ rs[k] with off := base + k }]) := by
        unfold Hid
        rw [take_snoc rs k hlt, numbered_snoc, List.length_take, Nat.min_eq_left hk]
      clear hcell hc
      generalize rs[k] = r at *
      obtain ⟨ro, rt, rk, rkey, rg, rval⟩ := r
      simp only at g0 g1 g2 g3 g4 g5
      have hln : (numbered base (rs.take k)).length = k := by rw [numbered_length, List.length_take]; omega
      have HW := Lib.hid hln
      clear hln
      generalize numbered base (rs.take k) = L at *
      have h63 : L.length + 1 ≤ maxLen := by rw [HW.out]; unfold maxLen; omega
      have hby : (L.length + 1) * 64 ≤ 140737488355328 := by rw [HW.out]; omega
      have hb1 := Box.new (wr.alloc (.cells (Rec.cells ⟨base + k, rt, rk, rkey, rg, rval⟩).toArray 55)) (Rec.cells ⟨base + k, rt, rk, rkey, rg, rval⟩) 55
      have hsz1 : (wr.alloc (.cells (Rec.cells ⟨base + k, rt, rk, rkey, rg, rval⟩).toArray 55)).heap.size = wr.heap.size + 1 := by simp
      rw [hsz1] at hb1
      have HB1 := Lib.hid hb1
      have HH63 := Lib.hid h63
      have HBY := Lib.hid hby
      have HX := Lib.hid hx
      have HOW := Lib.hid hown
      clear hb1 hsz1 h63 hby hx hown
      go_wp2_with (at_builtin; go_must (refine wpList_append_grew rfl (.tmp 29) (.tmp 31) 39 39 rfl recsT _ Tryz.underlying39 (by intro _; simp) _ _ _ rfl ((HOW.out.alloc _).alloc _) _ 1 (Rec.cells ⟨base + k, rt, rk, rkey, rg, rval⟩) rfl (Source.box HB1.out rfl (Rec.cells_one _)) HH63.out HBY.out ?_); intro v2 w2 hown2 hg2 _; obtain ⟨x2, n2, c2, rfl⟩ := ownsRow_form hown2; have hxw : Box w2 (w.heap.size + 1) _ _ := (HX.out.chg (((Chg.refl Nil wr).alloc _).alloc _) (fun h => h)).chg hg2.chg (fun h => by have := hvb _ h; omega); have hx2' := hxw.cell (j := 2) rfl; have hxf := hxw.free 2; have HXW := Lib.hid hxw; clear hxw hx2)
      go_wp2
      go_roundw
      case rel =>
        have hsz2 := hg2.chg.size
        simp at hsz2
        have hchA : Chg Nil wr ((wr.alloc (.cells (Rec.cells ⟨base + k, rt, rk, rkey, rg, rval⟩).toArray 55)).alloc (.cells (Rec.cells ⟨base + k, rt, rk, rkey, rg, rval⟩).toArray 55)) := ((Chg.refl Nil _).alloc _).alloc _
        have hv2 : ∀ b, (Value.slice x2 n2 c2).ownBlock = some b → w.heap.size + 1 < b := by
          intro b hb
          rcases hg2.own b hb with h | h
          · exact hvb b h
          · simp at h; omega
        have hset : Chg (fun i => i = w.heap.size + 1) w2 (w2.setCell ⟨w.heap.size + 1, 2, none⟩ (.slice x2 n2 c2)) := (Chg.refl (fun i => i = w.heap.size + 1) _).setCell (.inl rfl) _
        have hup : Chg Nil w w2 := (hch.trans hchA (fun _ h => .inl h)).trans hg2.chg (fun i hi => .inr (by have := hvb i hi; omega))
        refine ⟨k + 1, .slice x2 n2 c2, by omega, by go_num, HXW.out.set 2 _, ?_, ?_, hv2, hup.trans hset (fun i hi => .inr (by omega))⟩
        · exact ((hz.chg hchA (fun h => h)).chg hg2.chg (fun h => by have := hvb _ h; omega)).chg hset (by omega)
        · have h := ownsRow_chg hown2 hset (fun b hb e => by have := hv2 b hb; omega)
          unfold OwnR
          rw [HS.out, List.length_append, List.flatMap_append]
          simpa using h
      case measure => simp [intOf]; omega
    · have hkl : k = rs.length := by omega
      have HT : Hid (numbered base (rs.take k) = numbered base rs) := by unfold Hid; rw [List.take_of_length_le (by omega)]
      rw [HT.out] at hown
      clear hkl
      have x0 := hx.cell (j := 0) rfl
      have x1 := hx.cell (j := 1) rfl
      have x2 := hx.cell (j := 2) rfl
      have z0 := hz.cell (j := 0) rfl
      have z1 := hz.cell (j := 1) rfl
      have z2 := hz.cell (j := 2) rfl
      have y0 := hz.free 0
      have y1 := hz.free 1
      have y2 := hz.free 2
      go_wp2
      refine bodyPost_ret (v := .agg #[.int .i64 base, .int .i64 (base + rs.length), .slice vx vn vc]) (by simp [results, Tryz.results28, go_sem, z0, z1, z2]) rfl ⟨?_, _, rfl, ?_⟩
      · exact ((hch.setCell (.inr (Nat.le_refl _)) _).setCell (.inr (Nat.le_refl _)) _).setCell (.inr (Nat.le_refl _)) _
      · exact ownsRow_chg hown ((((Chg.refl (fun i => i = w.heap.size) _).setCell (.inl rfl) _).setCell (.inl rfl) _).setCell (.inl rfl) _) (fun b hb e => by have := hvb b hb; omega)
end Go.Proofs.YtmaomebnigcgeaaGreatDoor
