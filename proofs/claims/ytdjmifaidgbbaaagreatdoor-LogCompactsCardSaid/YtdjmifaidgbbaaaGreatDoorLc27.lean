/-
  Records that go are taken out of their row. (Of the logs' seat.)
-/
import Derived.Test.YtdjmifaidgbbaaaGreatDoorLc23
import Derived.Test.YtdjmifaidgbbaaaGreatDoorLc26
import Derived.Test.YtdjmifaidgbbaaaGreatDoorLc08
set_option linter.unusedSimpArgs false
set_option linter.unusedVariables false
namespace Go.Proofs.YtdjmifaidgbbaaaGreatDoor
open Go.RowKit Go.Maps

theorem OwnR.valIn {w : World} {e : TypeId} {a : Option Addr} {n c : Nat} {rs : List Rec} (h : OwnR e w (.slice a n c) rs) (h0 : rs ≠ []) : ∃ g, a = some ⟨g, 0, none⟩ ∧ n = rs.length ∧ rs.length ≤ c ∧ (∀ j, w.frozen? ⟨g, j, none⟩ = false) ∧ ∀ i (h : i < rs.length), ∀ j u, (rs[i].cells)[j]? = some u → w.cell? ⟨g, i * 6 + j, none⟩ = some u := by
  rcases h.2 with ⟨_, hn⟩ | ⟨g, cap, cur, hv, _, hg, hle, _⟩
  · exact absurd (List.eq_nil_of_length_eq_zero hn) h0
  · rw [Value.slice.injEq] at hv
    obtain ⟨rfl, rfl, rfl⟩ := hv
    have e1 : ∀ j, (⟨g, 0, none⟩ : Addr).add j = ⟨g, j, none⟩ := fun j => by unfold Addr.add; split <;> simp_all
    refine ⟨g, rfl, rfl, hle, fun j => by simp [World.frozen?, hg], fun i hi j u hj => ?_⟩
    have := World.ownsRow.cells h (g := g) rfl (i * 6 + j) _ (fm_get (f := Rec.cells) (n := 6) (fun _ => rfl) rs i hi j _ hj)
    rwa [e1] at this
def keepR (fs : List (Nm × Int)) (lim : Int) (r : Rec) : Bool := !goneR fs lim r
/-- How far the row is gone through. -/
structure DelK (fs : List (Nm × Int)) (lim : Int) (rs X : List Rec) (i j : Nat) : Prop where
  len : X.length = rs.length
  kept : X.take i = (rs.take j).filter (keepR fs lim)
  rest : X.drop j = rs.drop j
  cnt : i = ((rs.take j).filter (keepR fs lim)).length
  lt : i < j
  jn : j ≤ rs.length

theorem DelK.skip {fs : List (Nm × Int)} {lim : Int} {rs X : List Rec} {i j : Nat} (h : DelK fs lim rs X i j) (hj : j < rs.length) (hg : goneR fs lim rs[j] = true) : DelK fs lim rs X i (j + 1) := by
  have h1 : (rs.take (j + 1)).filter (keepR fs lim) = (rs.take j).filter (keepR fs lim) := by
    rw [List.take_succ_eq_append_getElem hj, List.filter_append, List.filter_cons_of_neg (by unfold keepR; rw [hg]; simp)]
    simp
  refine ⟨h.len, by rw [h1]; exact h.kept, ?_, by rw [h1]; exact h.cnt, by have := h.lt; omega, by omega⟩
  rw [← List.drop_drop, ← List.drop_drop, h.rest]
theorem DelK.keep {fs : List (Nm × Int)} {lim : Int} {rs X : List Rec} {i j : Nat} (h : DelK fs lim rs X i j) (hj : j < rs.length) (hg : goneR fs lim rs[j] = false) : DelK fs lim rs (X.set i rs[j]) (i + 1) (j + 1) := by
  have hlt := h.lt
  have hix : i < X.length := by rw [h.len]; omega
  have h1 : (rs.take (j + 1)).filter (keepR fs lim) = (rs.take j).filter (keepR fs lim) ++ [rs[j]] := by
    rw [List.take_succ_eq_append_getElem hj, List.filter_append, List.filter_cons_of_pos (by unfold keepR; rw [hg]; rfl)]
    simp
  refine ⟨by rw [List.length_set]; exact h.len, ?_, ?_, by rw [h1, List.length_append, ← h.cnt]; rfl, by omega, by omega⟩
  · rw [h1, ← h.kept, List.take_succ_eq_append_getElem (by rw [List.length_set]; exact hix), List.getElem_set_self, List.take_set_of_le (Nat.le_refl _)]
  · rw [List.drop_set_of_lt (by omega), ← List.drop_drop, ← List.drop_drop, h.rest]
set_option maxHeartbeats 4000000 in
set_option maxRecDepth 20000 in
theorem del_any {w : World} {bm bn ba bk mb : Nat} {now age : Int} {k : Nat} {fs : List (Nm × Int)} (h : GcW w bm bn ba bk mb now age k fs) (hk : k ≤ 800000) (ra : Option Addr) (rs : List Rec) (rc : Nat) (hrow : OwnR 37 w (.slice ra rs.length rc) rs) (hl : rs.length ≤ 1000) (hok : ∀ r ∈ rs, r.key.size ≤ maxLen)
    (hn : ∀ i, (i = bm ∨ i = bn ∨ i = ba ∨ i = bk ∨ i = mb) → (Value.slice ra rs.length rc).ownBlock ≠ some i) :
    Calls Tryz.prog 66 #[.slice ra rs.length rc, askF bm bn ba bk] w fun e w' =>
      e = .returned (.slice ra (rs.filter (keepR fs (wrap64 (now - age)))).length rc) ∧ OwnR 37 w' (.slice ra (rs.filter (keepR fs (wrap64 (now - age)))).length rc) (rs.filter (keepR fs (wrap64 (now - age)))) ∧
      GcW w' bm bn ba bk mb now age (k + (rs.length - (rs.filter (keepR fs (wrap64 (now - age)))).length)) fs ∧ Chg (fun i => i = bk ∨ (rs ≠ [] ∧ (Value.slice ra rs.length rc).ownBlock = some i)) w w' := by
  obtain ⟨lim, hlim⟩ : ∃ lim, wrap64 (now - age) = lim := ⟨_, rfl⟩
  have hidx := idx_any h (by omega) ra rs rc (by
    obtain ⟨a', c', he, hr, _⟩ := hrow.recs
    obtain ⟨rfl, _, _⟩ := Value.slice.inj he
    exact hr) hl hok (fun h0 x hx e => by
    obtain ⟨g, hg, _⟩ := hrow.valIn h0
    rw [hg] at hx
    obtain rfl := Option.some.inj hx
    exact hn bk (.inr (.inr (.inr (.inl rfl)))) (by rw [hg, ← e]; rfl))
  rw [hlim]
  unfold askF at hidx ⊢
  have HIDX := Lib.hid hidx
  have HROW := Lib.hid hrow
  have HOK := Lib.hid hok
  have HN := Lib.hid hn
  have HLIM := Lib.hid hlim
  have HKK := Lib.hid hk
  clear h hrow hok hn hidx hlim hk
  go_enter Tryz.func66, Tryz.ntmps66
  go_wp2_with fail
  refine HIDX.out.mono ?_
  rintro e w1 ⟨hix, hc1⟩
  have HC1 := Lib.hid hc1
  have HROW1 : Hid (OwnR 37 w1 (.slice ra rs.length rc) rs) := ownsRow_chg HROW.out hc1 (fun i hi e => HN.out bk (.inr (.inr (.inr (.inl rfl)))) (e ▸ hi))
  clear hc1
  rcases hix with ⟨hall, rfl, hg⟩ | ⟨i0, hi0, hgo, hno, rfl, hg⟩
  · have HG := Lib.hid hg
    have hfl : rs.filter (keepR fs lim) = rs := by
      rw [List.filter_eq_self]
      intro r hr
      unfold keepR
      rw [← HLIM.out, hall r hr]
      rfl
    have HFL := Lib.hid hfl
    clear hg hall hfl
    go_wp2_with fail
    go_ret
    rw [HFL.out, Nat.sub_self, Nat.add_zero]
    exact ⟨rfl, HROW1.out, HG.out, HC1.out.weak (fun i hi => .inl (.inl hi))⟩
  · have hrne : rs ≠ [] := fun h0 => by rw [h0] at hi0; simp at hi0
    have HD0 : Hid (DelK fs lim rs rs i0 (i0 + 1)) := by
      have h1 : (rs.take i0).filter (keepR fs lim) = rs.take i0 := List.filter_eq_self.2 (fun r hr => by unfold keepR; rw [← HLIM.out, hno r hr]; rfl)
      have h2 : (rs.take (i0 + 1)).filter (keepR fs lim) = rs.take i0 := by
        rw [List.take_succ_eq_append_getElem hi0, List.filter_append, h1, List.filter_cons_of_neg (by unfold keepR; rw [← HLIM.out, hgo]; simp)]
        simp
      exact ⟨rfl, by rw [h2], rfl, by rw [h2, List.length_take]; omega, by omega, by omega⟩
    have HG := Lib.hid hg
    obtain ⟨g, hg0, -, hrc, -, -⟩ := HROW1.out.valIn hrne
    subst hg0
    have HNG : Hid (g ≠ bm ∧ g ≠ bn ∧ g ≠ ba ∧ g ≠ bk ∧ g ≠ mb) := ⟨fun e => HN.out bm (.inl rfl) (by rw [← e]; rfl), fun e => HN.out bn (.inr (.inl rfl)) (by rw [← e]; rfl), fun e => HN.out ba (.inr (.inr (.inl rfl))) (by rw [← e]; rfl), fun e => HN.out bk (.inr (.inr (.inr (.inl rfl)))) (by rw [← e]; rfl), fun e => HN.out mb (.inr (.inr (.inr (.inr rfl)))) (by rw [← e]; rfl)⟩
    have hne1 : ((i0 : Int) == -1) = false := beq_eq_false_iff_ne.2 (by omega)
    have HR0 := Lib.hid hrne
    have HI0 := Lib.hid hi0
    obtain ⟨n, hn⟩ : ∃ n, rs.length = n := ⟨_, rfl⟩
    have HNN := Lib.hid hn
    rw [hn] at hl hrc HROW1 hi0
    rw [hn]
    clear hg hgo hno hrne hn HIDX
    go_wp2_with fail
    go_loopw [5, 6] (fun iv jv wr => ∃ (wq : World) (i j : Nat) (X : List Rec), wq = wr ∧ iv = .int .i64 i ∧ jv = .int .i64 j ∧ Hid (DelK fs lim rs X i j) ∧ OwnR 37 wr (.slice (some ⟨g, 0, none⟩) n rc) X ∧ GcW wr bm bn ba bk mb now age (k + (j - i)) fs ∧ Chg (fun i => i = bk ∨ i = g) w wr) (fun _ jv _ => n - (RowKit.intOf jv).toNat)
    case atStart => exact ⟨_, i0, i0 + 1, rs, rfl, rfl, by go_num, HD0.out, HROW1.out, by rw [show i0 + 1 - i0 = 1 by omega]; exact HG.out, HC1.out.weak (fun i hi => .inl (.inl hi))⟩
    case round =>
      obtain ⟨wr, i, j, X, rfl, rfl, rfl, hdk, hox, hgw, hc⟩ := hrel
      have HDK : Hid _ := hdk
      have HOX := Lib.hid hox
      have HGW := Lib.hid hgw
      have HC := Lib.hid hc
      have hXl : X.length = n := by rw [HDK.out.len]; exact HNN.out
      have hij : i < j := HDK.out.lt
      have hjn : j ≤ n := by rw [← HNN.out]; exact HDK.out.jn
      have hX0 : X ≠ [] := fun h0 => by rw [h0] at hXl; simp at hXl; omega
      obtain ⟨g', hg', -, -, hfr, hcl⟩ := hox.valIn hX0
      obtain rfl : g = g' := by have := Option.some.inj hg'; exact (Addr.mk.inj this).1
      have HCL := Lib.hid hcl
      have HFR := Lib.hid hfr
      have HXL := Lib.hid hXl
      clear hdk hox hgw hc hcl hfr hg' hX0 hXl
      by_cases hjl : j < n
      · have hjj : (j : Int) < (n : Int) := by omega
        have hjx : j < X.length := by rw [HXL.out]; exact hjl
        have hjr : j < rs.length := by rw [HNN.out]; exact hjl
        have hxj : X[j] = rs[j] := by
          have h1 : (X.drop j)[0]? = (rs.drop j)[0]? := by rw [HDK.out.rest]
          rw [List.getElem?_drop, List.getElem?_drop, Nat.add_zero, List.getElem?_eq_getElem hjx, List.getElem?_eq_getElem hjr] at h1
          exact Option.some.inj h1
        obtain ⟨q, hq⟩ : ∃ q : Rec, rs[j] = q := ⟨_, rfl⟩
        have hcell : ∀ t u, (q.cells)[t]? = some u → wr.cell? ⟨g, j * 6 + t, none⟩ = some u := by rw [← hq, ← hxj]; exact HCL.out j hjx
        have HGA := Lib.hid (fun (w' : World) (h : GcW w' bm bn ba bk mb now age (k + (j - i)) fs) => gone_any h (by have := HKK.out; omega) q (HOK.out q (by rw [← hq]; exact List.getElem_mem hjr)))
        have HQ : Hid (∀ h : j < rs.length, rs[j] = q) := fun _ => hq
        have HJL := Lib.hid hjl
        rw [HLIM.out] at HGA
        obtain ⟨gq, hgq⟩ : ∃ gq, goneR fs lim q = gq := ⟨_, rfl⟩
        rw [hgq] at HGA
        have HGQ := Lib.hid hgq
        clear hxj hq hjx hjr hjl hgq
        obtain ⟨qo, qt, qk, qkey, qg, qv⟩ := q
        have earr : (Rec.cells ⟨qo, qt, qk, qkey, qg, qv⟩).toArray = #[.int .i64 qo, .int .i64 qt, .bool qk, .string qkey, .bool qg, .string qv] := rfl
        rw [earr] at HGA
        clear earr
        have z0 := hcell 0 _ rfl
        have z1 := hcell 1 _ rfl
        have z2 := hcell 2 _ rfl
        have z3 := hcell 3 _ rfl
        have z4 := hcell 4 _ rfl
        have z5 := hcell 5 _ rfl
        rw [Nat.add_zero] at z0
        clear hcell
        have hbr := Box.new wr [.int .i64 qo, .int .i64 qt, .bool qk, .string qkey, .bool qg, .string qv] 37
        have halr := (Chg.refl Nil wr).alloc (.cells #[.int .i64 qo, .int .i64 qt, .bool qk, .string qkey, .bool qg, .string qv] 37)
        have hbr : Box (wr.alloc (.cells #[.int .i64 qo, .int .i64 qt, .bool qk, .string qkey, .bool qg, .string qv] 37)) wr.heap.size [.int .i64 qo, .int .i64 qt, .bool qk, .string qkey, .bool qg, .string qv] 37 := hbr
        have hgl : g < wr.heap.size ∧ bk < wr.heap.size := ⟨ownsRow_lt HOX.out g rfl, (Array.getElem?_eq_some_iff.1 HGW.out.k).1⟩
        have HGL := Lib.hid hgl
        go_upto_region 8 with fail
        clear z0 z1 z2 z3 z4 z5
        have HAL := Lib.hid halr
        generalize hw5 : wr.alloc (.cells #[.int .i64 qo, .int .i64 qt, .bool qk, .string qkey, .bool qg, .string qv] 37) = w5 at *
        obtain ⟨gr, hgr⟩ : ∃ gr, wr.heap.size = gr := ⟨_, rfl⟩
        rw [hgr] at hbr hgl
        rw [hgr]
        have HGR := Lib.hid hgr
        have HBR := Lib.hid hbr
        have y0 := hbr.cell (j := 0) rfl
        have y1 := hbr.cell (j := 1) rfl
        have y2 := hbr.cell (j := 2) rfl
        have y3 := hbr.cell (j := 3) rfl
        have y4 := hbr.cell (j := 4) rfl
        have y5 := hbr.cell (j := 5) rfl
        have HG5 := Lib.hid (HGA.out w5 (HGW.out.nil HAL.out (fun _ _ h => h)))
        clear hbr halr hgr hw5
        go_wp2_with fail
        refine HG5.out.mono ?_
        rintro e w6 ⟨rfl, hg6, hc6⟩
        have HG6 := Lib.hid hg6
        have HC56 : Hid (Chg (fun i => i = bk) wr w6) := (HAL.out.weak (fun _ h => h.elim)).trans hc6 (fun j hj => .inl hj)
        have HOX6 : Hid (OwnR 37 w6 (.slice (some ⟨g, 0, none⟩) n rc) X) := ownsRow_chg HOX.out HC56.out (fun t ht e => by obtain rfl : g = t := Option.some.inj ht; exact HNG.out.2.2.2.1 e)
        have HBR6 := Lib.hid (HBR.out.chg hc6 (fun e => by omega))
        clear hg6 hc6 HG5 HGA y0 y1 y2 y3 y4 y5 hgl
        cases gq with
        | true =>
          have hdk := HDK.out.skip (by rw [HNN.out]; exact HJL.out) (by rw [HQ.out (by rw [HNN.out]; exact HJL.out)]; exact HGQ.out)
          have HDK2 := Lib.hid hdk
          clear hdk
          go_wp2_with fail
          go_roundw
          case rel => exact ⟨_, i, j + 1, X, rfl, rfl, by go_num, HDK2.out, HOX6.out, by rw [show j + 1 - i = j - i + 1 by omega]; exact HG6.out, HC.out.trans HC56.out (fun t ht => .inl (.inl ht))⟩
          case measure => exact meas_two HJL.out
        | false =>
          have y0 := HBR6.out.cell (j := 0) rfl
          have y1 := HBR6.out.cell (j := 1) rfl
          have y2 := HBR6.out.cell (j := 2) rfl
          have y3 := HBR6.out.cell (j := 3) rfl
          have y4 := HBR6.out.cell (j := 4) rfl
          have y5 := HBR6.out.cell (j := 5) rfl
          have hii : (i : Int) < (n : Int) := by omega
          have hix : i < X.length := by rw [HXL.out]; omega
          obtain ⟨x, hx⟩ : ∃ x : Rec, X[i] = x := ⟨_, rfl⟩
          have hX0 : X ≠ [] := fun h0 => by rw [h0] at hix; simp at hix
          obtain ⟨g', hg', -, -, hfr6, hcl6⟩ := HOX6.out.valIn hX0
          obtain rfl : g = g' := by have := Option.some.inj hg'; exact (Addr.mk.inj this).1
          have hcx : ∀ t u, (x.cells)[t]? = some u → w6.cell? ⟨g, i * 6 + t, none⟩ = some u := by rw [← hx]; exact hcl6 i hix
          have x0 := hcx 0 _ rfl
          have x1 := hcx 1 _ rfl
          have x2 := hcx 2 _ rfl
          have x3 := hcx 3 _ rfl
          have x4 := hcx 4 _ rfl
          have x5 := hcx 5 _ rfl
          rw [Nat.add_zero] at x0
          have f0 := hfr6 (i * 6)
          have f1 := hfr6 (i * 6 + 1)
          have f2 := hfr6 (i * 6 + 2)
          have f3 := hfr6 (i * 6 + 3)
          have f4 := hfr6 (i * 6 + 4)
          have f5 := hfr6 (i * 6 + 5)
          clear hcx hfr6 hcl6 hg' hX0 hx hix
          go_wp2_with fail
          have hdk := HDK.out.keep (by rw [HNN.out]; exact HJL.out) (by rw [HQ.out (by rw [HNN.out]; exact HJL.out)]; exact HGQ.out)
          rw [HQ.out (by rw [HNN.out]; exact HJL.out)] at hdk
          have hput := HOX6.out.put i (by rw [HXL.out]; omega) ⟨qo, qt, qk, qkey, qg, qv⟩
          have hcp := put_chg w6 g (i * 6) (i * 6 + 1) (i * 6 + 2) (i * 6 + 3) (i * 6 + 4) (i * 6 + 5) (.int .i64 qo) (.int .i64 qt) (.bool qk) (.string qkey) (.bool qg) (.string qv)
          have hgc := HG6.out.nil hcp (fun t ht e => by rcases ht with rfl | rfl | rfl | rfl | rfl <;> first | exact HNG.out.1 e.symm | exact HNG.out.2.1 e.symm | exact HNG.out.2.2.1 e.symm | exact HNG.out.2.2.2.1 e.symm | exact HNG.out.2.2.2.2 e.symm)
          go_roundw
          case rel => exact ⟨_, i + 1, j + 1, _, rfl, by go_num, by go_num, hdk, hput, by rw [show j + 1 - (i + 1) = j - i by omega]; exact hgc, (HC.out.trans HC56.out (fun t ht => .inl (.inl ht))).trans hcp (fun t ht => .inl (.inr ht))⟩
          case measure => exact meas_two HJL.out
      · have hje : j = n := by omega
        have hjj : ¬ (j : Int) < (n : Int) := by omega
        have hfin : rs.take j = rs := List.take_of_length_le (by rw [HNN.out]; omega)
        have hkept : X.take i = rs.filter (keepR fs lim) := by rw [HDK.out.kept, hfin]
        have hcnt : i = (rs.filter (keepR fs lim)).length := by have h1 := HDK.out.cnt; rw [hfin] at h1; exact h1
        have hblk : ∃ cur, wr.heap[g]? = some (.cells cur 37 (0, 0)) ∧ cur.size = rc * 6 ∧ n ≤ rc := by
          rcases HOX.out.2 with ⟨hv, _⟩ | ⟨g', cap', cur', hv', _, hg', hle, _, hcs, _⟩
          · cases hv
          · obtain ⟨ha, hn2, hc2⟩ := Value.slice.inj hv'
            obtain rfl : g = g' := by have := Option.some.inj ha; exact (Addr.mk.inj this).1
            subst hc2
            exact ⟨cur', hg', hcs, by rw [hn2]; exact hle⟩
        obtain ⟨cur, hcur, hcs, hnc⟩ := hblk
        have hmul : i * 6 + (n - i) * 6 ≤ rc * 6 := by omega
        obtain ⟨vs, hvl, hcl⟩ := clear_recs (w := wr) (g := g) (o := i * 6) (n := n - i) (c := rc - i) hcur (by rw [hcs]; exact hmul) (by omega)
        have hown := HOX.out.cleared hcur (i := i) (by rw [HXL.out]; omega) vs (by rw [hvl, hcs]; exact hmul)
        have hsc := setRow_chg wr g (cur.toList.take (i * 6) ++ vs ++ cur.toList.drop (i * 6 + vs.length)).toArray
        rw [hkept] at hown
        have hgc := HGW.out.nil hsc (fun t ht e => by rcases ht with rfl | rfl | rfl | rfl | rfl <;> first | exact HNG.out.1 e.symm | exact HNG.out.2.1 e.symm | exact HNG.out.2.2.1 e.symm | exact HNG.out.2.2.2.1 e.symm | exact HNG.out.2.2.2.2 e.symm)
        have HOWN := Lib.hid hown
        have HGC := Lib.hid hgc
        have HSC := Lib.hid hsc
        have HCN := Lib.hid hcnt
        have HJE := Lib.hid hje
        have hin : i ≤ n := by omega
        have hini : (i : Int) ≤ (n : Int) := by omega
        have hi0' : (0 : Int) ≤ (i : Int) := by omega
        have hirc : ¬ rc = i := by omega
        have hirl : (i : Int) ≤ (rc : Int) := by omega
        generalize wr.setRow g (cur.toList.take (i * 6) ++ vs ++ cur.toList.drop (i * 6 + vs.length)).toArray = w9 at *
        clear hown hgc hsc hfin hkept hcnt hcur hcs hnc hmul hvl hjl hje
        go_wp2_with fail
        go_ret
        rw [← HCN.out]
        refine ⟨rfl, HOWN.out, ?_, (HC.out.trans HSC.out (fun t ht => .inl (.inr ht))).weak (fun t ht => .inl (ht.imp id (fun e => ⟨HR0.out, by rw [e]; rfl⟩)))⟩
        have h1 := HGC.out
        rw [HJE.out] at h1
        rw [HNN.out]
        exact h1
end Go.Proofs.YtdjmifaidgbbaaaGreatDoor

/-
  The search among a segment's places.
-/
set_option linter.unusedSimpArgs false
set_option linter.unusedVariables false
namespace Go.Proofs.YtdjmifaidgbbaaaGreatDoor
open Go.RowKit

theorem cmp_any (q : Pl) (n : Int) (w : World) :
    Calls Tryz.prog 105 #[.agg #[.int .i64 (q.at' : Nat), .int .i64 (q.size : Nat), .int .i64 q.base, .int .i64 q.en, .int .i64 q.time], .int .i64 n] w fun e w' => e = .returned (.int .i64 (if q.en ≤ n then -1 else 1)) ∧ Chg Nil w w' := by
  obtain ⟨qa, qs, qb, qe, qt⟩ := q
  have HAL := Lib.hid ((Chg.refl Nil w).alloc (.cells #[.int .i64 (qa : Nat), .int .i64 (qs : Nat), .int .i64 qb, .int .i64 qe, .int .i64 qt] 157))
  have hbx : Box (w.alloc (.cells #[.int .i64 (qa : Nat), .int .i64 (qs : Nat), .int .i64 qb, .int .i64 qe, .int .i64 qt] 157)) w.heap.size [.int .i64 (qa : Nat), .int .i64 (qs : Nat), .int .i64 qb, .int .i64 qe, .int .i64 qt] 157 := Box.new _ _ _
  have y3 := hbx.cell (j := 3) rfl
  clear hbx
  by_cases h : qe ≤ n
  · have he : (if qe ≤ n then (-1 : Int) else 1) = -1 := if_pos h
    have HE := Lib.hid he
    clear he
    go_enter Tryz.func105, Tryz.ntmps105
    go_wp2_with fail
    go_ret
    exact ⟨rfl, HAL.out⟩
  · have he : (if qe ≤ n then (-1 : Int) else 1) = 1 := if_neg h
    have HE := Lib.hid he
    clear he
    go_enter Tryz.func105, Tryz.ntmps105
    go_wp2_with fail
    go_ret
    exact ⟨rfl, HAL.out⟩

/-- What the search tells. -/
def SearchAt (l : List Pl) (n : Int) (w : World) (e : Ending) (w' : World) : Prop :=
  ∃ (k : Nat) (b : Value), e = .returned (.tuple #[.int .i64 k, b]) ∧ k ≤ l.length ∧ (∀ i (h : i < l.length), i < k → l[i].en ≤ n) ∧ (∀ h : k < l.length, n < l[k].en) ∧ Chg Nil w w'

set_option maxHeartbeats 2000000 in
set_option maxRecDepth 20000 in
theorem search_any {w : World} {a : Option Addr} {c : Nat} (l : List Pl) (hn : l.length ≤ 1000000) (hcell : ∀ i (h : i < l.length), ∃ g, a = some ⟨g, 0, none⟩ ∧ ∀ j u, (l[i].cells)[j]? = some u → w.cell? ⟨g, i * 5 + j, none⟩ = some u)
    (hmono : ∀ i j (h : j < l.length) (hij : i ≤ j), (l[i]'(Nat.lt_of_le_of_lt hij h)).en ≤ l[j].en) (n : Int) :
    Calls Tryz.prog 104 #[.slice a l.length c, .int .i64 n, .func (.func 105) #[] #[]] w (SearchAt l n w) := by
  have HCELL := Lib.hid hcell
  have HM := Lib.hid hmono
  clear hcell hmono
  go_enter Tryz.func104, Tryz.ntmps104
  go_wp2_with fail
  go_loopw [9, 10] (fun iv jv wr => ∃ (wq : World) (i j : Nat), wq = wr ∧ i ≤ j ∧ j ≤ l.length ∧ iv = .int .i64 i ∧ jv = .int .i64 j ∧ Hid (∀ t (h : t < l.length), t < i → l[t].en ≤ n) ∧ Hid (∀ t (h : t < l.length), j ≤ t → n < l[t].en) ∧ Chg Nil w wr) (fun iv jv _ => (RowKit.intOf jv).toNat - (RowKit.intOf iv).toNat)
  case atStart => exact ⟨_, 0, l.length, rfl, by omega, by omega, rfl, rfl, fun t h ht => by omega, fun t h ht => by omega, Chg.refl _ _⟩
  case round =>
    obtain ⟨wr, i, j, rfl, hij, hjl, rfl, rfl, hlo, hhi, hc⟩ := hrel
    have HLO := hlo
    have HHI := hhi
    have HC := Lib.hid hc
    clear hlo hhi hc
    by_cases hlt : i < j
    · obtain ⟨m, hm⟩ : ∃ m, (i + j) / 2 = m := ⟨_, rfl⟩
      have hm1 : i ≤ m := by omega
      have hm2 : m < j := by omega
      have hml : m < l.length := by omega
      obtain ⟨b, rfl, hz⟩ := HCELL.out m hml
      obtain ⟨q, hq⟩ : ∃ q, q = l[m] := ⟨_, rfl⟩
      rw [← hq] at hz
      have HQ := Lib.hid hq
      clear hq
      have HCM := Lib.hid (fun (w' : World) => cmp_any q n w')
      obtain ⟨qa, qs, qb, qe, qt⟩ := q
      have z0 := HC.out.cell (hz 0 _ rfl) (fun h => h)
      have z1 := HC.out.cell (hz 1 _ rfl) (fun h => h)
      have z2 := HC.out.cell (hz 2 _ rfl) (fun h => h)
      have z3 := HC.out.cell (hz 3 _ rfl) (fun h => h)
      have z4 := HC.out.cell (hz 4 _ rfl) (fun h => h)
      rw [Nat.add_zero] at z0
      clear hz
      have hmi : ((i : Int) + (j : Int)) / 2 = (m : Int) := by omega
      have hw64 : wrap64 ((i : Int) + (j : Int)) = (i : Int) + (j : Int) := by unfold wrap64; omega
      by_cases hle : qe ≤ n
      · have HL := Lib.hid hle
        clear hle
        go_wp2_with fail
        refine (HCM.out _).mono ?_
        rintro e w7 ⟨rfl, hc7⟩
        have he : (if qe ≤ n then (-1 : Int) else 1) = -1 := if_pos HL.out
        rw [he]
        have HC7 := Lib.hid (HC.out.trans hc7 (fun _ h => h.elim))
        clear he hc7 z0 z1 z2 z3 z4
        go_wp2_with fail
        go_roundw
        case rel =>
          refine ⟨_, m + 1, j, rfl, by omega, hjl, by go_num, rfl, fun t h ht => ?_, HHI, HC7.out⟩
          have h1 := HM.out t m hml (by omega)
          have h2 : l[m].en ≤ n := by rw [← HQ.out]; exact HL.out
          omega
        case measure => simp [RowKit.intOf]; omega
      · have HL := Lib.hid hle
        clear hle
        go_wp2_with fail
        refine (HCM.out _).mono ?_
        rintro e w7 ⟨rfl, hc7⟩
        have he : (if qe ≤ n then (-1 : Int) else 1) = 1 := if_neg (Int.not_le.2 HL.out)
        rw [he]
        have HC7 := Lib.hid (HC.out.trans hc7 (fun _ h => h.elim))
        clear he hc7 z0 z1 z2 z3 z4
        go_wp2_with fail
        go_roundw
        case rel =>
          refine ⟨_, i, m, rfl, by omega, by omega, rfl, by go_num, HLO, fun t h ht => ?_, HC7.out⟩
          have h1 := HM.out m t h (by omega)
          have h2 : n < l[m].en := by rw [← HQ.out]; exact HL.out
          omega
        case measure => simp [RowKit.intOf]; omega
    · obtain rfl : i = j := by omega
      have hii : ¬ ((i : Int) < (i : Int)) := by omega
      clear hlt
      by_cases hil : i < l.length
      · obtain ⟨b, rfl, hz⟩ := HCELL.out i hil
        obtain ⟨q, hq⟩ : ∃ q, q = l[i] := ⟨_, rfl⟩
        rw [← hq] at hz
        have HCM := Lib.hid (fun (w' : World) => cmp_any q n w')
        obtain ⟨qa, qs, qb, qe, qt⟩ := q
        have z0 := HC.out.cell (hz 0 _ rfl) (fun h => h)
        have z1 := HC.out.cell (hz 1 _ rfl) (fun h => h)
        have z2 := HC.out.cell (hz 2 _ rfl) (fun h => h)
        have z3 := HC.out.cell (hz 3 _ rfl) (fun h => h)
        have z4 := HC.out.cell (hz 4 _ rfl) (fun h => h)
        rw [Nat.add_zero] at z0
        clear hz hq
        have hil' : (i : Int) < (l.length : Int) := by omega
        go_wp2_with fail
        refine (HCM.out _).mono ?_
        rintro e w7 ⟨rfl, hc7⟩
        have HC7 := Lib.hid (HC.out.trans hc7 (fun _ h => h.elim))
        clear hc7 z0 z1 z2 z3 z4
        obtain ⟨x, hx⟩ : ∃ x, (if qe ≤ n then (-1 : Int) else 1) = x := ⟨_, rfl⟩
        have hx0 : (x == 0) = false := by
          rw [← hx]
          split <;> rfl
        have e1 : (if (Pl.mk qa qs qb qe qt).en ≤ n then (-1 : Int) else 1) = x := hx
        rw [e1]
        clear e1 hx
        go_wp2_with fail
        go_ret2
        unfold SearchAt
        exact ⟨i, _, rfl, by omega, HLO, fun h => HHI i h (Nat.le_refl _), HC7.out⟩
      · have hil' : ¬ (i : Int) < (l.length : Int) := by omega
        go_wp2_with fail
        go_ret2
        unfold SearchAt
        exact ⟨i, _, rfl, by omega, HLO, fun h => absurd h hil, HC.out⟩
end Go.Proofs.YtdjmifaidgbbaaaGreatDoor
