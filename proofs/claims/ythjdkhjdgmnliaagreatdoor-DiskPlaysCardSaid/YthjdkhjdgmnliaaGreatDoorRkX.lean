/-
  A crash of the document's disk.
-/
import Derived.Test.YthjdkhjdgmnliaaGreatDoorRkC
import Derived.Deep.CutBlock
set_option linter.unusedSimpArgs false
set_option linter.unusedVariables false
namespace Go.Proofs.YthjdkhjdgmnliaaGreatDoor
open Go.RowKit Go.Maps Go.Sort Go.Shelf

theorem min_cast2 (a b c : Nat) : min ((b : Int) + (c : Int)) (a : Int) = ((min a (b + c) : Nat) : Int) := by omega
theorem Rm.lefts {w : World} {q : Nat} {v : Value} {rs : List Rf} {room : Nat} {left : Int} (h : Rm w q v rs room left) (l' : Int) :
    Rm (w.setCell ⟨q, 2, none⟩ (.int .i64 l')) q v rs room l' ∧ Chg (fun k => k = q) w (w.setCell ⟨q, 2, none⟩ (.int .i64 l')) := by
  have hs : Chg (fun k => k = q) w (w.setCell ⟨q, 2, none⟩ (.int .i64 l')) := Chg.setCell (S := fun k => k = q) (p := ⟨q, 2, none⟩) (Chg.refl _ w) (.inl rfl) _
  exact ⟨⟨h.c.set 2 _, h.o.chg hs (fun k hk e => h.ne.1 (by rw [hk, e])), fun r hr => (h.b r hr).chg hs (fun k hk e => (h.ne.2 r hr).1 (by rw [hk, e]))⟩, hs⟩

/-- What holds between two rounds of a crash. -/
structure RCr (w1 wr : World) (q : Nat) (a : Option Addr) (cap : Nat) (d : Dk) (fates : List UInt8) (ns : List Nm) (rs0 : List Rf) (i : Nat) (rs : List Rf) : Prop where
  len : rs.length = rs0.length
  rm : Rm wr q (.slice a rs.length cap) rs d.room d.left
  eq : (Dk.crashGo fates 0 (ns.take i) d).fs = rs.map (fun r => (r.x, r.f))
  chg : Chg (fun k => (Value.slice a rs0.length cap).ownBlock = some k) w1 wr
  has : ∀ k, RHas q (.slice a rs.length cap) rs k → RHas q (.slice a rs0.length cap) rs0 k

theorem RCr.next {w1 wr w2 : World} {q g cap : Nat} {d : Dk} {fates : List UInt8} {ns : List Nm} {rs0 rs : List Rf} {i k K : Nat} {x : Nm} {a3 : Option Addr} {c3 : Nat}
    (h : RCr w1 wr q (some ⟨g, 0, none⟩) cap d fates ns rs0 i rs) (hw : Chg Nil wr w2) (hk : k < rs.length) (hx : rs[k].x = x) (hv : rs[k].v = .slice a3 rs[k].f.bytes.length c3) (hle : rs[k].f.bytes.length ≤ c3)
    (hK : keepOf rs[k].f fates i = K) (hKL : K ≤ rs[k].f.bytes.length) (hnd : (Dk.crashGo fates 0 (ns.take i) d).names.Nodup)
    (hst : Dk.crashGo fates 0 (ns.take (i + 1)) d = (Dk.crashGo fates 0 (ns.take i) d).crash1 fates i x) :
    RCr w1 ((w2.setCell ⟨g, k * 3 + 1, none⟩ (.slice a3 K K)).setCell ⟨g, k * 3 + 2, none⟩ (.int .i64 (K : Nat))) q (some ⟨g, 0, none⟩) cap d fates ns rs0 (i + 1) (rs.set k ⟨x, ⟨rs[k].f.bytes.take K, K⟩, .slice a3 K K⟩) := by
  have hm := h.rm.chg hw (fun _ _ h => h)
  have hmem := List.getElem_mem hk
  have hrow := hm.b _ hmem
  rw [hv] at hrow
  have hrow2 := hrow.cut hKL
  have hlk : (rs[k].f.bytes.take K).length = K := by rw [List.length_take]; omega
  have hob : (Value.slice (some ⟨g, 0, none⟩) rs.length cap).ownBlock = some g := rfl
  have hob0 : (Value.slice (some ⟨g, 0, none⟩) rs0.length cap).ownBlock = some g := rfl
  have hs1 : Chg (fun b => b = g) w2 (w2.setCell ⟨g, k * 3 + 1, none⟩ (.slice a3 K K)) := Chg.setCell (S := fun b => b = g) (p := ⟨g, k * 3 + 1, none⟩) (Chg.refl _ w2) (.inl rfl) _
  have hs2 : Chg (fun b => b = g) w2 ((w2.setCell ⟨g, k * 3 + 1, none⟩ (.slice a3 K K)).setCell ⟨g, k * 3 + 2, none⟩ (.int .i64 (K : Nat))) := Chg.setCell (S := fun b => b = g) (p := ⟨g, k * 3 + 2, none⟩) hs1 (.inl rfl) _
  have hroom : ∀ b, Value.room (.slice a3 K K) = some b → Value.room rs[k].v = some b := fun b hb => by
    rw [hv]
    cases K with
    | zero => cases a3 <;> cases hb
    | succ K =>
      cases c3 with
      | zero => omega
      | succ c => cases a3 with
        | none => cases hb
        | some y => exact hb
  have hc1 : (⟨x, rs[k].f, .slice a3 K K⟩ : Rf).cells = (rs[k].cells).set 1 (.slice a3 K K) := by unfold Rf.cells; rw [hx]; rfl
  have hput1 := hm.o.put hk (j := 1) (by omega) (.slice a3 K K) ⟨x, rs[k].f, .slice a3 K K⟩ hc1
  have hk2 : k < (rs.set k (⟨x, rs[k].f, .slice a3 K K⟩ : Rf)).length := by rw [List.length_set]; exact hk
  have hg2 : (rs.set k (⟨x, rs[k].f, .slice a3 K K⟩ : Rf))[k] = ⟨x, rs[k].f, .slice a3 K K⟩ := by simp
  have hput2 := hput1.put hk2 (j := 2) (by omega) (.int .i64 (K : Nat)) ⟨x, ⟨rs[k].f.bytes.take K, K⟩, .slice a3 K K⟩ (by rw [hg2]; rfl)
  rw [List.set_set] at hput2
  refine ⟨by rw [List.length_set]; exact h.len, ?_, ?_, ?_, fun b hb => ?_⟩
  · refine hm.turn (i := k) (by rw [List.length_set]) _ hput2 (hs2.weak (fun b hb => .inl (by rw [hob, hb]))) ?_
    exact hrow2.chg hs2 (fun b hb e => (hm.ne.2 _ hmem).2 g hob ((hroom b hb).trans (congrArg some e)))
  · rw [hst]
    have hfd : (Dk.crashGo fates 0 (ns.take i) d).find x = some rs[k].f := by
      unfold Dk.find
      rw [h.eq]
      refine lookup_mem ?_ (List.mem_map.2 ⟨_, hmem, by rw [hx]⟩)
      have : (Dk.crashGo fates 0 (ns.take i) d).names = (rs.map fun r => (r.x, r.f)).map (·.1) := by unfold Dk.names; rw [h.eq]
      rw [← this]; exact hnd
    unfold Dk.crash1
    rw [hfd]
    show ((Dk.crashGo fates 0 (ns.take i) d).turn x (crashed rs[k].f fates i)).fs = _
    unfold crashed
    rw [hK]
    exact set_turn (r' := ⟨x, ⟨rs[k].f.bytes.take K, K⟩, .slice a3 K K⟩) h.eq hnd hk hx rfl
  · exact (h.chg.trans hw (fun _ h => h.elim)).trans (hs2.weak (fun b hb => .inl (by rw [hob0, hb]))) (fun b hb => .inl hb)
  · refine h.has b ?_
    rcases hb with hb | hb | ⟨r, hr, hb⟩
    · exact .inl hb
    · exact .inr (.inl hb)
    · rcases List.mem_or_eq_of_mem_set hr with hr | rfl
      · exact .inr (.inr ⟨r, hr, hb⟩)
      · exact .inr (.inr ⟨_, hmem, hroom b hb⟩)

set_option maxHeartbeats 4000000 in
set_option maxRecDepth 20000 in
theorem rcrash_any {w : World} {q : Nat} {T : Nat → Prop} {d : Dk} (h : RefAt w q T d) (hok : d.Ok) (fa : Option Addr) (fates : List UInt8) (fc : Nat) (hl : fates.length ≤ 4611686018427387904) (hb : BytesAt w fa fates) (hbn : fates ≠ [] → ∀ x, fa = some x → ¬ T x.block) :
    Calls Tryz.prog 15 #[.pointer (some ⟨q, 0, none⟩), .slice fa fates.length fc] w fun e w' => e = .returned (.tuple #[]) ∧ RefAt w' q (Gr T w w') (d.crash fates) ∧ Chg T w w' := by
  obtain ⟨v, rs0, hm, hfs, hT⟩ := h
  have hn : rs0.length ≤ 200 := by have := hok.few; rw [hfs, List.length_map] at this; exact this
  have hnames : rs0.map Rf.x = d.names := by unfold Dk.names; rw [hfs, List.map_map]; rfl
  have HL : Hid (Calls Tryz.prog 22 #[.pointer (some ⟨q, 0, none⟩), .string ⟨#[]⟩] w fun e w' => ∃ u, e = .returned u ∧ OwnS 0 w' u (d.list []) ∧ Chg Nil w w') := by
    have := rlist_any hm hn []
    rw [hnames] at this
    exact this
  obtain ⟨a, cap, rfl, hcap, _, _⟩ := hm.o.val
  have HM := Lib.hid hm
  have HFS := Lib.hid hfs
  have HT := Lib.hid hT
  have HOK := Lib.hid hok
  have HBY := Lib.hid hb
  have HBN := Lib.hid hbn
  clear hm hfs hT hok hb hbn hnames
  go_enter Tryz.func15, Tryz.ntmps15
  go_wp2_with (go_at_call 22; refine HL.out.mono ?_)
  rintro e w1 ⟨u, rfl, hown, hc1⟩
  obtain ⟨au, cu, rfl, hnm⟩ := hown.val
  have HNM := Lib.hid hnm
  have HC1 := Lib.hid hc1
  have HI0 : Hid (RCr w1 w1 q a cap d fates (d.list []) rs0 0 rs0) := ⟨rfl, HM.out.chg hc1 (fun _ _ h => h), by rw [List.take_zero]; exact HFS.out, Chg.refl _ _, fun _ h => h⟩
  have HMEM : Hid (∀ x ∈ d.list [], x ∈ d.names) := fun x hx => by
    have h1 : x ∈ begins [] d.names := (List.mergeSort_perm _ _).mem_iff.1 hx
    rwa [begins_nil] at h1
  have HLN : Hid ((d.list []).length ≤ 200) := by
    have h1 : (d.list []).length = (begins [] d.names).length := (List.mergeSort_perm _ _).length_eq
    rw [begins_nil] at h1
    have := HOK.out.few
    have h2 : d.names.length = d.fs.length := List.length_map _
    unfold Hid; omega
  have HOKG : Hid (∀ i, (Dk.crashGo fates 0 ((d.list []).take i) d).Ok) := fun i => Dk.Ok.crashGo fates _ 0 HOK.out
  have HFIN : Hid (d.crash fates = { Dk.crashGo fates 0 (d.list []) d with left := -1 }) := rfl
  have HSTEP : Hid (∀ i (hi : i < (d.list []).length), Dk.crashGo fates 0 ((d.list []).take (i + 1)) d = (Dk.crashGo fates 0 ((d.list []).take i) d).crash1 fates i (d.list [])[i]) := fun i hi => by
    rw [List.take_succ_eq_append_getElem hi, crashGo_snoc]
    rw [List.length_take, Nat.min_eq_left (by omega), Nat.zero_add]
  have HNG : Hid (∀ k, (Value.slice au (d.list []).length cu).ownBlock = some k → ¬ (Value.slice a rs0.length cap).ownBlock = some k) := fun k hk e => by
    obtain ⟨c1, h1⟩ := own_row hown hk
    obtain ⟨c2, h2⟩ := HI0.out.rm.o.row e
    rw [h1] at h2
    have := (Obj.cells.inj (Option.some.inj h2)).2.1
    exact absurd this (by decide)
  generalize d.list [] = ns at *
  clear hnm hown hc1
  go_wp2_with fail
  go_loopw [11] (fun ii wr => ∃ (wq : World) (i : Nat) (rs : List Rf), wq = wr ∧ i ≤ ns.length ∧ ii = .int .i64 i ∧ RCr w1 wr q a cap d fates ns rs0 i rs) (fun ii _ => ns.length - (RowKit.intOf ii).toNat)
  case atStart => exact ⟨_, 0, rs0, rfl, by omega, rfl, HI0.out⟩
  case round =>
    obtain ⟨wr, i, rs, rfl, hi, rfl, hinv⟩ := hrel
    by_cases hil : i < ns.length
    · have hii : (i : Int) < (ns.length : Int) := by omega
      have hi64 : wrap64 ((i : Int) + 1) = (i : Int) + 1 := by have := HLN.out; unfold wrap64; omega
      obtain ⟨qn, rfl, _, hcell⟩ := HNM.out i hil
      have hxm : ns[i] ∈ ns := List.getElem_mem hil
      have hxn := HMEM.out _ hxm
      have HST := Lib.hid (HSTEP.out i hil)
      have HGI := Lib.hid (HOKG.out i)
      obtain ⟨x, hx⟩ : ∃ x, ns[i] = x := ⟨_, rfl⟩
      rw [hx] at hcell hxn HST
      have hrn : rs.length ≤ 200 := by rw [hinv.len]; exact hn
      have hcw := hinv.chg.cell hcell (HNG.out _ rfl)
      simp only [encStr] at hcw
      obtain ⟨D1, hD1⟩ : ∃ D1, Dk.crashGo fates 0 (ns.take i) d = D1 := ⟨_, rfl⟩
      have heq := hinv.eq
      have hnm1 : D1.names = d.names := by rw [← hD1]; exact crashGo_names fates _ 0 d
      rw [hD1] at HST HGI heq
      rcases plc_cases rs x with ⟨k, hk, h1, h2, h3⟩ | ⟨h1, h2, h3⟩
      rotate_left
      · exfalso
        have : x ∈ D1.names := by rw [hnm1]; exact hxn
        unfold Dk.names at this
        rw [heq, List.map_map] at this
        obtain ⟨r, hr, hrx⟩ := List.mem_map.1 this
        exact h2 r hr hrx
      have hfd : D1.find x = some rs[k].f := by unfold Dk.find; rw [heq]; exact h3
      have hsafe : rs[k].f.safe ≤ rs[k].f.bytes.length := HGI.out.safe (x, rs[k].f) (lookup_some hfd)
      have hfit : rs[k].f.bytes.length ≤ 1048576 := by
        have h4 := usedR_take rs hk
        have h5 := usedR_le rs (k + 1)
        have h6 := usedR_eq heq
        have h7 := HGI.out.fits
        have h8 := HGI.out.room
        omega
      have HAT := Lib.hid (fun (w2 : World) (hw : Chg Nil wr w2) => at_any (hinv.rm.chg hw (fun _ _ h => h)) hrn x)
      rw [h1] at HAT
      have hkn : (k : Int) < (rs.length : Int) := by omega
      have hk0 : (0 : Int) ≤ (k : Int) := by omega
      obtain ⟨a', cap', he, _, _, hcl⟩ := hinv.rm.o.val
      simp only [Value.slice.injEq] at he
      obtain ⟨rfl, _, rfl⟩ := he
      obtain ⟨g, rfl, _, _, _⟩ := hcl k hk
      have HC0 := Lib.hid (hinv.rm.c.cell (j := 0) rfl)
      have HIN := Lib.hid hinv
      have HFD := Lib.hid hfd
      have HXK := Lib.hid h2
      have HEQ := Lib.hid heq
      have HD1 := Lib.hid hD1
      clear hcell hinv hcl h1 h2 h3 hfd heq hD1 hxn hnm1
      go_upto_region 3 with fail
      clear hcw
      refine wp_region_mono _ (Chg Nil) (by kernel_rfl) (fun _ _ _ h k => h.trans k (fun _ h => h.elim)) [[], [0], [1], [2], [], [], [4, 5], [3, 6], [7]] rfl (by kernel_rfl) (Chg.refl _ _).drew ?_
      iterate 3 ((with_reducible apply Walk.eq); case h => (intro w2 hw2 N hN; simp only [depsOf, List.filterMap_nil, List.filterMap_cons, List.getElem?_toArray, List.getElem?_cons_zero, List.getElem?_cons_succ, Option.bind_some, List.nil_append, List.cons_append, Ob]; go_simp; (try go_bits); with_reducible exact hN _ (Chg.refl _ _)))
      (with_reducible apply Walk.eq); case h =>
        intro w3 hw3 N hN
        have hq3 := hw3.cell HC0.out (fun h => h)
        simp only [depsOf, List.filterMap_nil, List.filterMap_cons, List.getElem?_toArray, List.getElem?_cons_zero, List.getElem?_cons_succ, Option.bind_some, List.nil_append, List.cons_append, Ob]
        go_simp
        exact hN _ (Chg.refl _ _)
      iterate 2 ((with_reducible apply Walk.eq); case h => (intro w2 hw2 N hN; simp only [depsOf, List.filterMap_nil, List.filterMap_cons, List.getElem?_toArray, List.getElem?_cons_zero, List.getElem?_cons_succ, Option.bind_some, List.nil_append, List.cons_append, Ob]; go_simp; (try go_bits); with_reducible exact hN _ (Chg.refl _ _)))
      (with_reducible apply Walk.eq); case h =>
        intro w3 hw3 N hN
        simp only [depsOf, List.filterMap_nil, List.filterMap_cons, List.getElem?_toArray, List.getElem?_cons_zero, List.getElem?_cons_succ, Option.bind_some, List.nil_append, List.cons_append, Ob]
        go_simp
        refine (HAT.out w3 hw3).mono ?_
        rintro e w4 ⟨rfl, hc4⟩
        exact ⟨_, rfl, hN _ hc4⟩
      iterate 2 ((with_reducible apply Walk.eq); case h => (intro w2 hw2 N hN; simp only [depsOf, List.filterMap_nil, List.filterMap_cons, List.getElem?_toArray, List.getElem?_cons_zero, List.getElem?_cons_succ, Option.bind_some, List.nil_append, List.cons_append, Ob]; go_simp; (try go_bits); with_reducible exact hN _ (Chg.refl _ _)))
      intro w2 hw2
      simp only [List.nil_append, List.cons_append, Fin]
      go_simp
      have HW2 := Lib.hid hw2
      have HM2 := Lib.hid (HIN.out.rm.chg hw2 (fun _ _ h => h))
      have HC2 := Lib.hid (HIN.out.chg.trans hw2 (fun _ h => h.elim))
      obtain ⟨a', cap', he, _, _, hcl⟩ := HM2.out.o.val
      simp only [Value.slice.injEq] at he
      obtain ⟨rfl, _, rfl⟩ := he
      obtain ⟨g', hg', _, z1, z2⟩ := hcl k hk
      simp only [Option.some.injEq, Addr.mk.injEq] at hg'
      obtain ⟨rfl, _, _⟩ := hg'
      obtain ⟨a3, c3, hsv, hby3, hle3, hcm3, hrm3⟩ := (HM2.out.b _ (List.getElem_mem hk)).bytes
      rw [hsv] at z1
      have f1 := HM2.out.o.free (k * 3 + 1)
      have f2 := HM2.out.o.free (k * 3 + 2)
      have HSV := Lib.hid hsv
      have HLE := Lib.hid hle3
      clear hcl hsv hby3 hcm3 hrm3 hw2 HAT HC0
      obtain ⟨n, hn9⟩ : ∃ n, rs[k].f.bytes.length = n := ⟨_, rfl⟩
      obtain ⟨sf, hs9⟩ : ∃ sf, rs[k].f.safe = sf := ⟨_, rfl⟩
      have HNN := Lib.hid hn9
      have HSS := Lib.hid hs9
      rw [hn9] at z1 hle3 hsafe hfit
      rw [hs9] at z2 hsafe
      by_cases hfe : fates = []
      · have hfl : ¬ (0 : Int) < (fates.length : Int) := by rw [hfe]; simp
        have HK : Hid (keepOf rs[k].f fates i = sf) := (if_pos hfe).trans hs9
        have hkm : min (sf : Int) (n : Int) = (sf : Int) := by omega
        have hk2 : sf ≤ c3 := by omega
        have hk3 : 0 ≤ sf := Nat.zero_le _
        clear hfe hn9 hs9
        go_wp2_with fail
        exact ⟨⟨_, i + 1, _, rfl, by omega, by rw [hi64]; go_num, HIN.out.next HW2.out hk HXK.out HSV.out HLE.out HK.out (by rw [HNN.out]; omega) (by rw [HD1.out]; exact HGI.out.nodup) (by rw [HST.out, HD1.out])⟩, meas_step hil hi64⟩
      · have hfl : (0 : Int) < (fates.length : Int) := by
          have := List.length_pos_iff.2 hfe
          omega
        have hbyr := bytes_keep HC2.out (HC1.out.bytesAt HBY.out (fun _ _ h => h)) (fun hne x hx hk => HBN.out hne x hx (HT.out _ (.inr (.inl hk))))
        obtain ⟨m, hm⟩ : ∃ m, i % fates.length = m := ⟨_, rfl⟩
        have hml : m < fates.length := by rw [← hm]; exact Nat.mod_lt _ (by omega)
        obtain ⟨gf, off, hfa, hcf⟩ := hbyr m hml
        have hrem : (i : Int).tmod (fates.length : Int) = (m : Int) := by rw [← hm]; exact (Int.ofNat_tmod i fates.length).symm
        obtain ⟨ft, hft⟩ : ∃ ft, fates[m] = ft := ⟨_, rfl⟩
        rw [hft] at hcf
        simp only [bval] at hcf
        have hf8 : ft.toNat < 256 := ft.toNat_lt
        obtain ⟨fn, hfn⟩ : ∃ fn, ft.toNat = fn := ⟨_, rfl⟩
        rw [hfn] at hcf hf8
        have hadd : wrap64 ((sf : Int) + (fn : Int)) = (sf : Int) + (fn : Int) := by unfold wrap64; omega
        have HK0 : Hid (keepOf rs[k].f fates i = min n (sf + fn)) := by
          unfold Hid keepOf
          rw [if_neg hfe, hm, List.getD_eq_getElem?_getD, List.getElem?_eq_getElem hml, hft, hn9, hs9]
          show min _ (sf + ft.toNat) = _
          rw [hfn]
        have hkm : min ((sf : Int) + (fn : Int)) (n : Int) = ((min n (sf + fn) : Nat) : Int) := min_cast2 _ _ _
        have hm0 : ¬ (fates.length : Int) = 0 := by omega
        have hm1 : (m : Int) < (fates.length : Int) := by omega
        subst hfa
        obtain ⟨K, hK⟩ : ∃ K, min n (sf + fn) = K := ⟨_, rfl⟩
        have HK := HK0
        rw [hK] at hkm HK
        have hKL : K ≤ n := by rw [← hK]; exact Nat.min_le_left _ _
        have hk2 : K ≤ c3 := by omega
        have hk3 : 0 ≤ K := Nat.zero_le _
        clear hm hft hfn hbyr hK hn9 hs9 hfe HK0
        go_wp2_with fail
        exact ⟨⟨_, i + 1, _, rfl, by omega, by rw [hi64]; go_num, HIN.out.next HW2.out hk HXK.out HSV.out HLE.out HK.out (by rw [HNN.out]; omega) (by rw [HD1.out]; exact HGI.out.nodup) (by rw [HST.out, HD1.out])⟩, meas_step hil hi64⟩
    · have hii : ¬ (i : Int) < (ns.length : Int) := by omega
      obtain rfl : i = ns.length := by omega
      have c2 := hinv.rm.c.cell (j := 2) rfl
      have z2 := hinv.rm.c.free 2
      have HIN := Lib.hid hinv
      clear hinv
      go_wp2_with fail
      go_end0
      have heq := HIN.out.eq
      rw [List.take_length] at heq
      have hr := crashGo_rest fates ns 0 d
      obtain ⟨t1, t2⟩ := HIN.out.rm.lefts (-1)
      have hT0 : ∀ k, (Value.slice a rs0.length cap).ownBlock = some k → T k := fun k hk => HT.out k (.inr (.inl hk))
      have hchw : Chg T w (wr.setCell ⟨q, 2, none⟩ (.int .i64 (-1))) := ((HC1.out.weak (S' := T) (fun _ h => h.elim)).trans HIN.out.chg (fun k hk => .inl (hT0 k hk))).trans t2 (fun k hk => .inl (HT.out k (.inl hk)))
      refine ⟨rfl, ⟨_, rs, ?_, ?_, fun k hk => .inl (HT.out k (HIN.out.has k hk))⟩, hchw⟩
      · rw [HFIN.out]
        show Rm _ q _ rs (Dk.crashGo fates 0 ns d).room (-1)
        rw [hr.1]
        exact t1
      · rw [HFIN.out]
        exact heq
end Go.Proofs.YthjdkhjdgmnliaaGreatDoor
