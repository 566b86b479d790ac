/-
  A crash.
-/
import Derived.Test.YtdjmifaidgbbaaaGreatDoorLc12
import Derived.Deep.CutBlock
set_option linter.unusedSimpArgs false
set_option linter.unusedVariables false
namespace Go.Proofs.YtdjmifaidgbbaaaGreatDoor
open Go.RowKit Go.Maps Go.Sort

theorem SlcRow.cut {w : World} {e : TypeId} {l : List UInt8} {a : Option Addr} {c : Nat} (h : SlcRow w e 1 (.slice a l.length c) l.length (l.map bval)) {k : Nat} (hk : k ≤ l.length) : SlcRow w e 1 (.slice a k k) (l.take k).length ((l.take k).map bval) := by
  have hlk : (l.take k).length = k := by rw [List.length_take]; omega
  rw [hlk]
  refine ⟨by simp; omega, ?_⟩
  rcases h.2 with ⟨hv, hn⟩ | ⟨a', hv, hn⟩ | ⟨g, cap, cur, hv, hg, hnc, hcm, hcs, htake⟩
  · obtain rfl : k = 0 := by omega
    simp only [Value.slice.injEq] at hv
    rw [hv.1]
    exact .inl ⟨rfl, rfl⟩
  · obtain rfl : k = 0 := by omega
    simp only [Value.slice.injEq] at hv
    rw [hv.1]
    exact .inr (.inl ⟨a', rfl, rfl⟩)
  · cases hv
    refine .inr (.inr ⟨g, k, cur, rfl, hg, Nat.le_refl _, by omega, by omega, ?_⟩)
    rw [List.map_take, ← htake, List.take_take, Nat.min_eq_left (by omega), Nat.mul_one]

theorem crashGo_snoc (fates : List UInt8) : ∀ (l : List Nm) (k : Nat) (x : Nm) (d : Dk), Dk.crashGo fates k (l ++ [x]) d = (Dk.crashGo fates k l d).crash1 fates (k + l.length) x
  | [], k, x, d => rfl
  | y :: r, k, x, d => by
    rw [List.cons_append, Dk.crashGo, Dk.crashGo, crashGo_snoc fates r (k + 1) x]
    rw [List.length_cons, show k + 1 + r.length = k + (r.length + 1) by omega]
theorem crash1_names (fates : List UInt8) (d : Dk) (i : Nat) (x : Nm) : (d.crash1 fates i x).names = d.names := by
  unfold Dk.crash1
  split
  · exact names_turn _ _ _
  · rfl
theorem crashGo_names (fates : List UInt8) : ∀ (l : List Nm) (k : Nat) (d : Dk), (Dk.crashGo fates k l d).names = d.names
  | [], _, _ => rfl
  | y :: r, k, d => by rw [Dk.crashGo, crashGo_names fates r, crash1_names]
theorem crash1_rest (fates : List UInt8) (d : Dk) (i : Nat) (x : Nm) : (d.crash1 fates i x).room = d.room ∧ (d.crash1 fates i x).left = d.left := by
  unfold Dk.crash1
  split <;> exact ⟨rfl, rfl⟩
theorem crashGo_rest (fates : List UInt8) : ∀ (l : List Nm) (k : Nat) (d : Dk), (Dk.crashGo fates k l d).room = d.room ∧ (Dk.crashGo fates k l d).left = d.left
  | [], _, _ => ⟨rfl, rfl⟩
  | y :: r, k, d => by
    rw [Dk.crashGo]
    have h1 := crashGo_rest fates r (k + 1) (d.crash1 fates k y)
    have h2 := crash1_rest fates d k y
    exact ⟨h1.1.trans h2.1, h1.2.trans h2.2⟩
theorem keep_le (f : Fl) (fates : List UInt8) (i : Nat) (h : f.safe ≤ f.bytes.length) : keepOf f fates i ≤ f.bytes.length := by
  unfold keepOf
  split <;> omega
theorem Dk.Ok.crash1 {d : Dk} (h : d.Ok) (fates : List UInt8) (i : Nat) (x : Nm) : (d.crash1 fates i x).Ok := by
  unfold Dk.crash1
  cases hf : d.find x with
  | none => exact h
  | some f =>
    have hs : f.safe ≤ f.bytes.length := h.safe (x, f) (lookup_some hf)
    refine h.turn hf ?_ ?_
    · show keepOf f fates i ≤ (f.bytes.take (keepOf f fates i)).length
      rw [List.length_take, Nat.min_eq_left (keep_le f fates i hs)]
      exact Nat.le_refl _
    · show d.used + (f.bytes.take (keepOf f fates i)).length ≤ d.room + f.bytes.length
      rw [List.length_take]
      have := h.fits
      omega
theorem Dk.Ok.crashGo (fates : List UInt8) : ∀ (l : List Nm) (k : Nat) {d : Dk}, d.Ok → (Dk.crashGo fates k l d).Ok
  | [], _, _, h => h
  | y :: r, k, _, h => Dk.Ok.crashGo fates r (k + 1) (h.crash1 fates k y)
theorem Dk.Ok.crash {d : Dk} (h : d.Ok) (fates : List UInt8) : (d.crash fates).Ok := by
  have := Dk.Ok.crashGo fates (d.list []) 0 h
  exact ⟨this.nodup, this.safe, this.fits, this.room, this.few, by show -1 ≤ (-1 : Int) ∧ (-1 : Int) ≤ _; omega, this.short⟩
theorem begins_nil (l : List Nm) : begins [] l = l := by
  unfold begins
  rw [List.filter_eq_self]
  intro x _
  rfl

theorem OwnS.val {B : Nat} {w : World} {v : Value} {l : List Nm} (h : OwnS B w v l) : ∃ a c, v = .slice a l.length c ∧ ∀ i (hi : i < l.length), ∃ q, a = some ⟨q, 0, none⟩ ∧ B ≤ q ∧ w.cell? ⟨q, i, none⟩ = some (encStr l[i]) := by
  rcases h.2 with ⟨rfl, hn⟩ | ⟨g, cap, cur, rfl, hbg, hg, hnc, hcm, hcs, htake⟩
  · have : l = [] := List.eq_nil_of_length_eq_zero hn
    subst this
    exact ⟨_, _, rfl, fun i hi => by simp at hi⟩
  · refine ⟨_, _, rfl, fun i hi => ⟨g, rfl, hbg, ?_⟩⟩
    rw [cell_of_row w g i cur _ (0, 0) hg]
    have h1 : (cur.toList.take (l.length * 1))[i]? = some (encStr l[i]) := by rw [htake]; simp [hi]
    rw [List.getElem?_take] at h1
    split at h1
    · simpa using h1
    · cases h1

theorem min_cast (a b c : Nat) : min (a : Int) ((b : Int) + (c : Int)) = ((min a (b + c) : Nat) : Int) := by omega
theorem size_toArr (x : List UInt8) : x.length = (ByteArray.mk x.toArray).size := by
  show _ = x.toArray.size
  simp

/-- What holds between two rounds of a crash. -/
structure CrashInv (w1 wr : World) (p mb : Nat) (fs : List (Nm × Nat)) (sv0 : Nat → Value) (d : Dk) (fates : List UInt8) (ns : List Nm) (i : Nat) (sv : Nat → Value) (con : Nat → Fl) : Prop where
  dm : Dm wr p mb fs sv con d.room d.left
  eq : (Dk.crashGo fates 0 (ns.take i) d).fs = fs.map (fun q => (q.1, con q.2))
  chg : Chg (Has p mb fs sv0) w1 wr
  has : ∀ k, Has p mb fs sv k → Has p mb fs sv0 k

theorem CrashInv.next {w1 wr w2 : World} {p mb : Nat} {fs : List (Nm × Nat)} {sv sv' : Nat → Value} {con' : Nat → Fl} {d : Dk} {fates : List UInt8} {ns : List Nm} {i : Nat} {x : Nm} {b : Nat} {a3 : Option Addr} {c3 K : Nat}
    (h : CrashInv w1 wr p mb fs sv d fates ns i sv' con') (hw : Chg Nil wr w2) (hb : fs.lookup x = some b) (hsv : sv' b = .slice a3 (con' b).bytes.length c3) (hle : (con' b).bytes.length ≤ c3) (hK : keepOf (con' b) fates i = K) (hKL : K ≤ (con' b).bytes.length)
    (hst : Dk.crashGo fates 0 (ns.take (i + 1)) d = (Dk.crashGo fates 0 (ns.take i) d).crash1 fates i x) :
    CrashInv w1 ((w2.setCell ⟨b, 0, none⟩ (.slice a3 K K)).setCell ⟨b, 1, none⟩ (.int .i64 (K : Nat))) p mb fs sv d fates ns (i + 1) (updSv sv' b (.slice a3 K K)) (updCon con' b ⟨(con' b).bytes.take K, K⟩) := by
  have hd := h.dm.chg hw (fun _ _ h => h)
  have hmem := lookup_some hb
  have hbx : Box w2 b [sv' b, .int .i64 ((con' b).safe : Nat)] 141 := hd.f _ hmem
  have hrow : SlcRow w2 5 1 (sv' b) (con' b).bytes.length ((con' b).bytes.map bval) := hd.o _ hmem
  rw [hsv] at hrow
  have hlk : ((con' b).bytes.take K).length = K := by rw [List.length_take]; omega
  have hrow2 := hrow.cut hKL
  have hs1 : Chg (fun k => k = b) w2 (w2.setCell ⟨b, 0, none⟩ (.slice a3 K K)) := Chg.setCell (S := fun k => k = b) (p := ⟨b, 0, none⟩) (Chg.refl _ w2) (.inl rfl) _
  have hs2 : Chg (fun k => k = b) w2 ((w2.setCell ⟨b, 0, none⟩ (.slice a3 K K)).setCell ⟨b, 1, none⟩ (.int .i64 (K : Nat))) := Chg.setCell (S := fun k => k = b) (p := ⟨b, 1, none⟩) hs1 (.inl rfl) _
  have hroom : ∀ k, Value.room (.slice a3 K K) = some k → Value.room (sv' b) = some k := fun k hk => by
    rw [hsv]
    cases K with
    | zero => cases a3 <;> cases hk
    | succ K =>
      cases c3 with
      | zero => omega
      | succ c => cases a3 with
        | none => cases hk
        | some y => exact hk
  have hnb : Value.room (sv' b) ≠ some b := hd.p_ne.2.2 _ hmem _ hmem
  obtain ⟨g1, g2, g3⟩ := hd.turn (q := (x, b)) hmem (.slice a3 K K) ⟨(con' b).bytes.take K, K⟩ ((hbx.set 0 (.slice a3 K K)).set 1 (.int .i64 (K : Nat))) (hrow2.chg hs2 (fun k hk e => hnb ((hroom k hk).trans (congrArg some e)))) (hs2.weak (fun k hk => .inl (.inl hk))) (fun k hk => .inl (hroom k hk))
  refine ⟨g1, ?_, (h.chg.trans hw (fun _ h => h.elim)).trans g2 (fun k hk => .inl (h.has k hk)), fun k hk => ?_⟩
  · rw [hst]
    have hfd : (Dk.crashGo fates 0 (ns.take i) d).find x = some (con' b) := by unfold Dk.find; rw [h.eq, find_map, hb]; rfl
    unfold Dk.crash1
    rw [hfd]
    show ((Dk.crashGo fates 0 (ns.take i) d).turn x (crashed (con' b) fates i)).fs = _
    unfold crashed
    rw [hK]
    exact turn_fs h.eq hb hd.m.1 hd.nd
  · rcases hk with rfl | rfl | ⟨r, hr, hk⟩
    · exact .inl rfl
    · exact .inr (.inl rfl)
    · refine h.has k (.inr (.inr ⟨r, hr, ?_⟩))
      by_cases hne : r.2 = b
      · have e : updSv sv' b (.slice a3 K K) r.2 = .slice a3 K K := if_pos hne
        rw [e] at hk
        exact hk.imp id (fun hk => by rw [hne]; exact hroom k hk)
      · have e : updSv sv' b (.slice a3 K K) r.2 = sv' r.2 := if_neg hne
        rw [e] at hk
        exact hk

theorem meas_step {n i : Nat} (h : i < n) (hw : wrap64 ((i : Int) + 1) = (i : Int) + 1) : n - (RowKit.intOf (Value.int .i64 (wrap64 ((i : Int) + 1)))).toNat < n - (RowKit.intOf (Value.int .i64 (i : Int))).toNat := by
  rw [hw]
  show n - ((i : Int) + 1).toNat < n - (i : Int).toNat
  omega

set_option maxHeartbeats 4000000 in
set_option maxRecDepth 20000 in
theorem crash_any {w : World} {p : Nat} {S : Nat → Prop} {d : Dk} (h : DiskAt w p S d) (fa : Option Addr) (fates : List UInt8) (fc : Nat) (hl : fates.length ≤ 4611686018427387904) (hb : BytesAt w fa fates) (hbn : fates ≠ [] → ∀ x, fa = some x → ¬ S x.block) :
    Calls Tryz.prog 41 #[.pointer (some ⟨p, 0, none⟩), .slice fa fates.length fc] w fun e w' => e = .returned (.tuple #[]) ∧ DiskAt w' p (Gr S w w') (d.crash fates) ∧ Chg S w w' := by
  obtain ⟨mb, fs, sv, con, hd, hfs, hS, hok⟩ := h
  have hnames : fs.map (·.1) = d.names := by unfold Dk.names; rw [hfs, List.map_map]; rfl
  have hf1 : fs.length ≤ 200 := by have := hok.few; rw [hfs, List.length_map] at this; exact this
  have HL := Lib.hid (list_any hd hf1 ⟨#[]⟩)
  have hlist : sortN (begins (ByteArray.mk #[]).data.toList (fs.map (·.1))) = d.list [] := by rw [hnames]; rfl
  rw [hlist] at HL
  have HFS := Lib.hid hfs
  have HS := Lib.hid hS
  have HOK := Lib.hid hok
  have HD := Lib.hid hd
  have HBY := Lib.hid hb
  have HBN := Lib.hid (fun hne x hx (hk : Has p mb fs sv x.block) => hbn hne x hx (hS _ hk))
  clear hlist hfs hS hok hd hb hbn hf1 hnames
  go_enter Tryz.func41, Tryz.ntmps41
  go_wp2_with (go_at_call 49; refine HL.out.mono ?_)
  rintro e w1 ⟨v, rfl, hown, hc1⟩
  obtain ⟨a, c, rfl, hnm⟩ := hown.val
  have HNM := Lib.hid hnm
  have HC1 := Lib.hid hc1
  have HI0 : Hid (CrashInv w1 w1 p mb fs sv d fates (d.list []) 0 sv con) := ⟨HD.out.chg hc1 (fun _ _ h => h), by rw [List.take_zero]; exact HFS.out, Chg.refl _ _, fun _ h => h⟩
  have HW1 : Hid (∀ k, Has p mb fs sv k → k < w.heap.size) := fun k hk => HD.out.lt k hk
  have HMEM : Hid (∀ x ∈ d.list [], ∃ b, fs.lookup x = some b) := fun x hx => by
    have h1 : x ∈ begins [] d.names := (List.mergeSort_perm _ _).mem_iff.1 hx
    rw [begins_nil] at h1
    have h2 : d.names = fs.map (·.1) := by unfold Dk.names; rw [HFS.out, List.map_map]; rfl
    rw [h2] at h1
    cases hlk : fs.lookup x with
    | some b => exact ⟨b, rfl⟩
    | none => exact absurd h1 (lookup_none.1 hlk)
  have HSH : Hid (∀ x ∈ d.list [], x.length ≤ 40) := fun x hx => by
    have h1 : x ∈ begins [] d.names := (List.mergeSort_perm _ _).mem_iff.1 hx
    rw [begins_nil] at h1
    exact HOK.out.short x h1
  have HLN : Hid ((d.list []).length ≤ 200) := by
    have h1 : (d.list []).length = (begins [] d.names).length := (List.mergeSort_perm _ _).length_eq
    rw [begins_nil] at h1
    have := HOK.out.few
    have h2 : d.names.length = d.fs.length := List.length_map _
    unfold Hid; omega
  have HOKG : Hid (∀ i, (Dk.crashGo fates 0 ((d.list []).take i) d).Ok) := fun i => Dk.Ok.crashGo fates _ 0 HOK.out
  have HFIN : Hid (d.crash fates = { Dk.crashGo fates 0 (d.list []) d with left := -1 }) := rfl
  have HSTEP : Hid (∀ i (hi : i < (d.list []).length), Dk.crashGo fates 0 ((d.list []).take (i + 1)) d = (Dk.crashGo fates 0 ((d.list []).take i) d).crash1 fates i (d.list [])[i]) := fun i hi => by
    rw [List.take_succ_eq_append_getElem hi, crashGo_snoc]
    rw [List.length_take, Nat.min_eq_left (by omega), Nat.zero_add]
  generalize d.list [] = ns at *
  clear hnm hown hc1
  go_wp2_with fail
  go_loopw [11] (fun ii wr => ∃ (wq : World) (i : Nat) (sv' : Nat → Value) (con' : Nat → Fl), wq = wr ∧ i ≤ ns.length ∧ ii = .int .i64 i ∧ CrashInv w1 wr p mb fs sv d fates ns i sv' con') (fun ii _ => ns.length - (RowKit.intOf ii).toNat)
  case atStart => exact ⟨_, 0, sv, con, rfl, by omega, rfl, HI0.out⟩
  case round =>
    obtain ⟨wr, i, sv', con', rfl, hi, rfl, hinv⟩ := hrel
    by_cases hil : i < ns.length
    · have hii : (i : Int) < (ns.length : Int) := by omega
      have hi64 : wrap64 ((i : Int) + 1) = (i : Int) + 1 := by have := HLN.out; unfold wrap64; omega
      obtain ⟨q, rfl, hq, hcell⟩ := HNM.out i hil
      have hxm : ns[i] ∈ ns := List.getElem_mem hil
      obtain ⟨b, hb⟩ := HMEM.out _ hxm
      have hxl := HSH.out _ hxm
      have HST := Lib.hid (HSTEP.out i hil)
      have HGI := Lib.hid (HOKG.out i)
      have HQ := Lib.hid hq
      obtain ⟨x, hx⟩ : ∃ x, ns[i] = x := ⟨_, rfl⟩
      rw [hx] at hcell hb hxl HST
      clear hx hxm hq
      have hcw := hinv.chg.cell hcell (fun h => by have := HW1.out q h; have := HQ.out; omega)
      simp only [encStr] at hcw
      obtain ⟨D1, hD1⟩ : ∃ D1, Dk.crashGo fates 0 (ns.take i) d = D1 := ⟨_, rfl⟩
      have heq := hinv.eq
      rw [hD1] at HST HGI heq
      have hmem := lookup_some hb
      have hrow : SlcRow wr 5 1 (sv' b) (con' b).bytes.length ((con' b).bytes.map bval) := hinv.dm.o _ hmem
      have hbx : Box wr b [sv' b, .int .i64 ((con' b).safe : Nat)] 141 := hinv.dm.f _ hmem
      have hfd : D1.find x = some (con' b) := by unfold Dk.find; rw [heq, find_map, hb]; rfl
      have hsafe : (con' b).safe ≤ (con' b).bytes.length := HGI.out.safe (x, con' b) (lookup_some hfd)
      have hfit : (con' b).bytes.length ≤ 1048576 := by
        have h1 := usedOf_mem (con := con') (a := fs.map (·.2)) (List.mem_map.2 ⟨_, hmem, rfl⟩)
        have h1' : (con' b).bytes.length ≤ usedOf con' (fs.map (·.2)) := h1
        have h2 := HGI.out.fits
        have h4 := HGI.out.room
        unfold Dk.used at h2
        rw [heq, used_eq] at h2
        omega
      have c0 := hinv.dm.c.cell (j := 0) rfl
      have hlk := hinv.dm.m.look (s := ⟨x.toArray⟩) (by have : (ByteArray.mk x.toArray).size = x.length := (size_toArr x).symm; unfold maxLen; omega)
      have hxe : (ByteArray.mk x.toArray).data.toList = x := rfl
      rw [hxe, hb] at hlk
      simp only [ptrOf, Option.map_some] at hlk
      have y0 := hbx.cell (j := 0) rfl
      have y1 := hbx.cell (j := 1) rfl
      have z0 := hbx.free 0
      have z1 := hbx.free 1
      obtain ⟨a3, c3, hsv, hby3, hle3, hcm3, hrm3⟩ := hrow.bytes
      rw [hsv] at y0
      have HIN := Lib.hid hinv
      have HROW := Lib.hid hrow
      have HBX := Lib.hid hbx
      have HSV := Lib.hid hsv
      have HFD := Lib.hid hfd
      have HMB := Lib.hid hmem
      have HBE := Lib.hid hb
      have HEQ := Lib.hid heq
      have HD1 := Lib.hid hD1
      clear hcell hinv hmem hrow hbx hfd hsv hb heq hD1 hby3 hrm3 hxe
      by_cases hfe : fates = []
      · have hfl : ¬ (0 : Int) < (fates.length : Int) := by rw [hfe]; simp
        have HK : Hid (keepOf (con' b) fates i = (con' b).safe) := if_pos hfe
        clear hfe
        obtain ⟨K, hK⟩ : ∃ K, (con' b).safe = K := ⟨_, rfl⟩
        have HKS := Lib.hid hK
        rw [hK] at y1 HK
        have hKL : K ≤ (con' b).bytes.length := by omega
        clear hK
        go_upto_region 7 with fail
        have hw2 := Chg.refl Nil wr
        clear c0 hlk y0 y1 z0 z1 hcw
        have HW2 := Lib.hid hw2
        have HD2 := Lib.hid (HIN.out.dm.chg hw2 (fun _ _ h => h))
        have HC2 := Lib.hid (HIN.out.chg.trans hw2 (fun _ h => h.elim))
        have HBX2 := Lib.hid (HBX.out.chg hw2 (fun h => h))
        have HROW2 := Lib.hid (HROW.out.chg hw2 (fun _ _ h => h))
        have y0 := HBX2.out.cell (j := 0) rfl
        rw [HSV.out] at y0
        have y1 := HBX2.out.cell (j := 1) rfl
        have z0 := HBX2.out.free 0
        have z1 := HBX2.out.free 1
        have hk2 : K ≤ c3 := by omega
        have hk0 : 0 ≤ K := Nat.zero_le _
        clear hw2
        go_wp2_with fail
        go_roundw
        case rel =>
          have hln := HLN.out
          exact ⟨_, i + 1, _, _, rfl, by omega, by go_num, HIN.out.next (Chg.refl Nil wr) HBE.out HSV.out (by omega) (HK.out) hKL (by rw [HST.out, HD1.out])⟩
        case measure => exact meas_step hil hi64
      · have hfl : (0 : Int) < (fates.length : Int) := by
          have := List.length_pos_iff.2 hfe
          omega
        have hbyr := bytes_keep HIN.out.chg (HC1.out.bytesAt HBY.out (fun _ _ h => h)) HBN.out
        obtain ⟨m, hm⟩ : ∃ m, i % fates.length = m := ⟨_, rfl⟩
        have hml : m < fates.length := by rw [← hm]; exact Nat.mod_lt _ (by omega)
        obtain ⟨g, off, hfa, hcf⟩ := hbyr m hml
        have hrem : (i : Int).tmod (fates.length : Int) = (m : Int) := by rw [← hm]; exact (Int.ofNat_tmod i fates.length).symm
        obtain ⟨ft, hft⟩ : ∃ ft, fates[m] = ft := ⟨_, rfl⟩
        rw [hft] at hcf
        simp only [bval] at hcf
        have hf8 : ft.toNat < 256 := ft.toNat_lt
        obtain ⟨fn, hfn⟩ : ∃ fn, ft.toNat = fn := ⟨_, rfl⟩
        rw [hfn] at hcf hf8
        have hadd : wrap64 (((con' b).safe : Int) + (fn : Int)) = ((con' b).safe : Int) + (fn : Int) := by unfold wrap64; omega
        have HK : Hid (keepOf (con' b) fates i = min (con' b).bytes.length ((con' b).safe + fn)) := by
          unfold Hid keepOf
          rw [if_neg hfe, hm, List.getD_eq_getElem?_getD, List.getElem?_eq_getElem hml, hft]
          show min _ ((con' b).safe + ft.toNat) = _
          rw [hfn]
        have hkm : min ((con' b).bytes.length : Int) (((con' b).safe : Int) + (fn : Int)) = ((min (con' b).bytes.length ((con' b).safe + fn) : Nat) : Int) := min_cast _ _ _
        have hm0 : ¬ (fates.length : Int) = 0 := by omega
        have hm1 : (m : Int) < (fates.length : Int) := by omega
        subst hfa
        obtain ⟨K, hK⟩ : ∃ K, min (con' b).bytes.length ((con' b).safe + fn) = K := ⟨_, rfl⟩
        rw [hK] at hkm HK
        have hKL : K ≤ (con' b).bytes.length := by rw [← hK]; exact Nat.min_le_left _ _
        clear hm hft hfn hbyr hK
        go_upto_region 6 with fail
        have HY0 := Lib.hid y0
        have HY1 := Lib.hid y1
        have HCF := Lib.hid hcf
        clear c0 hlk y0 y1 z0 z1 hcf hcw
        refine wp_region_mono _ (Chg Nil) (by kernel_rfl) (fun _ _ _ h k => h.trans k (fun _ h => h.elim)) [[], [0], [1], [2], [3], [], [5], [6], [7], [], [], [], [11], [10, 12], [9, 13], [14], [15], [8, 16], [4, 17], [18]] rfl (by kernel_rfl) (Chg.refl _ _).drew ?_
        iterate 3 ((with_reducible apply Walk.eq); case h => (intro w2 hw2 N hN; simp only [depsOf, List.filterMap_nil, List.filterMap_cons, List.getElem?_toArray, List.getElem?_cons_zero, List.getElem?_cons_succ, Option.bind_some, List.nil_append, List.cons_append, Ob]; go_simp; (try go_bits); with_reducible exact hN _ (Chg.refl _ _)))
        (with_reducible apply Walk.eq); case h =>
          intro w3 hw3 N hN
          have hq3 := hw3.cell HY0.out (fun h => h)
          simp only [depsOf, List.filterMap_nil, List.filterMap_cons, List.getElem?_toArray, List.getElem?_cons_zero, List.getElem?_cons_succ, Option.bind_some, List.nil_append, List.cons_append, Ob]
          go_simp
          exact hN _ (Chg.refl _ _)
        iterate 4 ((with_reducible apply Walk.eq); case h => (intro w2 hw2 N hN; simp only [depsOf, List.filterMap_nil, List.filterMap_cons, List.getElem?_toArray, List.getElem?_cons_zero, List.getElem?_cons_succ, Option.bind_some, List.nil_append, List.cons_append, Ob]; go_simp; (try go_bits); with_reducible exact hN _ (Chg.refl _ _)))
        (with_reducible apply Walk.eq); case h =>
          intro w3 hw3 N hN
          have hq3 := hw3.cell HY1.out (fun h => h)
          simp only [depsOf, List.filterMap_nil, List.filterMap_cons, List.getElem?_toArray, List.getElem?_cons_zero, List.getElem?_cons_succ, Option.bind_some, List.nil_append, List.cons_append, Ob]
          go_simp
          exact hN _ (Chg.refl _ _)
        iterate 4 ((with_reducible apply Walk.eq); case h => (intro w2 hw2 N hN; simp only [depsOf, List.filterMap_nil, List.filterMap_cons, List.getElem?_toArray, List.getElem?_cons_zero, List.getElem?_cons_succ, Option.bind_some, List.nil_append, List.cons_append, Ob]; go_simp; (try go_bits); with_reducible exact hN _ (Chg.refl _ _)))
        (with_reducible apply Walk.eq); case h =>
          intro w3 hw3 N hN
          simp only [depsOf, List.filterMap_nil, List.filterMap_cons, List.getElem?_toArray, List.getElem?_cons_zero, List.getElem?_cons_succ, Option.bind_some, List.nil_append, List.cons_append, Ob]
          go_simp
          exact hN _ (Chg.refl _ _)
        (with_reducible apply Walk.eq); case h =>
          intro w3 hw3 N hN
          simp only [depsOf, List.filterMap_nil, List.filterMap_cons, List.getElem?_toArray, List.getElem?_cons_zero, List.getElem?_cons_succ, Option.bind_some, List.nil_append, List.cons_append, Ob]
          go_simp
          exact hN _ (Chg.refl _ _)
        (with_reducible apply Walk.eq); case h =>
          intro w3 hw3 N hN
          have hq3 := hw3.cell HCF.out (fun h => h)
          simp only [depsOf, List.filterMap_nil, List.filterMap_cons, List.getElem?_toArray, List.getElem?_cons_zero, List.getElem?_cons_succ, Option.bind_some, List.nil_append, List.cons_append, Ob]
          go_simp
          exact hN _ (Chg.refl _ _)
        iterate 4 ((with_reducible apply Walk.eq); case h => (intro w2 hw2 N hN; simp only [depsOf, List.filterMap_nil, List.filterMap_cons, List.getElem?_toArray, List.getElem?_cons_zero, List.getElem?_cons_succ, Option.bind_some, List.nil_append, List.cons_append, Ob]; go_simp; (try go_bits); with_reducible exact hN _ (Chg.refl _ _)))
        intro w2 hw2
        simp only [List.nil_append, List.cons_append, Fin]
        go_simp
        clear hfe HY0 HY1 HCF hadd hkm hm0 hm1 hrem hml hf8
        have HW2 := Lib.hid hw2
        have HD2 := Lib.hid (HIN.out.dm.chg hw2 (fun _ _ h => h))
        have HC2 := Lib.hid (HIN.out.chg.trans hw2 (fun _ h => h.elim))
        have HBX2 := Lib.hid (HBX.out.chg hw2 (fun h => h))
        have HROW2 := Lib.hid (HROW.out.chg hw2 (fun _ _ h => h))
        have y0 := HBX2.out.cell (j := 0) rfl
        rw [HSV.out] at y0
        have y1 := HBX2.out.cell (j := 1) rfl
        have z0 := HBX2.out.free 0
        have z1 := HBX2.out.free 1
        have hk2 : K ≤ c3 := by omega
        have hk0 : 0 ≤ K := Nat.zero_le _
        clear hw2
        go_wp2_with fail
        go_roundw
        case rel =>
          have hln := HLN.out
          exact ⟨_, i + 1, _, _, rfl, by omega, by go_num, HIN.out.next HW2.out HBE.out HSV.out (by omega) HK.out hKL (by rw [HST.out, HD1.out])⟩
        case measure => exact meas_step hil hi64
    · have hii : ¬ (i : Int) < (ns.length : Int) := by omega
      obtain rfl : i = ns.length := by omega
      have c0 := hinv.dm.c.cell (j := 2) rfl
      have z2 := hinv.dm.c.free 2
      have HIN := Lib.hid hinv
      clear hinv
      go_wp2_with fail
      go_end0
      have heq := HIN.out.eq
      rw [List.take_length] at heq
      have hr := crashGo_rest fates ns 0 d
      have hsz := HC1.out.size
      obtain ⟨t1, t2⟩ := HIN.out.dm.turned (-1)
      have hchw : Chg (Has p mb fs sv) w (wr.setCell ⟨p, 2, none⟩ (.int .i64 (-1))) := ((HC1.out.weak (S' := Has p mb fs sv) (fun _ h => h.elim)).trans HIN.out.chg (fun k hk => .inl hk)).trans t2 (fun k hk => .inl (.inl hk))
      refine ⟨rfl, ⟨mb, fs, sv', con', ?_, ?_, fun k hk => .inl (HS.out k (HIN.out.has k hk)), HOK.out.crash fates⟩, hchw.weak (fun k hk => .inl (HS.out k hk))⟩
      · rw [HFIN.out]
        show Dm _ p mb fs sv' con' (Dk.crashGo fates 0 ns d).room (-1)
        rw [hr.1]
        exact t1
      · rw [HFIN.out]
        exact heq
end Go.Proofs.YtdjmifaidgbbaaaGreatDoor
