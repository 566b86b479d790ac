/-
  A log is flushed, and rolled on. (Of the logs' seat.)
-/
import Derived.Test.YtdjmifaidgbbaaaGreatDoorLb32
import Derived.Deep.CutBlock
import Derived.Test.YtdjmifaidgbbaaaGreatDoorLb02
set_option linter.unusedSimpArgs false
set_option linter.unusedVariables false
namespace Go.Proofs.YtdjmifaidgbbaaaGreatDoor
open Go.RowKit Go.Maps

/-- What a log needs for its operations. -/
structure LgN (B : Nat → Prop) (w : World) (ss : List (Nat × Value)) (g : Lg) : Prop where
  ne : 0 < ss.length
  few : ss.length ≤ 100000
  pls : g.last.pls.length ≤ 100000
  size : g.last.size ≤ 1000000000
  name : g.last.name.length ≤ 1000
  hand : Handle w
  hb : B 0
theorem LgN.off {B : Nat → Prop} {w w' : World} {ss : List (Nat × Value)} {g : Lg} (h : LgN B w ss g) (hc : Chg (Off B) w w') : LgN B w' ss g := ⟨h.ne, h.few, h.pls, h.size, h.name, h.hand.chg hc (fun hn => hn h.hb), h.hb⟩
theorem offI {B : Nat → Prop} {l : Nat} {sv : Value} {ss : List (Nat × Value)} {i : Nat} {w w' : World} (h : Chg (Off (BofI B l sv ss i)) w w') : Chg (Off B) w w' := h.weak fun k hk => .inl fun hb => hk (.inl hb)
theorem LgS.offL {B : Nat → Prop} {w w' : World} {p l : Nat} {S : Nat → Prop} {sv : Value} {ss : List (Nat × Value)} {d : Dk} {g : Lg} (h : LgS B w p l S sv ss d g) (hc : Chg (fun k => k = l) w w') : Chg (Off B) w w' := hc.weak fun k hk => .inl fun hb => (h.lb l (.inl rfl)).1 (hk ▸ hb)
theorem set_same {α : Type} (ss : List α) (i : Nat) (hi : i < ss.length) : ss.set i ss[i] = ss := List.set_getElem_self hi

set_option maxHeartbeats 2000000 in
theorem lflush_any {B : Nat → Prop} {w : World} {p l : Nat} {S : Nat → Prop} {sv : Value} {ss : List (Nat × Value)} {d : Dk} {g : Lg} (h : LgS B w p l S sv ss d g) (hn : LgN B w ss g) :
    Calls Tryz.prog 32 #[.pointer (some ⟨l, 0, none⟩)] w fun e w' => e = .returned (errD (flushLg d g).1) ∧ (∃ S', LgS B w' p l S' sv ss (flushLg d g).2.1 (flushLg d g).2.2) ∧ Chg (Off B) w w' := by
  have c6 := h.c.cell (j := 6) rfl
  have HH := Lib.hid h
  have HN := Lib.hid hn
  by_cases hd : g.down = true
  · have hF : flushLg d g = (6, d, g) := if_pos hd
    have HF := Lib.hid hF
    rw [hd] at c6
    clear h hn hF hd
    go_enter Tryz.func32, Tryz.ntmps32
    go_wp2_with fail
    go_ret
    rw [HF.out]
    exact ⟨rfl, ⟨S, HH.out⟩, Chg.refl _ _⟩
  have hdf : g.down = false := by simpa using hd
  rw [hdf] at c6
  have HL := Lib.hid (llast_any h.t hn.ne hn.few)
  have hle := h.len
  have hne := hn.ne
  have hls := h.t.lastSeg hne
  have e1 : g.segs[ss.length - 1]'(by omega) = g.last := by rw [hls]; congr 1; rw [hle]
  have HSY : Hid (∀ w', Chg Nil w w' → Calls Tryz.prog 56 #[.pointer (some ⟨(ss[ss.length - 1]'(by omega)).1, 0, none⟩)] w' fun e w'' => e = .returned (errD (d.sync g.last.name).1) ∧ (∃ S', LgS B w'' p l S' sv ss (d.sync g.last.name).2 g) ∧ Chg (Off B) w' w'') := fun w' hw => by
    have h1 := (h.nil hw).seg (ss.length - 1) (by omega)
    have h2 := ssync_any h1 (by rw [e1]; exact hn.name)
    rw [e1] at h2
    refine h2.mono ?_
    rintro e w'' ⟨h3, ⟨S', h4⟩, h5⟩
    refine ⟨h3, ⟨S', ?_⟩, offI h5⟩
    have h6 := (h.nil hw).back (by omega) h4 h5
    have e2 : ss.set (ss.length - 1) ((ss[ss.length - 1]'(by omega)).1, (ss[ss.length - 1]'(by omega)).2) = ss := set_same ss _ (by omega)
    have e3 : g.segs.set (ss.length - 1) g.last = g.segs := by rw [← e1]; exact set_same g.segs _ (by omega)
    rw [e2, e3] at h6
    exact h6
  obtain ⟨q, hq⟩ : ∃ q, (ss[ss.length - 1]'(by omega)).1 = q := ⟨_, rfl⟩
  rw [hq] at HL HSY
  obtain ⟨R, hR⟩ : ∃ R, d.sync g.last.name = R := ⟨_, rfl⟩
  rw [hR] at HSY
  have HFL : Hid (flushLg d g = if R.1 = 0 then (0, R.2, { g with safe := g.stop }) else (R.1, R.2, g.fail R.1)) := by unfold Hid flushLg; rw [if_neg hd, hR]
  clear h hn hd hdf hle hne hls e1 hq hR
  go_enter Tryz.func32, Tryz.ntmps32
  go_wp2_with fail
  refine HL.out.mono ?_
  rintro e w1 ⟨rfl, hc1⟩
  have HS1 := Lib.hid (HSY.out w1 hc1)
  have HC1 := Lib.hid hc1
  clear hc1 c6 HL HSY
  go_wp2_with fail
  refine HS1.out.mono ?_
  rintro e w2 ⟨rfl, hs2, hc2⟩
  have HS2 := Lib.hid hs2
  have HC2 : Hid (Chg (Off B) w w2) := (HC1.out.weak (fun _ h => h.elim)).trans hc2 (fun k hk => .inl hk)
  have HN2 := Lib.hid (HN.out.off HC2.out)
  clear hs2 hc2 HS1
  by_cases hk : R.1 = 0
  · have hz : errD R.1 = .nilIface := by rw [hk]; rfl
    rw [hz]
    have HF : Hid (flushLg d g = (0, R.2, { g with safe := g.stop })) := by unfold Hid; rw [HFL.out, if_pos hk]
    obtain ⟨S2, hs2⟩ := HS2.out
    have HEN := Lib.hid (lend_any hs2.t HN2.out.ne HN2.out.few (Nat.le_trans HN2.out.pls (by omega)))
    have HS3 := Lib.hid hs2
    clear hk hz hs2
    go_wp2_with fail
    refine HEN.out.mono ?_
    rintro e w3 ⟨rfl, hc3⟩
    have HS4 := Lib.hid (HS3.out.nil hc3)
    have HC3 : Hid (Chg (Off B) w w3) := HC2.out.trans hc3 (fun _ h => h.elim)
    have c5 := HS4.out.c.cell (j := 5) rfl
    have f5 := HS4.out.c.free 5
    clear hc3
    go_wp2_with fail
    go_ret
    rw [HF.out]
    have hset : Chg (fun k => k = l) w3 (w3.setCell ⟨l, 5, none⟩ (.int .i64 g.stop)) := (Chg.refl (fun k => k = l) _).setCell (.inl rfl) _
    exact ⟨rfl, ⟨S2, HS4.out.cells hset (HS4.out.c.set 5 _) rfl⟩, HC3.out.trans (HS4.out.offL hset) (fun k hk => .inl hk)⟩
  · have hz := errD_ne hk
    rw [hz]
    have HF : Hid (flushLg d g = (R.1, R.2, g.fail R.1)) := by unfold Hid; rw [HFL.out, if_neg hk]
    have HK := Lib.hid hk
    obtain ⟨S2, hs2⟩ := HS2.out
    have HFA := Lib.hid (lfail_any hs2 HN2.out.hand R.1 hk)
    have HS3 := Lib.hid hs2
    clear hk hz hs2
    generalize hrk : R.1 = rk at *
    go_wp2_with fail
    refine HFA.out.mono ?_
    rintro e w3 ⟨rfl, hs3, hc3⟩
    have HS4 := Lib.hid hs3
    have HC3 : Hid (Chg (Off B) w w3) := HC2.out.trans (HS3.out.offL hc3) (fun k hk => .inl hk)
    clear hs3 hc3
    go_wp2_with fail
    go_ret
    rw [HF.out]
    exact ⟨by show _ = Ending.returned (errD rk); rw [errD_ne HK.out]; rfl, ⟨S2, HS4.out⟩, HC3.out⟩
end Go.Proofs.YtdjmifaidgbbaaaGreatDoor

/-
  What is beside a log's segments: the disk turned; a segment put at the end. (Of the logs' seat.)
-/
set_option linter.unusedSimpArgs false
set_option linter.unusedVariables false
namespace Go.Proofs.YtdjmifaidgbbaaaGreatDoor
open Go.RowKit Go.Maps

theorem LgS.disk {B : Nat → Prop} {w w' : World} {p l : Nat} {S S' : Nat → Prop} {sv : Value} {ss : List (Nat × Value)} {d d' : Dk} {g : Lg} (h : LgS B w p l S sv ss d g) (hd : DsS (BofA B l sv ss) w' p S' d') (hc : Chg (Off (BofA B l sv ss)) w w') : LgS B w' p l S' sv ss d' g := by
  have hz := hc.size
  refine ⟨fun k hk => Nat.lt_of_lt_of_le (h.lo k hk) hz, hd.a, h.c.chg hc (fun hn => hn (.inr (.inl (.inl rfl)))), ownsRow_chg h.o hc (fun k hk hn => hn (.inr (.inl (.inr hk)))), h.len, fun i hi => (h.m i hi).chg hc (fun k hk hn => hn (.inr (.inr (THas.of hi hk)))),
    fun k hk => ⟨fun hb => (hd.sl k hk).1 (.inl hb), fun hb => (hd.sl k hk).1 (.inr (.inl hb)), fun hb => (hd.sl k hk).1 (.inr (.inr hb)), (hd.sl k hk).2⟩, h.lb, h.tb, h.apart⟩
/-- A new segment's pointer stands at the row's end. -/
theorem LgS.more {B : Nat → Prop} {w w1 w' : World} {p l s : Nat} {S : Nat → Prop} {sv sv' : Value} {ss : List (Nat × Value)} {d : Dk} {g : Lg} {sg : Sg} (h : LgS B w p l S sv ss d g) (hs : SgS (BofA B l sv ss) w p s S (.slice none 0 0) d sg)
    (ho : OwnT w1 sv' (ss.map (·.1) ++ [s])) (hc1 : Chg (fun k => sv.ownBlock = some k) w w1) (hsv : ∀ k, sv'.ownBlock = some k → sv.ownBlock = some k ∨ w.heap.size ≤ k) (hc2 : Chg (fun k => k = l) w1 w') (hb : Box w' l (({ g with segs := g.segs ++ [sg] } : Lg).cells p sv') 99) :
    LgS B w' p l S sv' (ss ++ [(s, .slice none 0 0)]) d { g with segs := g.segs ++ [sg] } := by
  have hc : Chg (fun k => LHas l sv k) w w' := (hc1.weak fun k hk => .inl (.inr hk)).trans hc2 (fun k hk => .inl (.inl hk))
  have hz := hc.size
  have hlt := h.lt
  have hsl : s < w.heap.size := hs.m.lt s (.inl rfl)
  have hsB : ∀ k, SHas s (.slice none 0 0) k → k = s := fun k hk => hk.elim id (fun e => by cases e)
  have hsn : ¬ BofA B l sv ss s := hs.ml s (.inl rfl)
  have hT : ∀ k, THas (ss ++ [(s, .slice none 0 0)]) k → THas ss k ∨ k = s := by
    rintro k ⟨x, hx, hk⟩
    rcases List.mem_append.1 hx with hx | hx
    · exact .inl ⟨x, hx, hk⟩
    · rw [List.mem_singleton.1 hx] at hk; exact .inr (hsB k hk)
  have hTlt : ∀ k, THas (ss ++ [(s, .slice none 0 0)]) k → k < w.heap.size := fun k hk => (hT k hk).elim (hlt.2 k) (fun e => e ▸ hsl)
  have hL : ∀ k, LHas l sv' k → LHas l sv k ∨ w.heap.size ≤ k := by
    rintro k (hk | hk)
    · exact .inl (.inl hk)
    · exact (hsv k hk).imp .inr id
  have hslv : sv'.ownBlock ≠ some l := fun e => by
    have h1 : w'.heap[l]? = _ := hb
    have hll := hlt.1 l (.inl rfl)
    rcases hsv l e with h2 | h2
    · have h3 : w.heap[l]? = _ := h.c
      rcases h.o.2 with ⟨hv, _⟩ | ⟨b, cap, cur, hv, _, hg, _⟩
      · rw [hv] at h2; cases h2
      · rw [hv] at h2
        obtain rfl : b = l := Option.some.inj h2
        rw [h3] at hg
        exact absurd (Obj.cells.inj (Option.some.inj hg)).2.1 (by decide)
    · omega
  refine ⟨fun k hk => Nat.lt_of_lt_of_le (h.lo k hk) hz, hs.a.chg hc (fun k hk hl => (h.sl k hk).2.1 hl), hb, ?_, ?_, ?_, ?_, ?_, ?_, ?_⟩
  · rw [List.map_append, List.map_singleton]
    exact ownsRow_chg ho hc2 (fun k hk e => hslv (e ▸ hk))
  · rw [List.length_append, List.length_append, h.len]; rfl
  · intro i hi
    rw [List.length_append, List.length_singleton] at hi
    have hle := h.len
    by_cases hil : i < ss.length
    · have h1 := (h.m i hil).chg hc (fun k hk hl => (h.lb k hl).2 (THas.of hil hk))
      simp only [List.getElem_append_left hil, List.getElem_append_left (show i < g.segs.length by omega)]
      exact h1
    · obtain rfl : i = ss.length := by omega
      have h1 := hs.m.chg hc (fun k hk hl => hsn (by rw [← hsB k hk]; exact .inr (.inl hl)))
      have e1 : (ss ++ [(s, Value.slice none 0 0)])[ss.length]'(by simp) = (s, .slice none 0 0) := by simp
      have e2 : (g.segs ++ [sg])[ss.length]'(by simp; omega) = sg := by simp [hle]
      simp only [e1, e2]
      exact h1
  · intro k hk
    have h1 := h.sl k hk
    refine ⟨h1.1, fun hl => ?_, fun ht => ?_, Nat.lt_of_lt_of_le h1.2.2.2 hz⟩
    · rcases hL k hl with h2 | h2
      · exact h1.2.1 h2
      · have := h1.2.2.2; omega
    · rcases hT k ht with h2 | h2
      · exact h1.2.2.1 h2
      · exact hs.ap s (.inl rfl) (h2 ▸ hk)
  · intro k hk
    rcases hL k hk with h1 | h1
    · refine ⟨(h.lb k h1).1, fun ht => ?_⟩
      rcases hT k ht with h2 | h2
      · exact (h.lb k h1).2 h2
      · exact hsn (.inr (.inl (h2 ▸ h1)))
    · exact ⟨fun hbk => by have := h.lo k hbk; omega, fun ht => by have := hTlt k ht; omega⟩
  · intro k hk
    rcases hT k hk with h1 | h1
    · exact h.tb k h1
    · exact fun hbk => hsn (.inl (h1 ▸ hbk))
  · intro i j hi hj hij k hk hk2
    rw [List.length_append, List.length_singleton] at hi hj
    by_cases h1 : i < ss.length
    · rw [List.getElem_append_left h1] at hk
      by_cases h2 : j < ss.length
      · rw [List.getElem_append_left h2] at hk2
        exact h.apart i j h1 h2 hij k hk hk2
      · obtain rfl : j = ss.length := by omega
        have e1 : (ss ++ [(s, Value.slice none 0 0)])[ss.length]'(by simp) = (s, .slice none 0 0) := by simp
        rw [e1] at hk2
        exact hsn (.inr (.inr (hsB k hk2 ▸ THas.of h1 hk)))
    · obtain rfl : i = ss.length := by omega
      have e1 : (ss ++ [(s, Value.slice none 0 0)])[ss.length]'(by simp) = (s, .slice none 0 0) := by simp
      rw [e1] at hk
      have h2 : j < ss.length := by omega
      rw [List.getElem_append_left h2] at hk2
      exact hsn (.inr (.inr (hsB k hk ▸ THas.of h2 hk2)))
end Go.Proofs.YtdjmifaidgbbaaaGreatDoor

/-
  A step of a drawn region's chain whose value has a property (what hangs on it may use that). (For the logs' seat.)
-/
set_option linter.unusedSimpArgs false
set_option linter.unusedVariables false
namespace Go.Proofs.YtdjmifaidgbbaaaGreatDoor.Ch
section
variable {P : Program} {ops : Array Oper} {R : World → World → Prop} {C : List Nat} {F : List Value → World → Prop} {w0 : World} {Q : Exit → Act → World → Prop} {a0 : Act}
theorem Walk.chainP (m : Nat) (φ : Value → World → Prop) (hk : ∀ v w w', φ v w → R w w' → φ v w') {js : List Nat} {E : List (List Nat)} {o : Oper} {os : List Oper} {specs : List Spec} (hd : o.dst.isSome = true) (hi : C[m]? = some specs.length)
    (h : ∀ w, R w0 w → ∀ vs : List Value, vs.length = m → F vs w → ∀ N : Value → World → Prop, (∀ v w', φ v w' → R w w' → F (vs ++ [v]) w' → N v w') → Ob P ops o N w (depsOf ops (chained C vs specs) js) a0)
    (hrest : Walk P ops R C F w0 Q a0 E os (specs ++ [Sum.inr (Sum.inl φ)])) : Walk P ops R C F w0 Q a0 (js :: E) (o :: os) specs :=
  ⟨.inr (.inl φ), ⟨hk, fun e => by rw [e] at hd; cases hd⟩, .inr (.inr ⟨m, hi, rfl, fun w hw vs hv hF N hN => h w hw vs hv hF N (fun v w' hp hr hf => hN v w' hp hr (by rw [show valIn o v = v by unfold valIn; cases ho : o.dst with | some _ => rfl | none => rw [ho] at hd; cases hd]; exact hf))⟩), hrest⟩
end
end Go.Proofs.YtdjmifaidgbbaaaGreatDoor.Ch
