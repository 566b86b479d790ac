/-
  A log is flushed, and rolled on. (Of the logs' seat.)
-/
import Derived.Test.YtdjmifaidgbbaaaGreatDoorLc31
import Derived.Deep.CutBlock
import Derived.Test.YtdjmifaidgbbaaaGreatDoorLc02
set_option linter.unusedSimpArgs false
set_option linter.unusedVariables false
namespace Go.Proofs.YtdjmifaidgbbaaaGreatDoor
open Go.RowKit Go.Maps

/-- What a log needs for its operations. -/
structure LgN (B : Nat → Prop) (w : World) (ss : List (Nat × Value)) (g : Lg) : Prop where
  ne : 0 < ss.length
  few : ss.length ≤ 100000
  pls : g.last.pls.length ≤ 100000
  size : g.last.size ≤ 1000000000
  name : g.last.name.length ≤ 1000
  hand : Handle w
  hb : B 0
theorem LgN.off {B : Nat → Prop} {w w' : World} {ss : List (Nat × Value)} {g : Lg} (h : LgN B w ss g) (hc : Chg (Off B) w w') : LgN B w' ss g := ⟨h.ne, h.few, h.pls, h.size, h.name, h.hand.chg hc (fun hn => hn h.hb), h.hb⟩
theorem offI {B : Nat → Prop} {l : Nat} {sv : Value} {ss : List (Nat × Value)} {i : Nat} {w w' : World} (h : Chg (Off (BofI B l sv ss i)) w w') : Chg (Off B) w w' := h.weak fun k hk => .inl fun hb => hk (.inl hb)
theorem LgS.offL {B : Nat → Prop} {w w' : World} {p l : Nat} {S : Nat → Prop} {sv : Value} {ss : List (Nat × Value)} {d : Dk} {g : Lg} (h : LgS B w p l S sv ss d g) (hc : Chg (fun k => k = l) w w') : Chg (Off B) w w' := hc.weak fun k hk => .inl fun hb => (h.lb l (.inl rfl)).1 (hk ▸ hb)
theorem set_same {α : Type} (ss : List α) (i : Nat) (hi : i < ss.length) : ss.set i ss[i] = ss := List.set_getElem_self hi

set_option maxHeartbeats 2000000 in
theorem lflush_any {B : Nat → Prop} {w : World} {p l : Nat} {S : Nat → Prop} {sv : Value} {ss : List (Nat × Value)} {d : Dk} {g : Lg} (h : LgS B w p l S sv ss d g) (hn : LgN B w ss g) :
    Calls Tryz.prog 32 #[.pointer (some ⟨l, 0, none⟩)] w fun e w' => e = .returned (errD (flushLg d g).1) ∧ (∃ S', LgS B w' p l S' sv ss (flushLg d g).2.1 (flushLg d g).2.2) ∧ Chg (Off B) w w' := by
  have c6 := h.c.cell (j := 6) rfl
  have HH := Lib.hid h
  have HN := Lib.hid hn
  by_cases hd : g.down = true
  · have hF : flushLg d g = (6, d, g) := if_pos hd
    have HF := Lib.hid hF
    rw [hd] at c6
    clear h hn hF hd
    go_enter Tryz.func32, Tryz.ntmps32
    go_wp2_with fail
    go_ret
    rw [HF.out]
    exact ⟨rfl, ⟨S, HH.out⟩, Chg.refl _ _⟩
  have hdf : g.down = false := by simpa using hd
  rw [hdf] at c6
  have HL := Lib.hid (llast_any h.t hn.ne hn.few)
  have hle := h.len
  have hne := hn.ne
  have hls := h.t.lastSeg hne
  have e1 : g.segs[ss.length - 1]'(by omega) = g.last := by rw [hls]; congr 1; rw [hle]
  have HSY : Hid (∀ w', Chg Nil w w' → Calls Tryz.prog 56 #[.pointer (some ⟨(ss[ss.length - 1]'(by omega)).1, 0, none⟩)] w' fun e w'' => e = .returned (errD (d.sync g.last.name).1) ∧ (∃ S', LgS B w'' p l S' sv ss (d.sync g.last.name).2 g) ∧ Chg (Off B) w' w'') := fun w' hw => by
    have h1 := (h.nil hw).seg (ss.length - 1) (by omega)
    have h2 := ssync_any h1 (by rw [e1]; exact hn.name)
    rw [e1] at h2
    refine h2.mono ?_
    rintro e w'' ⟨h3, ⟨S', h4⟩, h5⟩
    refine ⟨h3, ⟨S', ?_⟩, offI h5⟩
    have h6 := (h.nil hw).back (by omega) h4 h5
    have e2 : ss.set (ss.length - 1) ((ss[ss.length - 1]'(by omega)).1, (ss[ss.length - 1]'(by omega)).2) = ss := set_same ss _ (by omega)
    have e3 : g.segs.set (ss.length - 1) g.last = g.segs := by rw [← e1]; exact set_same g.segs _ (by omega)
    rw [e2, e3] at h6
    exact h6
  obtain ⟨q, hq⟩ : ∃ q, (ss[ss.length - 1]'(by omega)).1 = q := ⟨_, rfl⟩
  rw [hq] at HL HSY
  obtain ⟨R, hR⟩ : ∃ R, d.sync g.last.name = R := ⟨_, rfl⟩
  rw [hR] at HSY
  have HFL : Hid (flushLg d g = if R.1 = 0 then (0, R.2, { g with safe := g.stop }) else (R.1, R.2, g.fail R.1)) := by unfold Hid flushLg; rw [if_neg hd, hR]
  clear h hn hd hdf hle hne hls e1 hq hR
  go_enter Tryz.func32, Tryz.ntmps32
  go_wp2_with fail
  refine HL.out.mono ?_
  rintro e w1 ⟨rfl, hc1⟩
  have HS1 := Lib.hid (HSY.out w1 hc1)
  have HC1 := Lib.hid hc1
  clear hc1 c6 HL HSY
  go_wp2_with fail
  refine HS1.out.mono ?_
  rintro e w2 ⟨rfl, hs2, hc2⟩
  have HS2 := Lib.hid hs2
  have HC2 : Hid (Chg (Off B) w w2) := (HC1.out.weak (fun _ h => h.elim)).trans hc2 (fun k hk => .inl hk)
  have HN2 := Lib.hid (HN.out.off HC2.out)
  clear hs2 hc2 HS1
  by_cases hk : R.1 = 0
  · have hz : errD R.1 = .nilIface := by rw [hk]; rfl
    rw [hz]
    have HF : Hid (flushLg d g = (0, R.2, { g with safe := g.stop })) := by unfold Hid; rw [HFL.out, if_pos hk]
    obtain ⟨S2, hs2⟩ := HS2.out
    have HEN := Lib.hid (lend_any hs2.t HN2.out.ne HN2.out.few (Nat.le_trans HN2.out.pls (by omega)))
    have HS3 := Lib.hid hs2
    clear hk hz hs2
    go_wp2_with fail
    refine HEN.out.mono ?_
    rintro e w3 ⟨rfl, hc3⟩
    have HS4 := Lib.hid (HS3.out.nil hc3)
    have HC3 : Hid (Chg (Off B) w w3) := HC2.out.trans hc3 (fun _ h => h.elim)
    have c5 := HS4.out.c.cell (j := 5) rfl
    have f5 := HS4.out.c.free 5
    clear hc3
    go_wp2_with fail
    go_ret
    rw [HF.out]
    have hset : Chg (fun k => k = l) w3 (w3.setCell ⟨l, 5, none⟩ (.int .i64 g.stop)) := (Chg.refl (fun k => k = l) _).setCell (.inl rfl) _
    exact ⟨rfl, ⟨S2, HS4.out.cells hset (HS4.out.c.set 5 _) rfl⟩, HC3.out.trans (HS4.out.offL hset) (fun k hk => .inl hk)⟩
  · have hz := errD_ne hk
    rw [hz]
    have HF : Hid (flushLg d g = (R.1, R.2, g.fail R.1)) := by unfold Hid; rw [HFL.out, if_neg hk]
    have HK := Lib.hid hk
    obtain ⟨S2, hs2⟩ := HS2.out
    have HFA := Lib.hid (lfail_any hs2 HN2.out.hand R.1 hk)
    have HS3 := Lib.hid hs2
    clear hk hz hs2
    generalize hrk : R.1 = rk at *
    go_wp2_with fail
    refine HFA.out.mono ?_
    rintro e w3 ⟨rfl, hs3, hc3⟩
    have HS4 := Lib.hid hs3
    have HC3 : Hid (Chg (Off B) w w3) := HC2.out.trans (HS3.out.offL hc3) (fun k hk => .inl hk)
    clear hs3 hc3
    go_wp2_with fail
    go_ret
    rw [HF.out]
    exact ⟨by show _ = Ending.returned (errD rk); rw [errD_ne HK.out]; rfl, ⟨S2, HS4.out⟩, HC3.out⟩
end Go.Proofs.YtdjmifaidgbbaaaGreatDoor

/-
  What is beside a log's segments: the disk turned; a segment put at the end. (Of the logs' seat.)
-/
set_option linter.unusedSimpArgs false
set_option linter.unusedVariables false
namespace Go.Proofs.YtdjmifaidgbbaaaGreatDoor
open Go.RowKit Go.Maps

theorem LgS.disk {B : Nat → Prop} {w w' : World} {p l : Nat} {S S' : Nat → Prop} {sv : Value} {ss : List (Nat × Value)} {d d' : Dk} {g : Lg} (h : LgS B w p l S sv ss d g) (hd : DsS (BofA B l sv ss) w' p S' d') (hc : Chg (Off (BofA B l sv ss)) w w') : LgS B w' p l S' sv ss d' g := by
  have hz := hc.size
  refine ⟨fun k hk => Nat.lt_of_lt_of_le (h.lo k hk) hz, hd.a, h.c.chg hc (fun hn => hn (.inr (.inl (.inl rfl)))), ownsRow_chg h.o hc (fun k hk hn => hn (.inr (.inl (.inr hk)))), h.len, fun i hi => (h.m i hi).chg hc (fun k hk hn => hn (.inr (.inr (THas.of hi hk)))),
    fun k hk => ⟨fun hb => (hd.sl k hk).1 (.inl hb), fun hb => (hd.sl k hk).1 (.inr (.inl hb)), fun hb => (hd.sl k hk).1 (.inr (.inr hb)), (hd.sl k hk).2⟩, h.lb, h.tb, h.apart⟩
/-- A new segment's pointer stands at the row's end. -/
theorem LgS.more {B : Nat → Prop} {w w1 w' : World} {p l s : Nat} {S : Nat → Prop} {sv sv' : Value} {ss : List (Nat × Value)} {d : Dk} {g : Lg} {sg : Sg} (h : LgS B w p l S sv ss d g) (hs : SgS (BofA B l sv ss) w p s S (.slice none 0 0) d sg)
    (ho : OwnT w1 sv' (ss.map (·.1) ++ [s])) (hc1 : Chg (fun k => sv.ownBlock = some k) w w1) (hsv : ∀ k, sv'.ownBlock = some k → sv.ownBlock = some k ∨ w.heap.size ≤ k) (hc2 : Chg (fun k => k = l) w1 w') (hb : Box w' l (({ g with segs := g.segs ++ [sg] } : Lg).cells p sv') 99) :
    LgS B w' p l S sv' (ss ++ [(s, .slice none 0 0)]) d { g with segs := g.segs ++ [sg] } := by
  have hc : Chg (fun k => LHas l sv k) w w' := (hc1.weak fun k hk => .inl (.inr hk)).trans hc2 (fun k hk => .inl (.inl hk))
  have hz := hc.size
  have hlt := h.lt
  have hsl : s < w.heap.size := hs.m.lt s (.inl rfl)
  have hsB : ∀ k, SHas s (.slice none 0 0) k → k = s := fun k hk => hk.elim id (fun e => by cases e)
  have hsn : ¬ BofA B l sv ss s := hs.ml s (.inl rfl)
  have hT : ∀ k, THas (ss ++ [(s, .slice none 0 0)]) k → THas ss k ∨ k = s := by
    rintro k ⟨x, hx, hk⟩
    rcases List.mem_append.1 hx with hx | hx
    · exact .inl ⟨x, hx, hk⟩
    · rw [List.mem_singleton.1 hx] at hk; exact .inr (hsB k hk)
  have hTlt : ∀ k, THas (ss ++ [(s, .slice none 0 0)]) k → k < w.heap.size := fun k hk => (hT k hk).elim (hlt.2 k) (fun e => e ▸ hsl)
  have hL : ∀ k, LHas l sv' k → LHas l sv k ∨ w.heap.size ≤ k := by
    rintro k (hk | hk)
    · exact .inl (.inl hk)
    · exact (hsv k hk).imp .inr id
  have hslv : sv'.ownBlock ≠ some l := fun e => by
    have h1 : w'.heap[l]? = _ := hb
    have hll := hlt.1 l (.inl rfl)
    rcases hsv l e with h2 | h2
    · have h3 : w.heap[l]? = _ := h.c
      rcases h.o.2 with ⟨hv, _⟩ | ⟨b, cap, cur, hv, _, hg, _⟩
      · rw [hv] at h2; cases h2
      · rw [hv] at h2
        obtain rfl : b = l := Option.some.inj h2
        rw [h3] at hg
        exact absurd (Obj.cells.inj (Option.some.inj hg)).2.1 (by decide)
    · omega
  refine ⟨fun k hk => Nat.lt_of_lt_of_le (h.lo k hk) hz, hs.a.chg hc (fun k hk hl => (h.sl k hk).2.1 hl), hb, ?_, ?_, ?_, ?_, ?_, ?_, ?_⟩
  · rw [List.map_append, List.map_singleton]
    exact ownsRow_chg ho hc2 (fun k hk e => hslv (e ▸ hk))
  · rw [List.length_append, List.length_append, h.len]; rfl
  · intro i hi
    rw [List.length_append, List.length_singleton] at hi
    have hle := h.len
    by_cases hil : i < ss.length
    · have h1 := (h.m i hil).chg hc (fun k hk hl => (h.lb k hl).2 (THas.of hil hk))
      simp only [List.getElem_append_left hil, List.getElem_append_left (show i < g.segs.length by omega)]
      exact h1
    · obtain rfl : i = ss.length := by omega
      have h1 := hs.m.chg hc (fun k hk hl => hsn (by rw [← hsB k hk]; exact .inr (.inl hl)))
      have e1 : (ss ++ [(s, Value.slice none 0 0)])[ss.length]'(by simp) = (s, .slice none 0 0) := by simp
      have e2 : (g.segs ++ [sg])[ss.length]'(by simp; omega) = sg := by simp [hle]
      simp only [e1, e2]
      exact h1
  · intro k hk
    have h1 := h.sl k hk
    refine ⟨h1.1, fun hl => ?_, fun ht => ?_, Nat.lt_of_lt_of_le h1.2.2.2 hz⟩
    · rcases hL k hl with h2 | h2
      · exact h1.2.1 h2
      · have := h1.2.2.2; omega
    · rcases hT k ht with h2 | h2
      · exact h1.2.2.1 h2
      · exact hs.ap s (.inl rfl) (h2 ▸ hk)
  · intro k hk
    rcases hL k hk with h1 | h1
    · refine ⟨(h.lb k h1).1, fun ht => ?_⟩
      rcases hT k ht with h2 | h2
      · exact (h.lb k h1).2 h2
      · exact hsn (.inr (.inl (h2 ▸ h1)))
    · exact ⟨fun hbk => by have := h.lo k hbk; omega, fun ht => by have := hTlt k ht; omega⟩
  · intro k hk
    rcases hT k hk with h1 | h1
    · exact h.tb k h1
    · exact fun hbk => hsn (.inl (h1 ▸ hbk))
  · intro i j hi hj hij k hk hk2
    rw [List.length_append, List.length_singleton] at hi hj
    by_cases h1 : i < ss.length
    · rw [List.getElem_append_left h1] at hk
      by_cases h2 : j < ss.length
      · rw [List.getElem_append_left h2] at hk2
        exact h.apart i j h1 h2 hij k hk hk2
      · obtain rfl : j = ss.length := by omega
        have e1 : (ss ++ [(s, Value.slice none 0 0)])[ss.length]'(by simp) = (s, .slice none 0 0) := by simp
        rw [e1] at hk2
        exact hsn (.inr (.inr (hsB k hk2 ▸ THas.of h1 hk)))
    · obtain rfl : i = ss.length := by omega
      have e1 : (ss ++ [(s, Value.slice none 0 0)])[ss.length]'(by simp) = (s, .slice none 0 0) := by simp
      rw [e1] at hk
      have h2 : j < ss.length := by omega
      rw [List.getElem_append_left h2] at hk2
      exact hsn (.inr (.inr (hsB k hk ▸ THas.of h2 hk2)))
end Go.Proofs.YtdjmifaidgbbaaaGreatDoor

/-
  A step of a drawn region's chain whose value has a property (what hangs on it may use that). (For the logs' seat.)
-/
set_option linter.unusedSimpArgs false
set_option linter.unusedVariables false
namespace Go.Proofs.YtdjmifaidgbbaaaGreatDoor.Ch
section
variable {P : Program} {ops : Array Oper} {R : World → World → Prop} {C : List Nat} {F : List Value → World → Prop} {w0 : World} {Q : Exit → Act → World → Prop} {a0 : Act}
theorem Walk.chainP (m : Nat) (φ : Value → World → Prop) (hk : ∀ v w w', φ v w → R w w' → φ v w') {js : List Nat} {E : List (List Nat)} {o : Oper} {os : List Oper} {specs : List Spec} (hd : o.dst.isSome = true) (hi : C[m]? = some specs.length)
    (h : ∀ w, R w0 w → ∀ vs : List Value, vs.length = m → F vs w → ∀ N : Value → World → Prop, (∀ v w', φ v w' → R w w' → F (vs ++ [v]) w' → N v w') → Ob P ops o N w (depsOf ops (chained C vs specs) js) a0)
    (hrest : Walk P ops R C F w0 Q a0 E os (specs ++ [Sum.inr (Sum.inl φ)])) : Walk P ops R C F w0 Q a0 (js :: E) (o :: os) specs :=
  ⟨.inr (.inl φ), ⟨hk, fun e => by rw [e] at hd; cases hd⟩, .inr (.inr ⟨m, hi, rfl, fun w hw vs hv hF N hN => h w hw vs hv hF N (fun v w' hp hr hf => hN v w' hp hr (by rw [show valIn o v = v by unfold valIn; cases ho : o.dst with | some _ => rfl | none => rw [ho] at hd; cases hd]; exact hf))⟩), hrest⟩
end
end Go.Proofs.YtdjmifaidgbbaaaGreatDoor.Ch

/-
  A log rolls on to a new segment. (Of the logs' seat.)
-/
set_option linter.unusedSimpArgs false
set_option linter.unusedVariables false
namespace Go.Proofs.YtdjmifaidgbbaaaGreatDoor
open Go.RowKit Go.Maps

theorem flush_keeps (d : Dk) (g : Lg) : (flushLg d g).2.2.segs = g.segs ∧ (flushLg d g).2.2.dir = g.dir ∧ (flushLg d g).2.2.most = g.most := by
  unfold flushLg Lg.fail
  split
  · exact ⟨rfl, rfl, rfl⟩
  · split
    · exact ⟨rfl, rfl, rfl⟩
    · dsimp only
      split <;> exact ⟨rfl, rfl, rfl⟩
theorem stop_keeps {g g' : Lg} (h : g'.segs = g.segs) : g'.last = g.last ∧ g'.stop = g.stop := by
  have h1 : g'.last = g.last := by unfold Lg.last; rw [h]
  exact ⟨h1, by unfold Lg.stop; rw [h1]⟩
def vP : Value → Nat | .pointer (some a) => a.block | _ => 0
/-- Ahead of Make, behind it. -/
def RoF (B : Nat → Prop) (p l : Nat) (S : Nat → Prop) (sv : Value) (ss : List (Nat × Value)) (d d' : Dk) (g : Lg) (sg : Sg) : List Value → World → Prop
  | [], w => LgS B w p l S sv ss d g
  | v :: vs, w => ∃ s S', v = .tuple #[.pointer (some ⟨s, 0, none⟩), .nilIface] ∧ LgS B w p l S' sv ss d' g ∧ SgS (BofA B l sv ss) w p s S' (.slice none 0 0) d' sg ∧ (∀ x, vs[0]? = some x → x = v) ∧ (∀ x, vs[1]? = some x → x = .pointer (some ⟨s, 0, none⟩)) ∧ (∀ x, vs[2]? = some x → x = .pointer (some ⟨s, 0, none⟩))
theorem RoF.nil {B : Nat → Prop} {p l : Nat} {S : Nat → Prop} {sv : Value} {ss : List (Nat × Value)} {d d' : Dk} {g : Lg} {sg : Sg} {w w' : World} (hc : Chg Nil w w') : ∀ vs, RoF B p l S sv ss d d' g sg vs w → RoF B p l S sv ss d d' g sg vs w'
  | [], h => LgS.nil h hc
  | _ :: _, h => by
    obtain ⟨s, S', h1, h2, h3, h4⟩ := h
    exact ⟨s, S', h1, h2.nil hc, h3.nil hc, h4⟩
theorem RoF.end' {B : Nat → Prop} {p l : Nat} {S : Nat → Prop} {sv : Value} {ss : List (Nat × Value)} {d d' : Dk} {g : Lg} {sg : Sg} {w : World} {v a b c : Value} (h : RoF B p l S sv ss d d' g sg [v, a, b, c] w) : c = .pointer (some ⟨vP c, 0, none⟩) ∧ ∃ S', LgS B w p l S' sv ss d' g ∧ SgS (BofA B l sv ss) w p (vP c) S' (.slice none 0 0) d' sg := by
  obtain ⟨s, S', _, h2, h3, _, _, h4⟩ := h
  obtain rfl := h4 c rfl
  exact ⟨rfl, S', h2, h3⟩
/-- .. where it is not. -/
def ReF (B : Nat → Prop) (p l : Nat) (S : Nat → Prop) (sv : Value) (ss : List (Nat × Value)) (d d' : Dk) (g : Lg) : List Value → World → Prop
  | [], w => LgS B w p l S sv ss d g
  | _ :: _, w => ∃ S', LgS B w p l S' sv ss d' g
theorem ReF.nil {B : Nat → Prop} {p l : Nat} {S : Nat → Prop} {sv : Value} {ss : List (Nat × Value)} {d d' : Dk} {g : Lg} {w w' : World} (hc : Chg Nil w w') : ∀ vs, ReF B p l S sv ss d d' g vs w → ReF B p l S sv ss d d' g vs w'
  | [], h => LgS.nil h hc
  | _ :: _, ⟨S', h⟩ => ⟨S', h.nil hc⟩
/-- What Make gives where it is done. -/
def MkP (v : Value) (_ : World) : Prop := ∃ s, v = .tuple #[.pointer (some ⟨s, 0, none⟩), .nilIface]
theorem box_row_ne' {w : World} {g : Nat} {cs : List Value} {t e : TypeId} {sz n : Nat} {v : Value} {xs : List Value} (hb : Box w g cs t) (h : w.ownsRow 0 e sz v n xs) (hne : t ≠ e) : ¬ v.ownBlock = some g := by
  intro hk
  rcases h.2 with ⟨rfl, _⟩ | ⟨g', cap, cur, rfl, _, hg, _⟩
  · cases hk
  · obtain rfl : g' = g := Option.some.inj hk
    have hq : w.heap[g']? = _ := hb
    rw [hq] at hg
    exact hne (Obj.cells.inj (Option.some.inj hg)).2.1
theorem moreLg_ok {d : Dk} {g : Lg} (h : (d.make (segName g.dir g.stop.toNat)).1 = 0) : moreLg d g = (0, (d.make (segName g.dir g.stop.toNat)).2, { g with segs := g.segs ++ [⟨segName g.dir g.stop.toNat, g.stop, [], 0⟩] }) := if_pos h
theorem moreLg_no {d : Dk} {g : Lg} (h : (d.make (segName g.dir g.stop.toNat)).1 ≠ 0) : moreLg d g = ((d.make (segName g.dir g.stop.toNat)).1, (d.make (segName g.dir g.stop.toNat)).2, g) := if_neg h
/-- Make beside a log. -/
theorem lmake_any {B : Nat → Prop} {w : World} {p l : Nat} {S : Nat → Prop} {sv : Value} {ss : List (Nat × Value)} {d : Dk} {g : Lg} (h : LgS B w p l S sv ss d g) (hT : Tabs w) (hTB : TabB B) (hdir : g.dir.length ≤ 100) (n : Nat) (hn : n ≤ 1099511627776) :
    Calls Tryz.prog 54 #[.pointer (some ⟨p, 0, none⟩), .string ⟨g.dir.toArray⟩, .int .i64 (n : Nat)] w fun e w' =>
      (((d.make (segName g.dir n)).1 = 0 ∧ ∃ s S', e = .returned (.tuple #[.pointer (some ⟨s, 0, none⟩), .nilIface]) ∧ LgS B w' p l S' sv ss (d.make (segName g.dir n)).2 g ∧ SgS (BofA B l sv ss) w' p s S' (.slice none 0 0) (d.make (segName g.dir n)).2 ⟨segName g.dir n, n, [], 0⟩) ∨
       ((d.make (segName g.dir n)).1 ≠ 0 ∧ ∃ S', e = .returned (.tuple #[.pointer none, errD (d.make (segName g.dir n)).1]) ∧ LgS B w' p l S' sv ss (d.make (segName g.dir n)).2 g)) ∧ Chg S w w' := by
  have hds := h.ds
  have h1 := smake_any hds hT (fun n hn k hk => .inl (hTB n hn k hk)) ⟨g.dir.toArray⟩ (by show g.dir.toArray.size ≤ 100; simp; exact hdir) n hn
  have e1 : segName (ByteArray.mk g.dir.toArray).data.toList n = segName g.dir n := rfl
  rw [e1] at h1
  refine h1.mono ?_
  rintro e w' ⟨hc, S', hds', hcase⟩
  have hoff : Chg (Off (BofA B l sv ss)) w w' := hc.weak fun k hk => .inl (hds.sl k hk).1
  have hlg := h.disk hds' hoff
  rcases hcase with ⟨h0, s, _, he, hsg⟩ | ⟨h0, he⟩
  · exact ⟨.inl ⟨h0, s, S', he, hlg, hsg⟩, hc⟩
  · exact ⟨.inr ⟨h0, S', he, hlg⟩, hc⟩

set_option maxHeartbeats 0 in
set_option maxRecDepth 20000 in
theorem lroll_any {B : Nat → Prop} {w : World} {p l : Nat} {S : Nat → Prop} {sv : Value} {ss : List (Nat × Value)} {d : Dk} {g : Lg} (h : LgS B w p l S sv ss d g) (hn : LgN B w ss g) (hT : Tabs w) (hTB : TabB B) (hdir : g.dir.length ≤ 100) (n : Nat) (hst : g.stop = (n : Int)) (hn1 : n ≤ 1099511627776) :
    Calls Tryz.prog 60 #[.pointer (some ⟨l, 0, none⟩)] w fun e w' => e = .returned (errD (rollLg d g).1) ∧ (∃ S' sv' ss', LgS B w' p l S' sv' ss' (rollLg d g).2.1 (rollLg d g).2.2 ∧ 0 < ss'.length ∧ ss'.length ≤ ss.length + 1) ∧ Chg (Off B) w w' := by
  have hflu := lflush_any h hn
  obtain ⟨j1, j2, j3⟩ := flush_keeps d g
  obtain ⟨⟨fk, d1, g1⟩, hF1⟩ : ∃ F1, flushLg d g = F1 := ⟨_, rfl⟩
  rw [hF1] at hflu j1 j2 j3
  have HFLU : Hid (Calls Tryz.prog 32 #[.pointer (some ⟨l, 0, none⟩)] w fun e w' => e = .returned (errD fk) ∧ (∃ S', LgS B w' p l S' sv ss d1 g1) ∧ Chg (Off B) w w') := hflu
  have HROLL : Hid (rollLg d g = if fk = 0 then moreLg d1 g1 else (fk, d1, g1)) := by unfold Hid rollLg; rw [hF1]
  have k1 : g1.segs = g.segs := j1
  have k2 : g1.dir = g.dir := j2
  have hst1 : g1.stop = (n : Int) := (stop_keeps k1).2.trans hst
  have hl1 : g1.last = g.last := (stop_keeps k1).1
  have HST := Lib.hid hst1
  have HL1 := Lib.hid hl1
  have HDIR : Hid (g1.dir.length ≤ 100) := by unfold Hid; rw [k2]; exact hdir
  have HN := Lib.hid hn
  have HT := Lib.hid hT
  have HTB := Lib.hid hTB
  have HN1 := Lib.hid hn1
  clear h hn hflu hT hTB hdir hst hn1 k1 k2 j1 j2 j3 hF1 hst1 hl1
  go_enter Tryz.func60, Tryz.ntmps60
  go_wp2_with fail
  refine HFLU.out.mono ?_
  rintro e w1 ⟨rfl, ⟨S1, hs1⟩, hc1⟩
  have HS1 := Lib.hid hs1
  have HC1 := Lib.hid hc1
  clear hs1 hc1 HFLU
  by_cases hk : fk = 0
  · subst hk
    have HR : Hid (rollLg d g = moreLg d1 g1) := by unfold Hid; rw [HROLL.out]; exact if_pos rfl
    have hz : errD 0 = .nilIface := rfl
    rw [hz]
    have c0 := HS1.out.c.cell (j := 0) rfl
    have c1 := HS1.out.c.cell (j := 1) rfl
    have HNL : Hid (¬ S1 l) := fun hs => (HS1.out.sl l hs).2.1 (.inl rfl)
    have HTS : Hid (∀ w2, Chg S1 w1 w2 → Tabs w2) := fun w2 hw =>
      (HT.out.off HC1.out (fun m hm k hk hn => hn (HTB.out m hm k hk))).off hw (fun m hm k hk hs => (HS1.out.sl k hs).1 (HTB.out m hm k hk))
    have HEN : Hid (∀ w2, Chg S1 w1 w2 → Calls Tryz.prog 15 #[.pointer (some ⟨l, 0, none⟩)] w2 fun e w3 => e = .returned (.int .i64 (n : Nat)) ∧ Chg Nil w2 w3) := fun w2 hw => by
      have h1 := lend_any (HS1.out.t.chg hw (fun k hk hs => (HS1.out.sl k hs).2.1 hk) (fun k hk hs => (HS1.out.sl k hs).2.2.1 hk)) HN.out.ne HN.out.few (by rw [HL1.out]; exact Nat.le_trans HN.out.pls (by omega))
      rw [HST.out] at h1
      exact h1
    have HMK := Lib.hid (fun (w2 : World) (h2 : LgS B w2 p l S1 sv ss d1 g1) (h3 : Tabs w2) => lmake_any h2 h3 HTB.out HDIR.out n HN1.out)
    obtain ⟨M, hM⟩ : ∃ M, d1.make (segName g1.dir n) = M := ⟨_, rfl⟩
    rw [hM] at HMK
    have HM : Hid (moreLg d1 g1 = if M.1 = 0 then (0, M.2, { g1 with segs := g1.segs ++ [⟨segName g1.dir n, n, [], 0⟩] }) else (M.1, M.2, g1)) := by
      unfold Hid moreLg
      rw [HST.out, Int.toNat_natCast, hM]
    clear hz hM
    by_cases hm : M.1 = 0
    · have HM0 := Lib.hid hm
      clear hm
      go_upto_region 4 with fail
      refine Ch.wp_region_chain _ (Chg (S1)) [10, 11, 12, 14] (RoF B p l S1 sv ss d1 M.2 g1 ⟨segName g1.dir n, n, [], 0⟩) (by kernel_rfl) (fun _ => Chg.refl _ _) (fun _ _ _ h k => h.trans k (fun _ h => .inl h)) [[], [0], [1], [2], [], [4], [5], [6], [], [8], [3, 7, 9], [10], [11], [11], [12], [13]] rfl (by kernel_rfl) (by kernel_rfl) (Chg.refl _ _).drew ?_ ?_
      · exact HS1.out.nil (Chg.refl Nil _).drew
      iterate 3 ((with_reducible apply Ch.Walk.eq); (case hd => rfl); (case hi => rfl); case h => (intro w2 hw2 N hN; simp only [Ch.depsOf, List.filterMap_nil, List.filterMap_cons, List.getElem?_toArray, List.getElem?_cons_zero, List.getElem?_cons_succ, Option.bind_some, List.nil_append, List.cons_append, Ch.Ob]; go_simp; (try go_bits); with_reducible exact hN _ (Chg.refl _ _) (fun _ h => h)))
      ((with_reducible apply Ch.Walk.eq); (case hd => rfl); (case hi => rfl); case h => (intro w2 hw2 N hN; (have hq := hw2.cell c0 HNL.out); simp only [Ch.depsOf, List.filterMap_nil, List.filterMap_cons, List.getElem?_toArray, List.getElem?_cons_zero, List.getElem?_cons_succ, Option.bind_some, List.nil_append, List.cons_append, Ch.Ob]; go_simp; (try go_bits); with_reducible exact hN _ (Chg.refl _ _) (fun _ h => h)))
      iterate 3 ((with_reducible apply Ch.Walk.eq); (case hd => rfl); (case hi => rfl); case h => (intro w2 hw2 N hN; simp only [Ch.depsOf, List.filterMap_nil, List.filterMap_cons, List.getElem?_toArray, List.getElem?_cons_zero, List.getElem?_cons_succ, Option.bind_some, List.nil_append, List.cons_append, Ch.Ob]; go_simp; (try go_bits); with_reducible exact hN _ (Chg.refl _ _) (fun _ h => h)))
      ((with_reducible apply Ch.Walk.eq); (case hd => rfl); (case hi => rfl); case h => (intro w2 hw2 N hN; (have hq := hw2.cell c1 HNL.out); simp only [Ch.depsOf, List.filterMap_nil, List.filterMap_cons, List.getElem?_toArray, List.getElem?_cons_zero, List.getElem?_cons_succ, Option.bind_some, List.nil_append, List.cons_append, Ch.Ob]; go_simp; (try go_bits); with_reducible exact hN _ (Chg.refl _ _) (fun _ h => h)))
      ((with_reducible apply Ch.Walk.eq); (case hd => rfl); (case hi => rfl); case h => (intro w2 hw2 N hN; simp only [Ch.depsOf, List.filterMap_nil, List.filterMap_cons, List.getElem?_toArray, List.getElem?_cons_zero, List.getElem?_cons_succ, Option.bind_some, List.nil_append, List.cons_append, Ch.Ob]; go_simp; (try go_bits); with_reducible exact hN _ (Chg.refl _ _) (fun _ h => h)))
      (with_reducible apply Ch.Walk.eq); (case hd => rfl); (case hi => rfl); case h =>
        intro w2 hw2 N hN
        simp only [Ch.depsOf, List.filterMap_nil, List.filterMap_cons, List.getElem?_toArray, List.getElem?_cons_zero, List.getElem?_cons_succ, Option.bind_some, List.nil_append, List.cons_append, Ch.Ob, Ch.chained_get, Option.map_some, List.idxOf?, List.findIdx?, List.findIdx?.go, Nat.reduceBEq, List.getD_cons_zero, List.getD_cons_succ, Nat.reduceAdd, if_true, if_false, Bool.false_eq_true]
        go_simp
        refine (HEN.out w2 hw2).mono ?_
        rintro e w5 ⟨rfl, hc5⟩
        exact ⟨_, rfl, hN _ (hc5.weak (fun _ h => h.elim)) (fun vs hF => RoF.nil hc5 vs hF)⟩
      simp only [List.nil_append, List.cons_append]
      refine Ch.Walk.chainP 0 MkP (fun _ _ _ h _ => h) rfl rfl ?_ ?_
      · intro w2 hw2 vs hvs hF N hN
        obtain rfl := List.eq_nil_of_length_eq_zero hvs
        have hF1 : LgS B w2 p l S1 sv ss d1 g1 := hF
        clear hF
        simp only [Ch.depsOf, List.filterMap_nil, List.filterMap_cons, List.getElem?_toArray, List.getElem?_cons_zero, List.getElem?_cons_succ, Option.bind_some, List.nil_append, List.cons_append, Ch.Ob, Ch.chained_get, Option.map_some, List.idxOf?, List.findIdx?, List.findIdx?.go, Nat.reduceBEq, List.getD_cons_zero, List.getD_cons_succ, Nat.reduceAdd, if_true, if_false, Bool.false_eq_true]
        go_simp
        refine (HMK.out w2 hF1 (HTS.out w2 hw2)).mono ?_
        rintro e w5 ⟨hcase, hc5⟩
        rcases hcase with ⟨_, s, S', rfl, h2, h3⟩ | ⟨hne, _⟩
        · exact ⟨_, rfl, hN _ _ ⟨s, rfl⟩ hc5 ⟨s, S', rfl, h2, h3, fun x hx => (by simp at hx), fun x hx => (by simp at hx), fun x hx => (by simp at hx)⟩⟩
        · exact absurd HM0.out hne
      simp only [List.nil_append, List.cons_append]
      refine Ch.Walk.chainP 1 MkP (fun _ _ _ h _ => h) rfl rfl ?_ ?_
      · intro w2 hw2 vs hvs hF N hN
        obtain ⟨x, rfl⟩ := List.length_eq_one_iff.1 hvs
        obtain ⟨s, S', rfl, h2, h3, _⟩ := hF
        simp only [Ch.depsOf, List.filterMap_nil, List.filterMap_cons, List.getElem?_toArray, List.getElem?_cons_zero, List.getElem?_cons_succ, Option.bind_some, List.nil_append, List.cons_append, Ch.Ob, Ch.chained_get, Option.map_some, List.idxOf?, List.findIdx?, List.findIdx?.go, Nat.reduceBEq, List.getD_cons_zero, List.getD_cons_succ, Nat.reduceAdd, if_true, if_false, Bool.false_eq_true]
        go_simp
        exact hN _ _ ⟨s, rfl⟩ (Chg.refl _ _) ⟨s, S', rfl, h2, h3, fun x hx => (by simpa using hx.symm), fun x hx => (by simp at hx), fun x hx => (by simp at hx)⟩
      simp only [List.nil_append, List.cons_append]
      refine Ch.Walk.chain 2 rfl rfl ?_ ?_
      · intro w2 hw2 vs hvs hF N hN
        rcases vs with _ | ⟨x, _ | ⟨y, _ | ⟨z, r⟩⟩⟩ <;> simp at hvs
        obtain ⟨s, S', rfl, h2, h3, h4, _⟩ := hF
        obtain rfl := h4 y rfl
        simp only [Ch.depsOf, List.filterMap_nil, List.filterMap_cons, List.getElem?_toArray, List.getElem?_cons_zero, List.getElem?_cons_succ, Option.bind_some, List.nil_append, List.cons_append, Ch.Ob, Ch.chained_get, Option.map_some, List.idxOf?, List.findIdx?, List.findIdx?.go, Nat.reduceBEq, List.getD_cons_zero, List.getD_cons_succ, Nat.reduceAdd, if_true, if_false, Bool.false_eq_true]
        go_simp
        exact hN _ _ (Chg.refl _ _) ⟨s, S', rfl, h2, h3, fun x hx => (by simpa using hx.symm), fun x hx => (by simpa using hx.symm), fun x hx => (by simp at hx)⟩
      simp only [List.nil_append, List.cons_append]
      (with_reducible apply Ch.Walk.eq); (case hd => rfl); (case hi => rfl); case h =>
        intro w2 hw2 N hN
        simp only [Ch.depsOf, List.filterMap_nil, List.filterMap_cons, List.getElem?_toArray, List.getElem?_cons_zero, List.getElem?_cons_succ, Option.bind_some, List.nil_append, List.cons_append, Ch.Ob, Ch.chained_get, Option.map_some, List.idxOf?, List.findIdx?, List.findIdx?.go, Nat.reduceBEq, List.getD_cons_zero, List.getD_cons_succ, Nat.reduceAdd, if_true, if_false, Bool.false_eq_true]
        rintro v ⟨s, rfl⟩
        go_simp
        with_reducible exact hN _ (Chg.refl _ _) (fun _ h => h)
      simp only [List.nil_append, List.cons_append]
      refine Ch.Walk.chain 3 rfl rfl ?_ ?_
      · intro w2 hw2 vs hvs hF N hN
        rcases vs with _ | ⟨x, _ | ⟨y, _ | ⟨z, _ | ⟨u, r⟩⟩⟩⟩ <;> simp at hvs
        obtain ⟨s, S', rfl, h2, h3, h4, h5, _⟩ := hF
        obtain rfl := h4 y rfl
        obtain rfl := h5 z rfl
        simp only [Ch.depsOf, List.filterMap_nil, List.filterMap_cons, List.getElem?_toArray, List.getElem?_cons_zero, List.getElem?_cons_succ, Option.bind_some, List.nil_append, List.cons_append, Ch.Ob, Ch.chained_get, Option.map_some, List.idxOf?, List.findIdx?, List.findIdx?.go, Nat.reduceBEq, List.getD_cons_zero, List.getD_cons_succ, Nat.reduceAdd, if_true, if_false, Bool.false_eq_true]
        go_simp
        exact hN _ _ (Chg.refl _ _) ⟨s, S', rfl, h2, h3, fun x hx => (by simpa using hx.symm), fun x hx => (by simpa using hx.symm), fun x hx => (by simpa using hx.symm)⟩
      ((with_reducible apply Ch.Walk.eq); (case hd => rfl); (case hi => rfl); case h => (intro w2 hw2 N hN; simp only [Ch.depsOf, List.filterMap_nil, List.filterMap_cons, List.getElem?_toArray, List.getElem?_cons_zero, List.getElem?_cons_succ, Option.bind_some, List.nil_append, List.cons_append, Ch.Ob]; go_simp; (try go_bits); with_reducible exact hN _ (Chg.refl _ _) (fun _ h => h)))
      intro w6 hw6
      simp only [List.nil_append, List.cons_append, Ch.Fin, List.map_cons, List.map_nil, List.getD_cons_zero, List.getD_cons_succ]
      intro v10 _ v11 _ v12 _ v14 _ hF
      have e14 := (RoF.end' hF).1
      have H14 := Lib.hid (RoF.end' hF).2
      have HW6 : Hid (Chg S1 w1 w6) := hw6
      clear hF hw6 c0 c1
      generalize vP v14 = s at e14 H14
      subst e14
      go_simp
      obtain ⟨S2, hs2, hsg⟩ := H14.out
      have HS2 := Lib.hid hs2
      have HSG := Lib.hid hsg
      have HFEW := Lib.hid HN.out.few
      have hsf := hs2.o.form
      rw [List.length_map] at hsf
      generalize vA sv = sa at hsf
      generalize vC sv = sc at hsf
      subst hsf
      have HOW : Hid (OwnT (w6.alloc (.cells #[.pointer (some ⟨s, 0, none⟩)] 104)) (.slice sa ss.length sc) (ss.map (·.1))) := ownsRow_chg HS2.out.o ((Chg.refl Nil w6).alloc _) (fun _ _ h => h)
      have HB1 := Lib.hid (Box.new w6 [.pointer (some ⟨s, 0, none⟩)] 104)
      have c3 := HS2.out.c.cell (j := 3) rfl
      clear hs2 hsg H14
      go_upto_region 7 with fail
      go_wp2_with (at_builtin; go_must (refine wpList_append_grew rfl (.tmp 32) (.tmp 34) 97 97 rfl segT _ Tryz.underlying97 (by intro _; simp) (.slice sa ss.length sc) ss.length ((ss.map (·.1)).map fun s => Value.pointer (some ⟨s, 0, none⟩)) rfl (by have h9 := HOW.out; unfold OwnT at h9; rw [List.length_map] at h9; exact h9) _ 1 [.pointer (some ⟨s, 0, none⟩)] rfl (Source.box HB1.out rfl (by intro u hu; rw [List.mem_singleton.1 hu]; rfl)) (by have := HFEW.out; unfold maxLen; omega) (by have := HFEW.out; omega) ?_); intro v2 w7 hown2 hg2 _; have HOW2 := Lib.hid hown2; have HG2 := Lib.hid hg2; obtain ⟨x2, n2, c2, rfl⟩ := ownsRow_form hown2; have hbx7 := Lib.hid ((HS2.out.c.chg ((Chg.refl Nil w6).alloc (.cells #[.pointer (some ⟨s, 0, none⟩)] 104)) (fun h => h)).chg hg2.chg (fun h => (box_row_ne' HS2.out.c HS2.out.o (by decide)) h)); have f3 := hbx7.out.free 3; have d3 := hbx7.out.cell (j := 3) rfl; clear hown2 hg2 c3)
      go_ret
      have hset : Chg (fun k => k = l) w7 (w7.setCell ⟨l, 3, none⟩ (.slice x2 n2 c2)) := (Chg.refl (fun k => k = l) _).setCell (.inl rfl) _
      have ho : OwnT w7 (.slice x2 n2 c2) (ss.map (·.1) ++ [s]) := by
        unfold OwnT
        rw [List.length_append, List.length_map, List.length_singleton, List.map_append, List.map_singleton]
        exact HOW2.out
      have hC1 : Chg (fun k => (Value.slice sa ss.length sc).ownBlock = some k) w6 w7 := (((Chg.refl Nil w6).alloc _).weak (fun _ h => h.elim)).trans HG2.out.chg (fun k hk => .inl hk)
      have hfin := HS2.out.more HSG.out ho hC1 (fun k hk => (HG2.out.own k hk).imp id (fun h => by rw [World.size_alloc] at h; omega)) hset (hbx7.out.set 3 _)
      rw [HR.out, HM.out, if_pos HM0.out]
      refine ⟨rfl, ⟨S2, _, _, hfin, by simp, by simp⟩, ?_⟩
      exact ((HC1.out.trans (HW6.out.weak (fun k hk => .inl (HS1.out.sl k hk).1)) (fun k hk => .inl hk)).trans (hC1.weak (fun k hk => .inl (HS2.out.lb k (.inr hk)).1)) (fun k hk => .inl hk)).trans (hset.weak (fun k hk => .inl (fun hb => (HS2.out.lb l (.inl rfl)).1 (hk ▸ hb)))) (fun k hk => .inl hk)
    · have HM0 := Lib.hid hm
      clear hm
      go_upto_region 4 with fail
      refine Ch.wp_region_chain _ (Chg (S1)) [10] (ReF B p l S1 sv ss d1 M.2 g1) (by kernel_rfl) (fun _ => Chg.refl _ _) (fun _ _ _ h k => h.trans k (fun _ h => .inl h)) [[], [0], [1], [2], [], [4], [5], [6], [], [8], [3, 7, 9], [10], [11], [11], [12], [13]] rfl (by kernel_rfl) (by kernel_rfl) (Chg.refl _ _).drew ?_ ?_
      · exact HS1.out.nil (Chg.refl Nil _).drew
      iterate 3 ((with_reducible apply Ch.Walk.eq); (case hd => rfl); (case hi => rfl); case h => (intro w2 hw2 N hN; simp only [Ch.depsOf, List.filterMap_nil, List.filterMap_cons, List.getElem?_toArray, List.getElem?_cons_zero, List.getElem?_cons_succ, Option.bind_some, List.nil_append, List.cons_append, Ch.Ob]; go_simp; (try go_bits); with_reducible exact hN _ (Chg.refl _ _) (fun _ h => h)))
      ((with_reducible apply Ch.Walk.eq); (case hd => rfl); (case hi => rfl); case h => (intro w2 hw2 N hN; (have hq := hw2.cell c0 HNL.out); simp only [Ch.depsOf, List.filterMap_nil, List.filterMap_cons, List.getElem?_toArray, List.getElem?_cons_zero, List.getElem?_cons_succ, Option.bind_some, List.nil_append, List.cons_append, Ch.Ob]; go_simp; (try go_bits); with_reducible exact hN _ (Chg.refl _ _) (fun _ h => h)))
      iterate 3 ((with_reducible apply Ch.Walk.eq); (case hd => rfl); (case hi => rfl); case h => (intro w2 hw2 N hN; simp only [Ch.depsOf, List.filterMap_nil, List.filterMap_cons, List.getElem?_toArray, List.getElem?_cons_zero, List.getElem?_cons_succ, Option.bind_some, List.nil_append, List.cons_append, Ch.Ob]; go_simp; (try go_bits); with_reducible exact hN _ (Chg.refl _ _) (fun _ h => h)))
      ((with_reducible apply Ch.Walk.eq); (case hd => rfl); (case hi => rfl); case h => (intro w2 hw2 N hN; (have hq := hw2.cell c1 HNL.out); simp only [Ch.depsOf, List.filterMap_nil, List.filterMap_cons, List.getElem?_toArray, List.getElem?_cons_zero, List.getElem?_cons_succ, Option.bind_some, List.nil_append, List.cons_append, Ch.Ob]; go_simp; (try go_bits); with_reducible exact hN _ (Chg.refl _ _) (fun _ h => h)))
      ((with_reducible apply Ch.Walk.eq); (case hd => rfl); (case hi => rfl); case h => (intro w2 hw2 N hN; simp only [Ch.depsOf, List.filterMap_nil, List.filterMap_cons, List.getElem?_toArray, List.getElem?_cons_zero, List.getElem?_cons_succ, Option.bind_some, List.nil_append, List.cons_append, Ch.Ob]; go_simp; (try go_bits); with_reducible exact hN _ (Chg.refl _ _) (fun _ h => h)))
      (with_reducible apply Ch.Walk.eq); (case hd => rfl); (case hi => rfl); case h =>
        intro w2 hw2 N hN
        simp only [Ch.depsOf, List.filterMap_nil, List.filterMap_cons, List.getElem?_toArray, List.getElem?_cons_zero, List.getElem?_cons_succ, Option.bind_some, List.nil_append, List.cons_append, Ch.Ob, Ch.chained_get, Option.map_some, List.idxOf?, List.findIdx?, List.findIdx?.go, Nat.reduceBEq, List.getD_cons_zero, List.getD_cons_succ, Nat.reduceAdd, if_true, if_false, Bool.false_eq_true]
        go_simp
        refine (HEN.out w2 hw2).mono ?_
        rintro e w5 ⟨rfl, hc5⟩
        exact ⟨_, rfl, hN _ (hc5.weak (fun _ h => h.elim)) (fun vs hF => ReF.nil hc5 vs hF)⟩
      simp only [List.nil_append, List.cons_append]
      refine Ch.Walk.chainE 0 (c := .tuple #[.pointer none, errD M.1]) rfl rfl ?_ ?_
      · intro w2 hw2 vs hvs hF N hN
        obtain rfl := List.eq_nil_of_length_eq_zero hvs
        have hF1 : LgS B w2 p l S1 sv ss d1 g1 := hF
        clear hF
        simp only [Ch.depsOf, List.filterMap_nil, List.filterMap_cons, List.getElem?_toArray, List.getElem?_cons_zero, List.getElem?_cons_succ, Option.bind_some, List.nil_append, List.cons_append, Ch.Ob, Ch.chained_get, Option.map_some, List.idxOf?, List.findIdx?, List.findIdx?.go, Nat.reduceBEq, List.getD_cons_zero, List.getD_cons_succ, Nat.reduceAdd, if_true, if_false, Bool.false_eq_true]
        go_simp
        refine (HMK.out w2 hF1 (HTS.out w2 hw2)).mono ?_
        rintro e w5 ⟨hcase, hc5⟩
        rcases hcase with ⟨h0, _⟩ | ⟨_, S', rfl, h2⟩
        · exact absurd h0 HM0.out
        · exact ⟨_, rfl, hN _ hc5 ⟨S', h2⟩⟩
      iterate 5 ((with_reducible apply Ch.Walk.eq); (case hd => rfl); (case hi => rfl); case h => (intro w2 hw2 N hN; simp only [Ch.depsOf, List.filterMap_nil, List.filterMap_cons, List.getElem?_toArray, List.getElem?_cons_zero, List.getElem?_cons_succ, Option.bind_some, List.nil_append, List.cons_append, Ch.Ob]; go_simp; (try go_bits); with_reducible exact hN _ (Chg.refl _ _) (fun _ h => h)))
      intro w6 hw6
      simp only [List.nil_append, List.cons_append, Ch.Fin, List.map_cons, List.map_nil, List.getD_cons_zero, List.getD_cons_succ]
      intro hF
      have HF : Hid (∃ S', LgS B w6 p l S' sv ss M.2 g1) := hF
      have HW6 : Hid (Chg S1 w1 w6) := hw6
      clear hF hw6 c0 c1
      have hz := errD_ne HM0.out
      rw [hz]
      clear hz
      go_simp
      go_wp2_with fail
      go_ret
      rw [HR.out, HM.out, if_neg HM0.out]
      obtain ⟨S2, h2⟩ := HF.out
      exact ⟨by show _ = Ending.returned (errD M.1); rw [errD_ne HM0.out]; rfl, ⟨S2, sv, ss, h2, HN.out.ne, by omega⟩, HC1.out.trans (HW6.out.weak (fun k hk => .inl (HS1.out.sl k hk).1)) (fun k hk => .inl hk)⟩
  · have hz := errD_ne hk
    rw [hz]
    have HR : Hid (rollLg d g = (fk, d1, g1)) := by unfold Hid; rw [HROLL.out, if_neg hk]
    have HK := Lib.hid hk
    clear hk hz
    go_wp2_with fail
    go_ret
    rw [HR.out]
    exact ⟨by show _ = Ending.returned (errD fk); rw [errD_ne HK.out]; rfl, ⟨S1, sv, ss, HS1.out, HN.out.ne, by omega⟩, HC1.out⟩
end Go.Proofs.YtdjmifaidgbbaaaGreatDoor
