/-
  The walks of the document's Encode's two closures (put, text).
-/
import Derived.Test.YtmaomebnigcgeaaGreatDoorPl25
import Derived.Test.YtmaomebnigcgeaaGreatDoorPl03
import Derived.Laws.EntriesVeiled
set_option linter.unusedSimpArgs false
namespace Go.Proofs.YtmaomebnigcgeaaGreatDoor
open Go.RowKit

/-- The bytes so far, in the variable at block B; none of the blocks of A is their own. -/
def Buf (A : Nat → Prop) (w : World) (B : Nat) (l : List UInt8) : Prop :=
  ∃ v, Box w B [v] 44 ∧ OwnB 5 w v l ∧ ∀ k, v.ownBlock = some k → ¬ A k ∧ k ≠ B

def putAll (xs : List Nat) : List UInt8 := xs.flatMap put
theorem putAll_snoc (xs : List Nat) (n : Nat) : putAll (xs ++ [n]) = putAll xs ++ put n := by simp [putAll]

/-- The region's chain: what Put gives, then the append. -/
def PutF (n0 : Nat) (v : Value) (l m : List UInt8) : List Value → World → Prop
  | [], w => OwnB 5 w v l ∧ ∀ k, v.ownBlock = some k → k < n0
  | [p], w => OwnB 5 w v l ∧ (∀ k, v.ownBlock = some k → k < n0) ∧ OwnB 5 w p m ∧ ∀ k, p.ownBlock = some k → n0 ≤ k
  | [_, q], w => OwnB 5 w q (l ++ m) ∧ ∀ k, q.ownBlock = some k → v.ownBlock = some k ∨ n0 ≤ k
  | _, _ => False

set_option maxHeartbeats 1000000 in
set_option maxRecDepth 100000 in
theorem refPutAll_any (A : Nat → Prop) (g B : Nat) (xs : List Nat) (l : List UInt8) (w : World) (hA : ∀ k, A k → k < w.heap.size) (hAB : ¬ A B) (hAg : A g ∨ g ≠ B) (hx : xs.length ≤ 3) (hn : ∀ n ∈ xs, n ≤ 1099511627776) (hl : l.length ≤ 140737488000000) (hg : Box w g (xs.map fun n => .int .i64 (n : Nat)) 3) (hgv : ∀ v, Box w B [v] 44 → v.ownBlock ≠ some g) (hb : Buf A w B l) :
    Calls Tryz.prog 41 #[.slice (some ⟨g, 0, none⟩) xs.length xs.length, .pointer (some ⟨B, 0, none⟩)] w fun e w' => e = .returned (.tuple #[]) ∧ Chg (fun k => ¬ A k) w w' ∧ Buf A w' B (l ++ putAll xs) := by
  go_enter Tryz.func41, Tryz.ntmps41
  go_wp2_with fail
  go_loopw [7] (fun i wr => ∃ k : Nat, k ≤ xs.length ∧ i = .int .i64 k ∧ Chg (fun k => ¬ A k) w wr ∧ Box wr g (xs.map fun n => .int .i64 (n : Nat)) 3 ∧ Buf (fun k => A k ∨ k = g) wr B (l ++ putAll (xs.take k))) (fun i _ => xs.length - (intOf i).toNat)
  case atStart =>
    refine ⟨0, Nat.zero_le _, rfl, Chg.refl _ _, hg, ?_⟩
    obtain ⟨v, h1, h2, h3⟩ := hb
    exact ⟨v, h1, by simpa [putAll] using h2, fun k hk => ⟨fun h => h.elim (h3 k hk).1 (fun e => hgv v h1 (by rw [← e]; exact hk)), (h3 k hk).2⟩⟩
  case round =>
    obtain ⟨k, hk, rfl, hch, hgr, v, hB, hown, hvA⟩ := hrel
    by_cases hlt : k < xs.length
    · have hcell := hgr.cell (j := k) (u := .int .i64 (xs[k] : Nat)) (by simp [hlt])
      have hc0 := hB.cell (j := 0) rfl
      have hvn : ∀ k, v.ownBlock = some k → k < wr.heap.size := hown.lt
      have hBlt : B < wr.heap.size := (Array.getElem?_eq_some_iff.1 hB).1
      have hxn := hn _ (List.getElem_mem hlt)
      have HS : Hid (putAll (xs.take (k + 1)) = putAll (xs.take k) ++ put xs[k]) := by unfold Hid; rw [take_snoc xs k hlt, putAll_snoc]
      have hpl : (put xs[k]).length ≤ 6 := put_length (k := 5) (by omega)
      have hall : (putAll (xs.take k)).length ≤ 6 * k := by
        have hall : ∀ ys : List Nat, (∀ n ∈ ys, n ≤ 1099511627776) → (putAll ys).length ≤ 6 * ys.length := by
          intro ys hy
          induction ys with
          | nil => simp [putAll]
          | cons y ys ih =>
            have h1 : (put y).length ≤ 6 := put_length (k := 5) (by have := hy y (by simp); omega)
            have h2 := ih (fun n hn => hy n (by simp [hn]))
            have e : putAll (y :: ys) = put y ++ putAll ys := by simp [putAll]
            rw [e, List.length_append, List.length_cons]
            omega
        have := hall (xs.take k) (fun n hn' => hn n (List.mem_of_mem_take hn'))
        rw [List.length_take] at this
        omega
      have HLL : Hid ((l ++ putAll (xs.take k)).length + (put xs[k]).length ≤ 140737488355328) := by unfold Hid; rw [List.length_append]; omega
      have HO := Lib.hid hown
      have HBX := Lib.hid hB
      clear hn hown hB hpl hall
      generalize xs[k] = n at *
      generalize hLe : l ++ putAll (xs.take k) = L at *
      have HLE := Lib.hid hLe
      clear hLe
      go_upto_region 3 with fail
      generalize hn0 : wr.heap.size = n0 at *
      have HN0 := Lib.hid hn0
      clear hn0
      refine Ch.wp_region_last _ _ rfl (Chg (fun k => n0 ≤ k ∨ v.ownBlock = some k)) [2, 3] (PutF n0 v L (put n)) (by kernel_rfl) (fun _ => Chg.refl _ _) (fun _ _ _ h k => h.trans k (fun _ h => .inl h)) [[], [], [1], [0, 2]] rfl (by kernel_rfl) (by kernel_rfl) (by kernel_rfl) (Chg.refl _ _).drew ?_ ?_
      · exact ⟨HO.out.drewN 1, hvn⟩
      simp only [List.dropLast_cons_cons, List.dropLast_singleton]
      ((with_reducible apply Ch.Walk.eq); (case hd => rfl); (case hi => rfl); case h => (intro w2 hw2 N hN; (have hc := hw2.cell hc0 (fun h => h.elim (fun h => by have h : n0 ≤ B := h; omega) (fun h => (hvA _ h).2 rfl))); simp only [Ch.depsOf, List.filterMap_nil, List.filterMap_cons, List.getElem?_toArray, List.getElem?_cons_zero, List.getElem?_cons_succ, Option.bind_some, List.nil_append, List.cons_append, Ch.Ob]; go_simp; (try go_bits); with_reducible exact hN _ (Chg.refl _ _) (fun _ h => h)))
      ((with_reducible apply Ch.Walk.eq); (case hd => rfl); (case hi => rfl); case h => (intro w2 hw2 N hN; simp only [Ch.depsOf, List.filterMap_nil, List.filterMap_cons, List.getElem?_toArray, List.getElem?_cons_zero, List.getElem?_cons_succ, Option.bind_some, List.nil_append, List.cons_append, Ch.Ob]; go_simp; (try go_bits); with_reducible exact hN _ (Chg.refl _ _) (fun _ h => h)))
      refine Ch.Walk.chain 0 rfl rfl ?_ ?_
      · intro w3 hw3 vs hvs hF N hN
        obtain rfl := List.eq_nil_of_length_eq_zero hvs
        simp only [Ch.depsOf, List.filterMap_nil, List.filterMap_cons, List.getElem?_toArray, List.getElem?_cons_zero, List.getElem?_cons_succ, Option.bind_some, List.nil_append, List.cons_append, Ch.Ob, Ch.chained_get, Option.map_some, List.idxOf?, List.findIdx?, List.findIdx?.go, Nat.reduceBEq, List.getD_cons_zero, List.getD_cons_succ, Nat.reduceAdd, if_true, if_false, Bool.false_eq_true]
        go_simp
        refine (refPut_any 5 n w3 (by omega) hxn).mono ?_
        rintro e w4 ⟨p, rfl, h1, h2, h3⟩
        refine ⟨_, rfl, hN _ _ (h2.weak (fun _ h => h.elim)) ⟨hF.1.chg h2 (fun _ _ h => h), hF.2, h1, fun k hk => ?_⟩⟩
        have := h3 k hk
        have hz : wr.heap.size ≤ w3.heap.size := hw3.size
        have := HN0.out
        omega
      refine Ch.Walk.chain 1 rfl rfl ?_ ?_
      · intro w3 hw3 vs hvs hF N hN
        obtain ⟨p, rfl⟩ := List.length_eq_one_iff.1 hvs
        simp only [Ch.depsOf, List.filterMap_nil, List.filterMap_cons, List.getElem?_toArray, List.getElem?_cons_zero, List.getElem?_cons_succ, Option.bind_some, List.nil_append, List.cons_append, Ch.Ob, Ch.chained_get, Option.map_some, List.idxOf?, List.findIdx?, List.findIdx?.go, Nat.reduceBEq, List.getD_cons_zero, List.getD_cons_succ, Nat.reduceAdd, if_true, if_false, Bool.false_eq_true]
        obtain ⟨f1, f2, f3, f4⟩ := hF
        refine Ch.if_append rfl (.tmp 11) (.tmp 13) 44 44 rfl bytesT _ Tryz.underlying44 (by intro _; simp) v L rfl f1 p (put n) rfl (Source.own f3) HLL.out (fun v' w' h1 h2 => hN _ _ ?_ ?_)
        · exact h2.chg.weak (fun i hi => .inl (.inr hi))
        · exact ⟨h1, fun k hk => (h2.own k hk).imp id fun h => by have hz : wr.heap.size ≤ w3.heap.size := hw3.size; have := HN0.out; omega⟩
      intro w6 hw6
      simp only [List.nil_append, List.cons_append, Ch.Fin, List.map_cons, List.map_nil, List.getD_cons_zero, List.getD_cons_succ]
      intro v1 _ v2 _ hF
      have f1 : OwnB 5 w6 v2 (L ++ put n) := hF.1
      have f2 : ∀ k, v2.ownBlock = some k → v.ownBlock = some k ∨ n0 ≤ k := hF.2
      clear hF
      generalize put n = M at *
      obtain ⟨x2, c2, hv2, _⟩ := f1.val
      generalize (L ++ M).length = m2 at *
      rw [hv2] at f1 f2 ⊢
      clear hv2
      simp only [Ch.Then, Oper.wp]
      have hnB : ¬ (n0 ≤ B ∨ v.ownBlock = some B) := fun h => h.elim (fun h => by omega) (fun h => (hvA _ h).2 rfl)
      have hBX6 := HBX.out.chg hw6 hnB
      have c6 := hBX6.cell (j := 0) rfl
      have y6 := hBX6.free 0
      have HF1 := Lib.hid f1
      have HAN : Hid (∀ k, A k → k < n0) := fun k hk => by have := hA k hk; have := hch.size; have := HN0.out; omega
      clear f1
      go_simp
      have hBX7 := hBX6.set 0 (.slice x2 m2 c2)
      have hset : Chg (fun k => k = B) w6 (w6.setCell ⟨B, 0, none⟩ (.slice x2 m2 c2)) := (Chg.refl (fun k => k = B) _).setCell (.inl rfl) _
      have hown7 := HF1.out.chg hset (fun k hk e => by
        rcases f2 k hk with h | h
        · exact (hvA k h).2 e
        · omega)
      have hch7 : Chg (fun k => ¬ A k) w (w6.setCell ⟨B, 0, none⟩ (.slice x2 m2 c2)) := by
        refine (hch.trans hw6 (fun i hi => ?_)).trans hset (fun i hi => .inl (by rw [hi]; exact hAB))
        rcases hi with h | h
        · exact .inl fun ha => by have := HAN.out i ha; have h : n0 ≤ i := h; omega
        · exact .inl fun ha => (hvA i h).1 (.inl ha)
      have hgs : g < n0 := by have := (Array.getElem?_eq_some_iff.1 hgr).1; have := HN0.out; omega
      have hgr7 : Box (w6.setCell ⟨B, 0, none⟩ (.slice x2 m2 c2)) g (xs.map fun n => .int .i64 (n : Nat)) 3 := by
        refine (hgr.chg hw6 ?_).chg hset ?_
        · exact fun h => h.elim (fun h => by have h : n0 ≤ g := h; omega) (fun h => (hvA g h).1 (.inr rfl))
        · rcases hAg with h | h
          · exact fun e => hAB (by rw [← e]; exact h)
          · exact h
      have HO7 := Lib.hid hown7
      clear hown7 c6 y6 hBX6 hw6 hcell hc0 hgr hch HF1
      generalize w6.setCell ⟨B, 0, none⟩ (.slice x2 m2 c2) = w7 at *
      go_wp2_with fail
      go_roundw
      case rel =>
        refine ⟨k + 1, by omega, by go_num, hch7, hgr7, _, hBX7, ?_, ?_⟩
        · rw [HS.out, ← List.append_assoc, HLE.out]
          exact HO7.out
        · intro j hj
          rcases f2 j hj with h | h
          · exact hvA j h
          · exact ⟨fun h2 => h2.elim (fun h2 => by have := HAN.out j h2; omega) (fun h2 => by omega), by omega⟩
      case measure => simp [intOf]; omega
    · have hkl : xs.take k = xs := List.take_of_length_le (by omega)
      rw [hkl] at hown
      clear hkl hn
      go_wp2_with fail
      go_end0
      exact ⟨rfl, hch, v, hB, hown, fun j hj => ⟨fun h => (hvA j hj).1 (.inl h), (hvA j hj).2⟩⟩
end Go.Proofs.YtmaomebnigcgeaaGreatDoor

/-
  The walk of the document's Encode's second closure (text), and of four.
-/
namespace Go.Proofs.YtmaomebnigcgeaaGreatDoor
open Go.RowKit

theorem Buf.chg {A S : Nat → Prop} {w w' : World} {B : Nat} {l : List UInt8} (h : Buf A w B l) (hc : Chg S w w') (hB : ¬ S B) (hS : ∀ k, k < w.heap.size → S k → A k) : Buf A w' B l := by
  obtain ⟨v, h1, h2, h3⟩ := h
  exact ⟨v, h1.chg hc hB, h2.chg hc (fun k hk hs => (h3 k hk).1 (hS k (h2.lt k hk) hs)), h3⟩
theorem Buf.more {A A' : Nat → Prop} {w : World} {B : Nat} {l : List UInt8} (h : Buf A w B l) (hA : ∀ k, k < w.heap.size → A' k → A k) : Buf A' w B l := by
  obtain ⟨v, h1, h2, h3⟩ := h
  exact ⟨v, h1, h2, fun k hk => ⟨fun h => (h3 k hk).1 (hA k (h2.lt k hk) h), (h3 k hk).2⟩⟩

set_option maxHeartbeats 1000000 in
set_option maxRecDepth 100000 in
theorem refText_any (A : Nat → Prop) (B F : Nat) (s : ByteArray) (l : List UInt8) (w : World) (hA : ∀ k, A k → k < w.heap.size) (hAB : ¬ A B) (hs : s.size ≤ 1000) (hl : l.length ≤ 140737480000000)
    (hF : w.cell? ⟨F, 0, none⟩ = some (.func (.func 41) #[] #[.pointer (some ⟨B, 0, none⟩)])) (hb : Buf A w B l) :
    Calls Tryz.prog 43 #[.string s, .pointer (some ⟨F, 0, none⟩), .pointer (some ⟨B, 0, none⟩)] w fun e w' => e = .returned (.tuple #[]) ∧ Chg (fun k => ¬ A k) w w' ∧ Buf A w' B (l ++ putText s) := by
  have hBw : B < w.heap.size := by obtain ⟨v, h1, _⟩ := hb; exact (Array.getElem?_eq_some_iff.1 h1).1
  have hal := (Chg.refl Nil w).alloc (.cells #[.int .i64 (s.size : Nat)] 3)
  have hb1 := hb.chg hal (fun h => h) (fun _ _ h => h.elim)
  have hg1 : Box (w.alloc (.cells #[.int .i64 (s.size : Nat)] 3)) w.heap.size ([s.size].map fun n => .int .i64 (n : Nat)) 3 := Box.new w [.int .i64 (s.size : Nat)] 3
  have hput := refPutAll_any A w.heap.size B [s.size] l _ (fun k hk => by have := hA k hk; simp; omega) hAB (.inr (by omega)) (by simp) (by simp; omega) (by omega) hg1
    (fun v hv he => by
      obtain ⟨v', h1, h2, _⟩ := hb
      have h1' := (h1.chg hal (fun h => h)).cell (j := 0) rfl
      rw [hv.cell (j := 0) rfl] at h1'
      obtain rfl := Option.some.inj h1'
      have := h2.lt _ he
      omega) hb1
  have HP := Lib.hid hput
  clear hput hb hb1 hg1
  go_enter Tryz.func43, Tryz.ntmps43
  go_wp2_with fail
  refine HP.out.mono ?_
  rintro e w1 ⟨rfl, hc1, v, hB1, hown1, hvA1⟩
  have hch1 : Chg (fun k => ¬ A k) w w1 := hal.weak (fun _ h => h.elim) |>.trans hc1 (fun _ h => .inl h)
  have c0 := hB1.cell (j := 0) rfl
  have e1 : l ++ putAll [s.size] = l ++ put s.size := by simp [putAll]
  rw [e1] at hown1
  have hlen : (put s.size).length ≤ 6 := put_length (k := 5) (by omega)
  have hsl : s.data.toList.length = s.size := by rw [Array.length_toList]; rfl
  have hq : (l ++ put s.size).length + s.data.toList.length ≤ 140737488355328 := by rw [List.length_append]; omega
  have hsrc : Source Tryz.prog w1 1 (.string s) s.data.toList.length (s.data.toList.map bval) := Source.string s
  have HQ := Lib.hid hq
  have HS := Lib.hid hsrc
  have HO := Lib.hid hown1
  have HBX := Lib.hid hB1
  clear hq hsrc hsl hlen e1 hown1 hal hc1 HP hB1
  go_wp2_with (at_builtin; go_must (refine wpList_append_bytes rfl (.tmp 9) (.tmp 10) 44 9 rfl bytesT _ Tryz.underlying9 (by intro _; simp) _ _ rfl HO.out _ s.data.toList rfl HS.out HQ.out ?_); intro v2 w2 hown2 hg2 _; obtain ⟨x2, m2, c2, rfl⟩ := ownsRow_form hown2; have hBX2 := HBX.out.chg hg2.chg (fun h => (hvA1 _ h).2 rfl); have y2 := hBX2.free 0; have z2 := hBX2.cell (j := 0) rfl; have HO2 := Lib.hid hown2; clear hown2)
  go_wp2
  go_end0
  have hset : Chg (fun k => k = B) w2 (w2.setCell ⟨B, 0, none⟩ (.slice x2 m2 c2)) := (Chg.refl (fun k => k = B) _).setCell (.inl rfl) _
  have hnew : ∀ k, (Value.slice x2 m2 c2).ownBlock = some k → ¬ A k ∧ k ≠ B := by
    intro k hk
    rcases hg2.own k hk with h | h
    · exact hvA1 k h
    · refine ⟨fun ha => ?_, ?_⟩
      · have := hA k ha; have := hch1.size; omega
      · have := hch1.size; omega
  refine ⟨rfl, ?_, _, hBX2.set 0 _, ?_, hnew⟩
  · refine (hch1.trans hg2.chg (fun i hi => .inl (hvA1 i hi).1)).trans hset (fun i hi => .inl (by rw [hi]; exact hAB))
  · have := HO2.out.chg hset (fun k hk e => (hnew k hk).2 e)
    unfold putText
    rw [← List.append_assoc]
    exact this

set_option maxRecDepth 100000 in
theorem refFour_any (n : Nat) (w : World) (hn : n < 4294967296) :
    Calls Tryz.prog 44 #[.int .i64 n] w fun e w' => ∃ v', e = .returned v' ∧ FreshB w w' v' (four n) := by
  go_enter Tryz.func44, Tryz.ntmps44
  go_wp2
  go_ret
  refine ⟨_, rfl, ?_, (Chg.refl _ _).alloc _, fun k hk => by simp [Value.ownBlock] at hk; omega⟩
  have e : (#[.int .u8 ((n : Int) / 16777216), .int .u8 ((n : Int) / 65536 % 256), .int .u8 ((n : Int) / 256 % 256), .int .u8 ((n : Int) % 256)] : Array Value) = ((four n).map bval).toArray := by
    have h : ∀ m : Nat, bval (UInt8.ofNat m) = .int .u8 ((m : Int) % 256) := by
      intro m
      unfold bval
      rw [UInt8.toNat_ofNat']
      congr 1
    simp only [four, fourAt, List.map_cons, List.map_nil, h]
    have e0 : (n : Int) / 16777216 = ((n / 2 ^ (8 * (3 - 0)) : Nat) : Int) % 256 := by simp; omega
    have e1 : (n : Int) / 65536 % 256 = ((n / 2 ^ (8 * (3 - 1)) : Nat) : Int) % 256 := by simp
    have e2 : (n : Int) / 256 % 256 = ((n / 2 ^ (8 * (3 - 2)) : Nat) : Int) % 256 := by simp
    have e3 : (n : Int) % 256 = ((n / 2 ^ (8 * (3 - 3)) : Nat) : Int) % 256 := by simp
    rw [e0, e1, e2, e3]
  rw [e]
  exact OwnB.new (l := four n) (by simp [four, maxLen])
end Go.Proofs.YtmaomebnigcgeaaGreatDoor
