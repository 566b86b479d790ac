/-
  The walk of the document's Encode's second closure (text), and of four.
-/
import Derived.Test.YtaipjojigaeejaaDoorRefPutW
namespace Go.Proofs.YtaipjojigaeejaaDoor
open Go.RowKit

theorem Buf.chg {A S : Nat → Prop} {w w' : World} {B : Nat} {l : List UInt8} (h : Buf A w B l) (hc : Chg S w w') (hB : ¬ S B) (hS : ∀ k, k < w.heap.size → S k → A k) : Buf A w' B l := by
  obtain ⟨v, h1, h2, h3⟩ := h
  exact ⟨v, h1.chg hc hB, h2.chg hc (fun k hk hs => (h3 k hk).1 (hS k (h2.lt k hk) hs)), h3⟩
theorem Buf.more {A A' : Nat → Prop} {w : World} {B : Nat} {l : List UInt8} (h : Buf A w B l) (hA : ∀ k, k < w.heap.size → A' k → A k) : Buf A' w B l := by
  obtain ⟨v, h1, h2, h3⟩ := h
  exact ⟨v, h1, h2, fun k hk => ⟨fun h => (h3 k hk).1 (hA k (h2.lt k hk) h), (h3 k hk).2⟩⟩

set_option maxHeartbeats 1000000 in
set_option maxRecDepth 100000 in
theorem refText_any (A : Nat → Prop) (B F : Nat) (s : ByteArray) (l : List UInt8) (w : World) (hA : ∀ k, A k → k < w.heap.size) (hAB : ¬ A B) (hs : s.size ≤ 1000) (hl : l.length ≤ 140737480000000)
    (hF : w.cell? ⟨F, 0, none⟩ = some (.func (.func 20) #[] #[.pointer (some ⟨B, 0, none⟩)])) (hb : Buf A w B l) :
    Calls Tryd.prog 22 #[.string s, .pointer (some ⟨F, 0, none⟩), .pointer (some ⟨B, 0, none⟩)] w fun e w' => e = .returned (.tuple #[]) ∧ Chg (fun k => ¬ A k) w w' ∧ Buf A w' B (l ++ putText s) := by
  have hBw : B < w.heap.size := by obtain ⟨v, h1, _⟩ := hb; exact (Array.getElem?_eq_some_iff.1 h1).1
  have hal := (Chg.refl Nil w).alloc (.cells #[.int .i64 (s.size : Nat)] 3)
  have hb1 := hb.chg hal (fun h => h) (fun _ _ h => h.elim)
  have hg1 : Box (w.alloc (.cells #[.int .i64 (s.size : Nat)] 3)) w.heap.size ([s.size].map fun n => .int .i64 (n : Nat)) 3 := Box.new w [.int .i64 (s.size : Nat)] 3
  have hput := refPutAll_any A w.heap.size B [s.size] l _ (fun k hk => by have := hA k hk; simp; omega) hAB (.inr (by omega)) (by simp) (by simp; omega) (by omega) hg1
    (fun v hv he => by
      obtain ⟨v', h1, h2, _⟩ := hb
      have h1' := (h1.chg hal (fun h => h)).cell (j := 0) rfl
      rw [hv.cell (j := 0) rfl] at h1'
      obtain rfl := Option.some.inj h1'
      have := h2.lt _ he
      omega) hb1
  have HP := Lib.hid hput
  clear hput hb hb1 hg1
  go_enter Tryd.func22, Tryd.ntmps22
  go_wp2_with fail
  refine HP.out.mono ?_
  rintro e w1 ⟨rfl, hc1, v, hB1, hown1, hvA1⟩
  have hch1 : Chg (fun k => ¬ A k) w w1 := hal.weak (fun _ h => h.elim) |>.trans hc1 (fun _ h => .inl h)
  have c0 := hB1.cell (j := 0) rfl
  have e1 : l ++ putAll [s.size] = l ++ put s.size := by simp [putAll]
  rw [e1] at hown1
  have hlen : (put s.size).length ≤ 6 := put_length (k := 5) (by omega)
  have hsl : s.data.toList.length = s.size := by rw [Array.length_toList]; rfl
  have hq : (l ++ put s.size).length + s.data.toList.length ≤ 140737488355328 := by rw [List.length_append]; omega
  have hsrc : Source Tryd.prog w1 1 (.string s) s.data.toList.length (s.data.toList.map bval) := Source.string s
  have HQ := Lib.hid hq
  have HS := Lib.hid hsrc
  have HO := Lib.hid hown1
  have HBX := Lib.hid hB1
  clear hq hsrc hsl hlen e1 hown1 hal hc1 HP hB1
  go_wp2_with (at_builtin; go_must (refine wpList_append_bytes rfl (.tmp 9) (.tmp 10) 32 9 rfl bytesT _ Tryd.underlying9 (by intro _; simp) _ _ rfl HO.out _ s.data.toList rfl HS.out HQ.out ?_); intro v2 w2 hown2 hg2 _; obtain ⟨x2, m2, c2, rfl⟩ := ownsRow_form hown2; have hBX2 := HBX.out.chg hg2.chg (fun h => (hvA1 _ h).2 rfl); have y2 := hBX2.free 0; have z2 := hBX2.cell (j := 0) rfl; have HO2 := Lib.hid hown2; clear hown2)
  go_wp2
  go_end0
  have hset : Chg (fun k => k = B) w2 (w2.setCell ⟨B, 0, none⟩ (.slice x2 m2 c2)) := (Chg.refl (fun k => k = B) _).setCell (.inl rfl) _
  have hnew : ∀ k, (Value.slice x2 m2 c2).ownBlock = some k → ¬ A k ∧ k ≠ B := by
    intro k hk
    rcases hg2.own k hk with h | h
    · exact hvA1 k h
    · refine ⟨fun ha => ?_, ?_⟩
      · have := hA k ha; have := hch1.size; omega
      · have := hch1.size; omega
  refine ⟨rfl, ?_, _, hBX2.set 0 _, ?_, hnew⟩
  · refine (hch1.trans hg2.chg (fun i hi => .inl (hvA1 i hi).1)).trans hset (fun i hi => .inl (by rw [hi]; exact hAB))
  · have := HO2.out.chg hset (fun k hk e => (hnew k hk).2 e)
    unfold putText
    rw [← List.append_assoc]
    exact this

set_option maxRecDepth 100000 in
theorem refFour_any (n : Nat) (w : World) (hn : n < 4294967296) :
    Calls Tryd.prog 23 #[.int .i64 n] w fun e w' => ∃ v', e = .returned v' ∧ FreshB w w' v' (four n) := by
  go_enter Tryd.func23, Tryd.ntmps23
  go_wp2
  go_ret
  refine ⟨_, rfl, ?_, (Chg.refl _ _).alloc _, fun k hk => by simp [Value.ownBlock] at hk; omega⟩
  have e : (#[.int .u8 ((n : Int) / 16777216), .int .u8 ((n : Int) / 65536 % 256), .int .u8 ((n : Int) / 256 % 256), .int .u8 ((n : Int) % 256)] : Array Value) = ((four n).map bval).toArray := by
    have h : ∀ m : Nat, bval (UInt8.ofNat m) = .int .u8 ((m : Int) % 256) := by
      intro m
      unfold bval
      rw [UInt8.toNat_ofNat']
      congr 1
    simp only [four, fourAt, List.map_cons, List.map_nil, h]
    have e0 : (n : Int) / 16777216 = ((n / 2 ^ (8 * (3 - 0)) : Nat) : Int) % 256 := by simp; omega
    have e1 : (n : Int) / 65536 % 256 = ((n / 2 ^ (8 * (3 - 1)) : Nat) : Int) % 256 := by simp
    have e2 : (n : Int) / 256 % 256 = ((n / 2 ^ (8 * (3 - 2)) : Nat) : Int) % 256 := by simp
    have e3 : (n : Int) % 256 = ((n / 2 ^ (8 * (3 - 3)) : Nat) : Int) % 256 := by simp
    rw [e0, e1, e2, e3]
  rw [e]
  exact OwnB.new (l := four n) (by simp [four, maxLen])
end Go.Proofs.YtaipjojigaeejaaDoor
