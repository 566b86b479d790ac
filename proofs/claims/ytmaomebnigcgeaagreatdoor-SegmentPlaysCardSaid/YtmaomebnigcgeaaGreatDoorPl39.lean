/-
  The walk of the document's Encode.
-/
import Derived.Test.YtmaomebnigcgeaaGreatDoorPl37
import Derived.Test.YtmaomebnigcgeaaGreatDoorPl38
set_option linter.unusedSimpArgs false
namespace Go.Proofs.YtmaomebnigcgeaaGreatDoor
open Go.RowKit

/-- What the document's Encode leaves. -/
def RefEncPost (w : World) (base en : Int) (rs : List Rec) (e : Ending) (w' : World) : Prop :=
  Chg Nil w w' ∧ ((encErr base en rs ≠ 0 ∧ e = .returned (.tuple #[.slice none 0 0, .int .i64 (encErr base en rs : Nat)])) ∨
    (encErr base en rs = 0 ∧ ∃ v, e = .returned (.tuple #[v, .int .i64 0]) ∧ OwnB 5 w' v (encAll base en rs) ∧ ∀ k, v.ownBlock = some k → w.heap.size ≤ k))

theorem length_three {α : Type} {l : List α} (h : l.length = 3) : ∃ a b c, l = [a, b, c] := by
  rcases l with _ | ⟨a, _ | ⟨b, _ | ⟨c, _ | ⟨d, t⟩⟩⟩⟩ <;> simp at h
  exact ⟨a, b, c, rfl⟩
theorem length_four {α : Type} {l : List α} (h : l.length = 4) : ∃ a b c d, l = [a, b, c, d] := by
  rcases l with _ | ⟨a, l⟩
  · simp at h
  · obtain ⟨b, c, d, rfl⟩ := length_three (l := l) (by simpa using h)
    exact ⟨a, b, c, d, rfl⟩

theorem putAll3 (a b c : Nat) : putAll [a, b, c] = put a ++ put b ++ put c := by simp [putAll]
theorem Rec.flags_of (o t : Int) (k : ByteArray) (v : ByteArray) : (Rec.mk o t false k false v).flags = 0 ∧ (Rec.mk o t true k false v).flags = 1 ∧ (Rec.mk o t false k true v).flags = 2 ∧ (Rec.mk o t true k true v).flags = 3 := ⟨rfl, rfl, rfl, rfl⟩

/-- The last region's chain: four, four, and the two appends. -/
def FourF (n0 n m : Nat) (L : List UInt8) : List Value → World → Prop
  | [], _ => True
  | [p], w => OwnB 5 w p (four n) ∧ ∀ k, p.ownBlock = some k → n0 ≤ k
  | [p, s], w => s = .int .i64 (m : Nat) ∧ OwnB 5 w p (four n) ∧ ∀ k, p.ownBlock = some k → n0 ≤ k
  | [p, _, q], w => OwnB 5 w p (four n) ∧ (∀ k, p.ownBlock = some k → n0 ≤ k) ∧ OwnB 5 w q (four m) ∧ (∀ k, q.ownBlock = some k → n0 ≤ k)
  | [_, _, _, r], w => OwnB 5 w r (four n ++ four m) ∧ ∀ k, r.ownBlock = some k → n0 ≤ k
  | [_, _, _, _, r], w => OwnB 5 w r (four n ++ four m ++ L) ∧ ∀ k, r.ownBlock = some k → n0 ≤ k
  | _, _ => False

set_option maxHeartbeats 4000000 in
set_option maxRecDepth 100000 in
theorem refEncode_ok (base en : Int) (a : Option Addr) (rs : List Rec) (cap : Nat) (w : World) (hb : -9223372036854775808 ≤ base ∧ base ≤ 9223372036854775807) (he : -9223372036854775808 ≤ en ∧ en ≤ 9223372036854775807) (hl : rs.length ≤ maxLen) (hok : ∀ r ∈ rs, Rec.Ok r) (hc : RecsAt w a rs) (h0 : checkB base en rs = 0) :
    Calls Tryz.prog 9 #[.agg #[.int .i64 base, .int .i64 en, .slice a rs.length cap]] w (RefEncPost w base en rs) := by
  have HRK := Lib.hid (fun w' h => refCheck_any base en a rs cap w' hb he hl hok h)
  rw [h0] at HRK
  obtain ⟨c0, c1, c2, c3, c4, hfit⟩ := checkB_zero h0
  have HFIT := Lib.hid hfit
  have HLEN : Hid (∀ k, (encHead base en rs.length ++ encRecs base (rs.take k)).length ≤ 50000) := by
    intro k
    have h1 := encRecs_length c4 (rs := rs.take k) (fun r hr => hfit r (List.mem_of_mem_take hr))
    have h2 : (put base.toNat).length ≤ 6 := put_length (k := 5) (by omega)
    have h3 : (put (en - base).toNat).length ≤ 6 := put_length (k := 5) (by omega)
    have h4 : (put rs.length).length ≤ 6 := put_length (k := 5) (by omega)
    rw [List.length_take] at h1
    unfold encHead
    simp only [List.length_append]
    omega
  have HZ := Lib.hid h0
  have HC := Lib.hid hc
  clear hok hc h0 hfit hb he
  have hbn : ∃ b : Nat, base = (b : Int) := ⟨base.toNat, by omega⟩
  have hdn : ∃ d : Nat, en - base = (d : Int) := ⟨(en - base).toNat, by omega⟩
  obtain ⟨d, hd⟩ := hdn
  have HDN : Hid ((en - base).toNat = d) := by unfold Hid; omega
  have hdl : d ≤ 50 := by omega
  obtain ⟨b, rfl⟩ := hbn
  have hx : Box (w.alloc (.cells #[.int .i64 b, .int .i64 en, .slice a rs.length cap] 41)) w.heap.size [.int .i64 b, .int .i64 en, .slice a rs.length cap] 41 := Box.new _ _ _
  have hch0 : Chg Nil w (w.alloc (.cells #[.int .i64 b, .int .i64 en, .slice a rs.length cap] 41)) := (Chg.refl _ _).alloc _
  have HC1 := Lib.hid (HC.out.chg hch0 (fun _ _ h => h))
  go_enter Tryz.func9, Tryz.ntmps9
  go_wp2_with fail
  refine (HRK.out _ HC1.out).mono ?_
  rintro e w1 ⟨rfl, hc1⟩
  have hx1 := hx.chg hc1 (fun h => h)
  have HC2 := Lib.hid (HC1.out.chg hc1 (fun _ _ h => h))
  have hch1 := hch0.trans hc1 (fun _ h => .inl h)
  have hxs : w.heap.size < w1.heap.size := (Array.getElem?_eq_some_iff.1 hx1).1
  have x0 := hx1.cell (j := 0) rfl
  have x1 := hx1.cell (j := 1) rfl
  have x2 := hx1.cell (j := 2) rfl
  -- what stands behind the closures are made
  have hW : ∃ W, W = ((w1.alloc (.cells #[.slice none 0 0] 44)).alloc (.cells #[.func (.func 41) #[] #[.pointer (some ⟨w1.heap.size, 0, none⟩)]] 88)).alloc (.cells #[.int .i64 b, .int .i64 d, .int .i64 (rs.length : Nat)] 3) := ⟨_, rfl⟩
  obtain ⟨W, hW⟩ := hW
  have hchW : Chg Nil w1 W := by rw [hW]; exact (((Chg.refl Nil w1).alloc _).alloc _).alloc _
  have hWs : W.heap.size = w1.heap.size + 1 + 1 + 1 := by rw [hW]; simp
  have hBW : Box W w1.heap.size [.slice none 0 0] 44 := by
    rw [hW]
    exact ((Box.new w1 [.slice none 0 0] 44).chg ((Chg.refl Nil _).alloc _) (fun h => h)).chg ((Chg.refl Nil _).alloc _) (fun h => h)
  have hFW : Box W (w1.heap.size + 1) [.func (.func 41) #[] #[.pointer (some ⟨w1.heap.size, 0, none⟩)]] 88 := by
    rw [hW]
    have h := Box.new (w1.alloc (.cells #[.slice none 0 0] 44)) [.func (.func 41) #[] #[.pointer (some ⟨w1.heap.size, 0, none⟩)]] 88
    have e : (w1.alloc (.cells #[.slice none 0 0] 44)).heap.size = w1.heap.size + 1 := by simp
    rw [e] at h
    exact h.chg ((Chg.refl Nil _).alloc _) (fun h => h)
  have hGW : Box W (w1.heap.size + 1 + 1) ([b, d, rs.length].map fun n => .int .i64 (n : Nat)) 3 := by
    rw [hW]
    have h := Box.new ((w1.alloc (.cells #[.slice none 0 0] 44)).alloc (.cells #[.func (.func 41) #[] #[.pointer (some ⟨w1.heap.size, 0, none⟩)]] 88)) [.int .i64 b, .int .i64 d, .int .i64 (rs.length : Nat)] 3
    have e : ((w1.alloc (.cells #[.slice none 0 0] 44)).alloc (.cells #[.func (.func 41) #[] #[.pointer (some ⟨w1.heap.size, 0, none⟩)]] 88)).heap.size = w1.heap.size + 1 + 1 := by simp
    rw [e] at h
    exact h
  have hput := refPutAll_any (fun k => k < w1.heap.size ∨ k = w1.heap.size + 1) (w1.heap.size + 1 + 1) w1.heap.size [b, d, rs.length] [] W (fun k hk => by omega) (by omega) (.inr (by omega)) (by simp)
    (by simp; omega) (by simp) hGW (fun v hv => by
      have h1 := hv.cell (j := 0) rfl
      rw [hBW.cell (j := 0) rfl] at h1
      obtain rfl := Option.some.inj h1
      simp [Value.ownBlock]) ⟨_, hBW, OwnB.nil _ _, by simp [Value.ownBlock]⟩
  rw [hW] at hput
  have HP := Lib.hid hput
  have HW := Lib.hid hW
  clear hput hW hx hch0 HC1 hc1 hBW hGW
  go_wp2_with fail
  refine HP.out.mono ?_
  rintro e w2 ⟨rfl, hc2, hbuf⟩
  rw [← HW.out] at hc2
  have hw12 : w1.heap.size + 2 < w2.heap.size := by have := hc2.size; omega
  have hcN2 : Chg Nil w1 w2 := hchW.trans hc2 (fun i hi => .inr (by
    have hi : ¬ (i < w1.heap.size ∨ i = w1.heap.size + 1) := hi
    omega))
  have hF2 := hFW.chg hc2 (fun h => h (.inr rfl))
  have hbuf2 : Buf (fun k => k < w1.heap.size ∨ k = w1.heap.size + 1) w2 w1.heap.size (encHead b en rs.length ++ encRecs b (rs.take 0)) := by
    have e : [] ++ putAll [b, d, rs.length] = encHead b en rs.length ++ encRecs b (rs.take 0) := by
      rw [List.nil_append, putAll3]
      unfold encHead
      rw [HDN.out]
      simp [encRecs]
    rw [← e]
    exact hbuf
  have HBUF := Lib.hid hbuf2
  clear hbuf hbuf2 hc2 HP HW hchW hFW hWs
  have X0 := hcN2.cell x0 (fun h => h)
  have X1 := hcN2.cell x1 (fun h => h)
  have X2 := hcN2.cell x2 (fun h => h)
  go_wp2_with fail
  have hbuf2 := HBUF.out
  clear HBUF
  go_loopw [34] (fun i wr => ∃ k : Nat, k ≤ rs.length ∧ i = .int .i64 k ∧ Chg (fun j => ¬ (j < w1.heap.size ∨ j = w1.heap.size + 1)) w2 wr ∧ Buf (fun k => k < w1.heap.size ∨ k = w1.heap.size + 1) wr w1.heap.size (encHead b en rs.length ++ encRecs b (rs.take k))) (fun i _ => rs.length - (intOf i).toNat)
  case atStart => exact ⟨0, Nat.zero_le _, rfl, Chg.refl _ _, hbuf2⟩
  case round =>
    obtain ⟨k, hk, rfl, hch, hbuf⟩ := hrel
    clear hbuf2 X0 X1 X2
    have hcN : Chg Nil w1 wr := hcN2.trans hch (fun i hi => .inr (by
      have hi : ¬ (i < w1.heap.size ∨ i = w1.heap.size + 1) := hi
      omega))
    have X0 := hcN.cell x0 (fun h => h)
    have X1 := hcN.cell x1 (fun h => h)
    have X2 := hcN.cell x2 (fun h => h)
    have hFr := hF2.chg hch (fun h => h (.inr rfl))
    have hwr : w2.heap.size ≤ wr.heap.size := hch.size
    by_cases hlt : k < rs.length
    · obtain ⟨rb, off, rfl, hcell⟩ := RecsAt.chg hcN HC2.out (fun _ _ h => h) k hlt
      have g0 : wr.cell? ⟨rb, off + k * 6, none⟩ = _ := hcell 0 _ rfl
      have g1 := hcell 1 _ rfl
      have g2 := hcell 2 _ rfl
      have g3 := hcell 3 _ rfl
      have g4 := hcell 4 _ rfl
      have g5 := hcell 5 _ rfl
      have HS : Hid (encHead b en rs.length ++ encRecs b (rs.take (k + 1)) = (encHead b en rs.length ++ encRecs b (rs.take k)) ++ encRec b rs[k]) := by
        unfold Hid
        rw [take_snoc rs k hlt, encRecs_append]
        simp [encRecs]
      have hLk := HLEN.out k
      have hrk := HFIT.out _ (List.getElem_mem hlt)
      have HBF := Lib.hid hbuf
      clear hcell hbuf
      generalize hLe : encHead b en rs.length ++ encRecs b (rs.take k) = L at *
      have HLE := Lib.hid hLe
      clear hLe
      generalize rs[k] = r at *
      obtain ⟨ro, rt, rk, rkey, rg, rval⟩ := r
      simp only at g0 g1 g2 g3 g4 g5
      obtain ⟨f1, f2, f3, f4, f5, f6, f7, f8⟩ := hrk
      simp only at f1 f2 f3 f4 f5 f6 f7 f8
      have HN1 := Lib.hid f7
      have HN2 := Lib.hid f8
      clear f7 f8
      have hon : ∃ o : Nat, ro - b = (o : Int) := ⟨(ro - b).toNat, by omega⟩
      obtain ⟨o, ho⟩ := hon
      have HON : Hid ((ro - (b : Int)).toNat = o) := by unfold Hid; omega
      have hol : o ≤ 1000 := by omega
      have htn : ∃ t : Nat, rt = (t : Int) := ⟨rt.toNat, by omega⟩
      obtain ⟨t, rfl⟩ := htn
      have hpA := Box.new wr [.int .i64 ro, .int .i64 t, .bool rk, .string rkey, .bool rg, .string rval] 55
      have hsz1 : (wr.alloc (.cells #[.int .i64 ro, .int .i64 t, .bool rk, .string rkey, .bool rg, .string rval] 55)).heap.size = wr.heap.size + 1 := by simp
      have HPUT : Hid (∀ f : Nat, f ≤ 3 → Calls Tryz.prog 41 #[.slice (some ⟨wr.heap.size + 1, 0, none⟩) 3 3, .pointer (some ⟨w1.heap.size, 0, none⟩)]
          ((wr.alloc (.cells #[.int .i64 ro, .int .i64 t, .bool rk, .string rkey, .bool rg, .string rval] 55)).alloc (.cells #[.int .i64 o, .int .i64 t, .int .i64 (f : Nat)] 3))
          fun e w' => e = .returned (.tuple #[]) ∧ Chg (fun j => ¬ ((j < w1.heap.size ∨ j = w1.heap.size + 1) ∨ j = wr.heap.size)) wr w' ∧ Buf (fun j => (j < w1.heap.size ∨ j = w1.heap.size + 1) ∨ j = wr.heap.size) w' w1.heap.size (L ++ putAll [o, t, f]) ∧
            Box w' wr.heap.size [.int .i64 ro, .int .i64 t, .bool rk, .string rkey, .bool rg, .string rval] 55 ∧ w'.cell? ⟨w1.heap.size + 1, 0, none⟩ = some (.func (.func 41) #[] #[.pointer (some ⟨w1.heap.size, 0, none⟩)])) := by
        intro f hf
        have hal := ((Chg.refl Nil wr).alloc (.cells #[.int .i64 ro, .int .i64 t, .bool rk, .string rkey, .bool rg, .string rval] 55)).alloc (.cells #[.int .i64 o, .int .i64 t, .int .i64 (f : Nat)] 3)
        have hal2 := (Chg.refl Nil (wr.alloc (.cells #[.int .i64 ro, .int .i64 t, .bool rk, .string rkey, .bool rg, .string rval] 55))).alloc (.cells #[.int .i64 o, .int .i64 t, .int .i64 (f : Nat)] 3)
        have hg := Box.new (wr.alloc (.cells #[.int .i64 ro, .int .i64 t, .bool rk, .string rkey, .bool rg, .string rval] 55)) [.int .i64 o, .int .i64 t, .int .i64 (f : Nat)] 3
        rw [hsz1] at hg
        have hb := HBF.out.chg hal (fun h => h) (fun _ _ h => h.elim)
        have hsz2 : ((wr.alloc (.cells #[.int .i64 ro, .int .i64 t, .bool rk, .string rkey, .bool rg, .string rval] 55)).alloc (.cells #[.int .i64 o, .int .i64 t, .int .i64 (f : Nat)] 3)).heap.size = wr.heap.size + 1 + 1 := by simp
        have hown : ∀ v, Box ((wr.alloc (.cells #[.int .i64 ro, .int .i64 t, .bool rk, .string rkey, .bool rg, .string rval] 55)).alloc (.cells #[.int .i64 o, .int .i64 t, .int .i64 (f : Nat)] 3)) w1.heap.size [v] 44 → ∀ j, v.ownBlock = some j → j < wr.heap.size := by
          intro v hv j hj
          obtain ⟨v', h1, h2, _⟩ := HBF.out
          have h1' := (h1.chg hal (fun h => h)).cell (j := 0) rfl
          rw [hv.cell (j := 0) rfl] at h1'
          obtain rfl := Option.some.inj h1'
          exact h2.lt j hj
        have hb2 : Buf (fun j => (j < w1.heap.size ∨ j = w1.heap.size + 1) ∨ j = wr.heap.size) ((wr.alloc (.cells #[.int .i64 ro, .int .i64 t, .bool rk, .string rkey, .bool rg, .string rval] 55)).alloc (.cells #[.int .i64 o, .int .i64 t, .int .i64 (f : Nat)] 3)) w1.heap.size L := by
          obtain ⟨v, h1, h2, h3⟩ := hb
          exact ⟨v, h1, h2, fun j hj => ⟨fun h => h.elim (h3 j hj).1 (fun e => by have := hown v h1 j hj; omega), (h3 j hj).2⟩⟩
        refine (refPutAll_any (fun j => (j < w1.heap.size ∨ j = w1.heap.size + 1) ∨ j = wr.heap.size) (wr.heap.size + 1) w1.heap.size [o, t, f] L _ (fun j hj => by rw [hsz2]; omega) (by omega) (.inr (by omega)) (by simp) (by simp; omega) (by omega) hg
          (fun v hv he => by have := hown v hv _ he; omega) hb2).mono ?_
        rintro e w' ⟨rfl, hc, hb'⟩
        exact ⟨rfl, hal.weak (fun _ h => h.elim) |>.trans hc (fun _ h => .inl h), hb', (hpA.chg hal2 (fun h => h)).chg hc (fun h => h (.inr rfl)), ((hFr.chg hal (fun h => h)).chg hc (fun h => h (.inl (.inr rfl)))).cell (j := 0) rfl⟩
      have HFR := Lib.hid hFr
      have XA0 := ((Chg.refl Nil wr).alloc (.cells #[.int .i64 ro, .int .i64 t, .bool rk, .string rkey, .bool rg, .string rval] 55)).cell X0 (fun h => h)
      have cF := (hFr.chg ((Chg.refl Nil wr).alloc (.cells #[.int .i64 ro, .int .i64 t, .bool rk, .string rkey, .bool rg, .string rval] 55)) (fun h => h)).cell (j := 0) rfl
      clear hpA hsz1 hFr
      have hL3 : ∀ f : Nat, f ≤ 3 → (L ++ putAll [o, t, f]).length ≤ 50018 := by
        intro f hf
        have h1 : (put o).length ≤ 6 := put_length (k := 5) (by omega)
        have h2 : (put t).length ≤ 6 := put_length (k := 5) (by omega)
        have h3 : (put f).length ≤ 6 := put_length (k := 5) (by omega)
        rw [putAll3]
        simp only [List.length_append]
        omega
      have HL3 := Lib.hid hL3
      have HL4 : Hid ((putText rkey).length ≤ 1006 ∧ (putText rval).length ≤ 1006) := ⟨by have := putText_length (s := rkey) (by omega); omega, by have := putText_length (s := rval) (by omega); omega⟩
      clear hL3
      cases rk
      · cases rg
        · have hp0 := HPUT.out 0 (by omega)
          simp only [Int.cast_ofNat_Int] at hp0
          have HP0 := Lib.hid hp0
          clear hp0 HPUT HBF
          go_wp2_with fail
          refine HP0.out.mono ?_
          rintro e w3 ⟨rfl, hc3, hb3, hp3, hf3⟩
          have hL3 := HL3.out 0 (by omega)
          have hz3 : wr.heap.size < w3.heap.size := (Array.getElem?_eq_some_iff.1 hp3).1
          have HB3 := Lib.hid hb3
          generalize hM : L ++ putAll [o, t, 0] = M at *
          have HM := Lib.hid hM
          clear hM hb3 HP0 cF XA0
          have q2 := hp3.cell (j := 2) rfl
          have q3 := hp3.cell (j := 3) rfl
          have q4 := hp3.cell (j := 4) rfl
          have q5 := hp3.cell (j := 5) rfl
          go_wp2_with fail
          refine (refText_any (fun j => (j < w1.heap.size ∨ j = w1.heap.size + 1) ∨ j = wr.heap.size) w1.heap.size (w1.heap.size + 1) rval M w3 (fun j hj => by omega) (by omega) (by omega) (by omega) hf3 HB3.out).mono ?_
          rintro e w4 ⟨rfl, hc4, hb4⟩
          have hp4 := hp3.chg hc4 (fun h => h (.inr rfl))
          have hf4 := hc4.cell hf3 (fun h => h (.inl (.inr rfl)))
          have hz4 : wr.heap.size < w4.heap.size := (Array.getElem?_eq_some_iff.1 hp4).1
          have HB4 := Lib.hid hb4
          clear hb4 q2 q3 q4 q5
          have q2 := hp4.cell (j := 2) rfl
          have q3 := hp4.cell (j := 3) rfl
          have q4 := hp4.cell (j := 4) rfl
          have q5 := hp4.cell (j := 5) rfl
          go_wp2_with fail
          go_roundw
          case rel =>
            refine ⟨k + 1, by omega, by go_num, hch.trans ((hc3.trans hc4 (fun _ h => .inl h))) (fun j hj => .inl fun h => hj (.inl h)), ?_⟩
            rw [HS.out]
            have hb := HB4.out.more (A' := fun j => j < w1.heap.size ∨ j = w1.heap.size + 1) (fun j _ h => .inl h)
            rw [← HM.out] at hb
            have e : encRec b ⟨ro, t, false, rkey, false, rval⟩ = putAll [o, t, 0] ++ putText rval := by
              unfold encRec
              rw [putAll3, HON.out]
              simp [Rec.flags]
            rw [e]
            simpa [List.append_assoc] using hb
          case measure => simp [intOf]; omega
        · have hp0 := HPUT.out 2 (by omega)
          simp only [Int.cast_ofNat_Int] at hp0
          have HP0 := Lib.hid hp0
          clear hp0 HPUT HBF
          go_wp2_with fail
          refine HP0.out.mono ?_
          rintro e w3 ⟨rfl, hc3, hb3, hp3, hf3⟩
          have hL3 := HL3.out 2 (by omega)
          have hz3 : wr.heap.size < w3.heap.size := (Array.getElem?_eq_some_iff.1 hp3).1
          have HB3 := Lib.hid hb3
          generalize hM : L ++ putAll [o, t, 2] = M at *
          have HM := Lib.hid hM
          clear hM hb3 HP0 cF XA0
          have q2 := hp3.cell (j := 2) rfl
          have q3 := hp3.cell (j := 3) rfl
          have q4 := hp3.cell (j := 4) rfl
          have q5 := hp3.cell (j := 5) rfl
          go_wp2_with fail
          go_roundw
          case rel =>
            refine ⟨k + 1, by omega, by go_num, hch.trans (hc3) (fun j hj => .inl fun h => hj (.inl h)), ?_⟩
            rw [HS.out]
            have hb := HB3.out.more (A' := fun j => j < w1.heap.size ∨ j = w1.heap.size + 1) (fun j _ h => .inl h)
            rw [← HM.out] at hb
            have e : encRec b ⟨ro, t, false, rkey, true, rval⟩ = putAll [o, t, 2] := by
              unfold encRec
              rw [putAll3, HON.out]
              simp [Rec.flags]
            rw [e]
            simpa [List.append_assoc] using hb
          case measure => simp [intOf]; omega
      · cases rg
        · have hp0 := HPUT.out 1 (by omega)
          simp only [Int.cast_ofNat_Int] at hp0
          have HP0 := Lib.hid hp0
          clear hp0 HPUT HBF
          go_wp2_with fail
          refine HP0.out.mono ?_
          rintro e w3 ⟨rfl, hc3, hb3, hp3, hf3⟩
          have hL3 := HL3.out 1 (by omega)
          have hz3 : wr.heap.size < w3.heap.size := (Array.getElem?_eq_some_iff.1 hp3).1
          have HB3 := Lib.hid hb3
          generalize hM : L ++ putAll [o, t, 1] = M at *
          have HM := Lib.hid hM
          clear hM hb3 HP0 cF XA0
          have q2 := hp3.cell (j := 2) rfl
          have q3 := hp3.cell (j := 3) rfl
          have q4 := hp3.cell (j := 4) rfl
          have q5 := hp3.cell (j := 5) rfl
          go_wp2_with fail
          refine (refText_any (fun j => (j < w1.heap.size ∨ j = w1.heap.size + 1) ∨ j = wr.heap.size) w1.heap.size (w1.heap.size + 1) rkey M w3 (fun j hj => by omega) (by omega) (by omega) (by omega) hf3 HB3.out).mono ?_
          rintro e w4 ⟨rfl, hc4, hb4⟩
          have hp4 := hp3.chg hc4 (fun h => h (.inr rfl))
          have hf4 := hc4.cell hf3 (fun h => h (.inl (.inr rfl)))
          have hz4 : wr.heap.size < w4.heap.size := (Array.getElem?_eq_some_iff.1 hp4).1
          have HB4 := Lib.hid hb4
          clear hb4 q2 q3 q4 q5
          have q2 := hp4.cell (j := 2) rfl
          have q3 := hp4.cell (j := 3) rfl
          have q4 := hp4.cell (j := 4) rfl
          have q5 := hp4.cell (j := 5) rfl
          go_wp2_with fail
          refine (refText_any (fun j => (j < w1.heap.size ∨ j = w1.heap.size + 1) ∨ j = wr.heap.size) w1.heap.size (w1.heap.size + 1) rval (M ++ putText rkey) w4 (fun j hj => by omega) (by omega) (by omega) (by have := HL4.out; simp only [List.length_append]; omega) hf4 HB4.out).mono ?_
          rintro e w5 ⟨rfl, hc5, hb5⟩
          have hp5 := hp4.chg hc5 (fun h => h (.inr rfl))
          have hf5 := hc5.cell hf4 (fun h => h (.inl (.inr rfl)))
          have hz5 : wr.heap.size < w5.heap.size := (Array.getElem?_eq_some_iff.1 hp5).1
          have HB5 := Lib.hid hb5
          clear hb5 q2 q3 q4 q5
          have q2 := hp5.cell (j := 2) rfl
          have q3 := hp5.cell (j := 3) rfl
          have q4 := hp5.cell (j := 4) rfl
          have q5 := hp5.cell (j := 5) rfl
          go_wp2_with fail
          go_roundw
          case rel =>
            refine ⟨k + 1, by omega, by go_num, hch.trans (((hc3.trans hc4 (fun _ h => .inl h)).trans hc5 (fun _ h => .inl h))) (fun j hj => .inl fun h => hj (.inl h)), ?_⟩
            rw [HS.out]
            have hb := HB5.out.more (A' := fun j => j < w1.heap.size ∨ j = w1.heap.size + 1) (fun j _ h => .inl h)
            rw [← HM.out] at hb
            have e : encRec b ⟨ro, t, true, rkey, false, rval⟩ = putAll [o, t, 1] ++ putText rkey ++ putText rval := by
              unfold encRec
              rw [putAll3, HON.out]
              simp [Rec.flags]
            rw [e]
            simpa [List.append_assoc] using hb
          case measure => simp [intOf]; omega
        · have hp0 := HPUT.out 3 (by omega)
          simp only [Int.cast_ofNat_Int] at hp0
          have HP0 := Lib.hid hp0
          clear hp0 HPUT HBF
          go_wp2_with fail
          refine HP0.out.mono ?_
          rintro e w3 ⟨rfl, hc3, hb3, hp3, hf3⟩
          have hL3 := HL3.out 3 (by omega)
          have hz3 : wr.heap.size < w3.heap.size := (Array.getElem?_eq_some_iff.1 hp3).1
          have HB3 := Lib.hid hb3
          generalize hM : L ++ putAll [o, t, 3] = M at *
          have HM := Lib.hid hM
          clear hM hb3 HP0 cF XA0
          have q2 := hp3.cell (j := 2) rfl
          have q3 := hp3.cell (j := 3) rfl
          have q4 := hp3.cell (j := 4) rfl
          have q5 := hp3.cell (j := 5) rfl
          go_wp2_with fail
          refine (refText_any (fun j => (j < w1.heap.size ∨ j = w1.heap.size + 1) ∨ j = wr.heap.size) w1.heap.size (w1.heap.size + 1) rkey M w3 (fun j hj => by omega) (by omega) (by omega) (by omega) hf3 HB3.out).mono ?_
          rintro e w4 ⟨rfl, hc4, hb4⟩
          have hp4 := hp3.chg hc4 (fun h => h (.inr rfl))
          have hf4 := hc4.cell hf3 (fun h => h (.inl (.inr rfl)))
          have hz4 : wr.heap.size < w4.heap.size := (Array.getElem?_eq_some_iff.1 hp4).1
          have HB4 := Lib.hid hb4
          clear hb4 q2 q3 q4 q5
          have q2 := hp4.cell (j := 2) rfl
          have q3 := hp4.cell (j := 3) rfl
          have q4 := hp4.cell (j := 4) rfl
          have q5 := hp4.cell (j := 5) rfl
          go_wp2_with fail
          go_roundw
          case rel =>
            refine ⟨k + 1, by omega, by go_num, hch.trans ((hc3.trans hc4 (fun _ h => .inl h))) (fun j hj => .inl fun h => hj (.inl h)), ?_⟩
            rw [HS.out]
            have hb := HB4.out.more (A' := fun j => j < w1.heap.size ∨ j = w1.heap.size + 1) (fun j _ h => .inl h)
            rw [← HM.out] at hb
            have e : encRec b ⟨ro, t, true, rkey, true, rval⟩ = putAll [o, t, 3] ++ putText rkey := by
              unfold encRec
              rw [putAll3, HON.out]
              simp [Rec.flags]
            rw [e]
            simpa [List.append_assoc] using hb
          case measure => simp [intOf]; omega
    · have hkl : k = rs.length := by omega
      subst hkl
      rw [List.take_length] at hbuf
      obtain ⟨v, hB, hown, hvA⟩ := hbuf
      have hLb : encHead b en rs.length ++ encRecs b rs = encBody b en rs := rfl
      have hLl := HLEN.out rs.length
      rw [List.take_length, hLb] at hLl
      rw [hLb] at hown
      have HEE : Hid (encErr b en rs = if 6000 < 8 + (encBody b en rs).length then 4 else 0) := by
        unfold Hid encErr
        rw [if_neg (by simpa using HZ.out)]
      have HEA : Hid (encAll b en rs = four (8 + (encBody b en rs).length) ++ four (sumOf (encBody b en rs)) ++ encBody b en rs) := rfl
      have hfin : Chg Nil w wr := hch1.trans hcN (fun _ h => .inl h)
      have HFIN := Lib.hid hfin
      clear hLb hfin hch1 hch hcN hcN2 X0 X1 X2 x0 x1 x2 hF2 hFr HC2 HRK
      generalize encBody b en rs = L at *
      obtain ⟨xa, xc, rfl, hby, hcap⟩ := hown.val
      have c0 := hB.cell (j := 0) rfl
      have HOW := Lib.hid hown
      have HBX := Lib.hid hB
      clear hown hB
      by_cases h6 : 6000 < 8 + L.length
      · have HE4 : Hid (encErr b en rs = 4) := by unfold Hid; rw [HEE.out, if_pos h6]
        clear HEE
        go_wp2_with fail
        go_ret2
        exact ⟨HFIN.out, .inl ⟨by rw [HE4.out]; simp, by rw [HE4.out]; rfl⟩⟩
      · have HE0 : Hid (encErr b en rs = 0) := by unfold Hid; rw [HEE.out, if_neg h6]
        clear HEE
        go_upto_region 24 with fail
        have HM := Lib.hid (rsumOf_eq L)
        have HF4 : Hid (∀ w', Calls Tryz.prog 44 #[.int .i64 ((L.length : Int) + 8)] w' fun e w'' => ∃ v', e = .returned v' ∧ FreshB w' w'' v' (four (8 + L.length))) := by
          intro w'
          have h := refFour_any (8 + L.length) w' (by omega)
          rw [show ((8 + L.length : Nat) : Int) = (L.length : Int) + 8 by omega] at h
          exact h
        generalize hn0 : wr.heap.size = n0 at *
        have HN0 := Lib.hid hn0
        clear hn0
        refine Ch.wp_region_chain _ (Chg (fun k => n0 ≤ k)) [3, 5, 6, 7, 9] (FourF n0 (8 + L.length) (sumOf L) L) (by kernel_rfl) (fun _ => Chg.refl _ _) (fun _ _ _ h k => h.trans k (fun _ h => .inl h)) [[], [0], [1], [2], [], [4], [5], [3, 6], [], [7, 8], [9], []] rfl (by kernel_rfl) (by kernel_rfl) (Chg.refl _ _).drew ?_ ?_
        · trivial
        ((with_reducible apply Ch.Walk.eq); (case hd => rfl); (case hi => rfl); case h => (intro w2 hw2 N hN; (have hc := (HBX.out.chg hw2 (by omega)).cell (j := 0) rfl); simp only [Ch.depsOf, List.filterMap_nil, List.filterMap_cons, List.getElem?_toArray, List.getElem?_cons_zero, List.getElem?_cons_succ, Option.bind_some, List.nil_append, List.cons_append, Ch.Ob]; go_simp; (try go_bits); with_reducible exact hN _ (Chg.refl _ _) (fun _ h => h)))
        iterate 2 ((with_reducible apply Ch.Walk.eq); (case hd => rfl); (case hi => rfl); case h => (intro w2 hw2 N hN; simp only [Ch.depsOf, List.filterMap_nil, List.filterMap_cons, List.getElem?_toArray, List.getElem?_cons_zero, List.getElem?_cons_succ, Option.bind_some, List.nil_append, List.cons_append, Ch.Ob]; go_simp; (try go_bits); with_reducible exact hN _ (Chg.refl _ _) (fun _ h => h)))
        refine Ch.Walk.chain 0 rfl rfl ?_ ?_
        · intro w3 hw3 vs hvs hF N hN
          obtain rfl := List.eq_nil_of_length_eq_zero hvs
          simp only [Ch.depsOf, List.filterMap_nil, List.filterMap_cons, List.getElem?_toArray, List.getElem?_cons_zero, List.getElem?_cons_succ, Option.bind_some, List.nil_append, List.cons_append, Ch.Ob, Ch.chained_get, Option.map_some, List.idxOf?, List.findIdx?, List.findIdx?.go, Nat.reduceBEq, List.getD_cons_zero, List.getD_cons_succ, Nat.reduceAdd, if_true, if_false, Bool.false_eq_true]
          go_simp
          refine (HF4.out w3).mono ?_
          rintro e w4 ⟨p, rfl, h1, h2, h3⟩
          exact ⟨_, rfl, hN _ _ (h2.weak (fun _ h => h.elim)) ⟨h1, fun k hk => by have := h3 k hk; have hz := hw3.size; have := HN0.out; omega⟩⟩
        ((with_reducible apply Ch.Walk.eq); (case hd => rfl); (case hi => rfl); case h => (intro w2 hw2 N hN; (have hc := (HBX.out.chg hw2 (by omega)).cell (j := 0) rfl); simp only [Ch.depsOf, List.filterMap_nil, List.filterMap_cons, List.getElem?_toArray, List.getElem?_cons_zero, List.getElem?_cons_succ, Option.bind_some, List.nil_append, List.cons_append, Ch.Ob]; go_simp; (try go_bits); with_reducible exact hN _ (Chg.refl _ _) (fun _ h => h)))
        refine Ch.Walk.chain 1 rfl rfl ?_ ?_
        · intro w3 hw3 vs hvs hF N hN
          obtain ⟨p, rfl⟩ := List.length_eq_one_iff.1 hvs
          simp only [Ch.depsOf, List.filterMap_nil, List.filterMap_cons, List.getElem?_toArray, List.getElem?_cons_zero, List.getElem?_cons_succ, Option.bind_some, List.nil_append, List.cons_append, Ch.Ob, Ch.chained_get, Option.map_some, List.idxOf?, List.findIdx?, List.findIdx?.go, Nat.reduceBEq, List.getD_cons_zero, List.getD_cons_succ, Nat.reduceAdd, if_true, if_false, Bool.false_eq_true]
          go_simp
          have hby3 : BytesAt w3 xa L := hw3.bytesAt hby (fun y hy e => by
            have := HOW.out.lt y.block (by rw [hy]; rfl)
            have := HN0.out
            have e : n0 ≤ y.block := e
            omega)
          refine (refSum_any xa L xc w3 (by unfold maxLen; omega) hby3).mono ?_
          rintro e w4 ⟨rfl, rfl⟩
          rw [HM.out]
          exact ⟨_, rfl, hN _ _ (Chg.refl _ _) ⟨rfl, hF⟩⟩
        refine Ch.Walk.chain 2 rfl rfl ?_ ?_
        · intro w3 hw3 vs hvs hF N hN
          obtain ⟨p, s, rfl⟩ := length_two hvs
          obtain ⟨rfl, hF⟩ := hF
          simp only [Ch.depsOf, List.filterMap_nil, List.filterMap_cons, List.getElem?_toArray, List.getElem?_cons_zero, List.getElem?_cons_succ, Option.bind_some, List.nil_append, List.cons_append, Ch.Ob, Ch.chained_get, Option.map_some, List.idxOf?, List.findIdx?, List.findIdx?.go, Nat.reduceBEq, List.getD_cons_zero, List.getD_cons_succ, Nat.reduceAdd, if_true, if_false, Bool.false_eq_true]
          go_simp
          refine (refFour_any (sumOf L) w3 (sumOf_lt L)).mono ?_
          rintro e w4 ⟨q, rfl, h1, h2, h3⟩
          exact ⟨_, rfl, hN _ _ (h2.weak (fun _ h => h.elim)) ⟨hF.1.chg h2 (fun _ _ h => h), hF.2, h1, fun k hk => by have := h3 k hk; have hz := hw3.size; have := HN0.out; omega⟩⟩
        refine Ch.Walk.chain 3 rfl rfl ?_ ?_
        · intro w3 hw3 vs hvs hF N hN
          obtain ⟨p, s, q, rfl⟩ := length_three hvs
          obtain ⟨f1, f2, f3, f4⟩ := hF
          simp only [Ch.depsOf, List.filterMap_nil, List.filterMap_cons, List.getElem?_toArray, List.getElem?_cons_zero, List.getElem?_cons_succ, Option.bind_some, List.nil_append, List.cons_append, Ch.Ob, Ch.chained_get, Option.map_some, List.idxOf?, List.findIdx?, List.findIdx?.go, Nat.reduceBEq, List.getD_cons_zero, List.getD_cons_succ, Nat.reduceAdd, if_true, if_false, Bool.false_eq_true]
          refine Ch.if_append rfl (.tmp 78) (.tmp 81) 44 44 rfl bytesT _ Tryz.underlying44 (by intro _; simp) p _ rfl f1 q _ rfl (Source.own f3) (by simp [four]) (fun v' w' h1 h2 => hN _ _ ?_ ?_)
          · exact h2.chg.weak (fun i hi => .inl (f2 i hi))
          · exact ⟨h1, fun k hk => (h2.own k hk).elim (f2 k) fun h => by have hz := hw3.size; have := HN0.out; omega⟩
        ((with_reducible apply Ch.Walk.eq); (case hd => rfl); (case hi => rfl); case h => (intro w2 hw2 N hN; (have hc := (HBX.out.chg hw2 (by omega)).cell (j := 0) rfl); simp only [Ch.depsOf, List.filterMap_nil, List.filterMap_cons, List.getElem?_toArray, List.getElem?_cons_zero, List.getElem?_cons_succ, Option.bind_some, List.nil_append, List.cons_append, Ch.Ob]; go_simp; (try go_bits); with_reducible exact hN _ (Chg.refl _ _) (fun _ h => h)))
        refine Ch.Walk.chain 4 rfl rfl ?_ ?_
        · intro w3 hw3 vs hvs hF N hN
          obtain ⟨p, s, q, r, rfl⟩ := length_four hvs
          obtain ⟨f1, f2⟩ := hF
          have ho3 : OwnB 5 w3 (.slice xa L.length xc) L := HOW.out.chg hw3 (fun k hk e => by
            have := HOW.out.lt k hk
            have := HN0.out
            have e : n0 ≤ k := e
            omega)
          simp only [Ch.depsOf, List.filterMap_nil, List.filterMap_cons, List.getElem?_toArray, List.getElem?_cons_zero, List.getElem?_cons_succ, Option.bind_some, List.nil_append, List.cons_append, Ch.Ob, Ch.chained_get, Option.map_some, List.idxOf?, List.findIdx?, List.findIdx?.go, Nat.reduceBEq, List.getD_cons_zero, List.getD_cons_succ, Nat.reduceAdd, if_true, if_false, Bool.false_eq_true]
          refine Ch.if_append rfl (.tmp 82) (.tmp 83) 44 44 rfl bytesT _ Tryz.underlying44 (by intro _; simp) r _ rfl f1 _ _ rfl (Source.own ho3) (by simp [four]; omega) (fun v' w' h1 h2 => hN _ _ ?_ ?_)
          · exact h2.chg.weak (fun i hi => .inl (f2 i hi))
          · exact ⟨h1, fun k hk => (h2.own k hk).elim (f2 k) fun h => by have hz := hw3.size; have := HN0.out; omega⟩
        refine Ch.Walk.copy 9 rfl rfl rfl ⟨rfl, 84, .inr rfl, rfl⟩ ?_
        ((with_reducible apply Ch.Walk.eq); (case hd => rfl); (case hi => rfl); case h => (intro w2 hw2 N hN; simp only [Ch.depsOf, List.filterMap_nil, List.filterMap_cons, List.getElem?_toArray, List.getElem?_cons_zero, List.getElem?_cons_succ, Option.bind_some, List.nil_append, List.cons_append, Ch.Ob]; go_simp; (try go_bits); with_reducible exact hN _ (Chg.refl _ _) (fun _ h => h)))
        intro w6 hw6
        simp only [List.nil_append, List.cons_append, Ch.Fin, List.map_cons, List.map_nil, List.getD_cons_zero, List.getD_cons_succ]
        intro v0 _ v1 _ v2 _ v3 _ v4 _ hF
        have f1 : OwnB 5 w6 v4 (four (8 + L.length) ++ four (sumOf L) ++ L) := hF.1
        have f2 : ∀ k, v4.ownBlock = some k → n0 ≤ k := hF.2
        clear hF
        have HF1 := Lib.hid f1
        clear f1
        go_simp
        go_wp2_with fail
        go_ret2
        refine ⟨HFIN.out.trans hw6 (fun i hi => .inr (by have := HFIN.out.size; have := HN0.out; have hi : n0 ≤ i := hi; omega)), .inr ⟨HE0.out, _, rfl, ?_, fun i hi => ?_⟩⟩
        · rw [HEA.out]; exact HF1.out
        · have := f2 i hi; have := HFIN.out.size; have := HN0.out; omega
end Go.Proofs.YtmaomebnigcgeaaGreatDoor
