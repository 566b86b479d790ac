/-
  The walk of Same, where both lists are the same.
-/
import Derived.Test.YtdjmifaidgbbaaaGreatDoorLc06
import Derived.Test.YtdjmifaidgbbaaaGreatDoorLc16
import Derived.Deep.QuietTactic
import Derived.BigQuiet
import Derived.Test.YtdjmifaidgbbaaaGreatDoorLc19
namespace Go.Proofs.YtdjmifaidgbbaaaGreatDoor
open Go.RowKit

set_option maxHeartbeats 400000 in
set_option maxRecDepth 100000 in
theorem same_any (x y : Option Addr) (rs : List Rec) (cx cy : Nat) (w : World) (hl : rs.length ≤ maxLen) (hx : RecsAt w x rs) (hy : RecsAt w y rs) :
    Calls Tryz.prog 14 #[.slice x rs.length cx, .slice y rs.length cy] w fun e w' => e = .returned (.bool true) ∧ Chg Nil w w' := by
  unfold maxLen at hl
  go_enter Tryz.func14, Tryz.ntmps14
  go_wp2
  go_loopw [13] (fun i wr => ∃ k : Nat, k ≤ rs.length ∧ i = .int .i64 k ∧ Chg Nil w wr) (fun i _ => rs.length - (intOf i).toNat)
  case atStart => exact ⟨0, Nat.zero_le _, rfl, Chg.refl _ _⟩
  case round =>
    obtain ⟨k, hk, rfl, hch⟩ := hrel
    by_cases hlt : k < rs.length
    · obtain ⟨b, off, rfl, hc⟩ := RecsAt.chg hch hx (fun _ _ h => h) k hlt
      obtain ⟨b2, off2, rfl, hd⟩ := RecsAt.chg hch hy (fun _ _ h => h) k hlt
      have g0 : wr.cell? ⟨b, off + k * 6, none⟩ = _ := hc 0 _ rfl
      have g1 := hc 1 _ rfl
      have g2 := hc 2 _ rfl
      have g3 := hc 3 _ rfl
      have g4 := hc 4 _ rfl
      have g5 := hc 5 _ rfl
      have k0 : wr.cell? ⟨b2, off2 + k * 6, none⟩ = _ := hd 0 _ rfl
      have k1 := hd 1 _ rfl
      have k2 := hd 2 _ rfl
      have k3 := hd 3 _ rfl
      have k4 := hd 4 _ rfl
      have k5 := hd 5 _ rfl
      clear hc hd hx hy
      generalize rs[k] = r at *
      obtain ⟨ro, rt, rk, rkey, rg, rval⟩ := r
      simp only at g0 g1 g2 g3 g4 g5 k0 k1 k2 k3 k4 k5
      go_wp2_with fail
      go_quiet (fail)
      go_wp2_with fail
      go_roundw
      case rel => exact ⟨k + 1, by omega, by go_num, hch.drewN _⟩
      case measure => simp [intOf]; omega
    · go_wp2_with fail
      go_ret
      exact ⟨rfl, hch⟩
end Go.Proofs.YtdjmifaidgbbaaaGreatDoor

/-
  A batch's bytes are read again; no beginning of them is a batch; a byte that turned is seen. Plain Lean.
-/
namespace Go.Proofs.YtdjmifaidgbbaaaGreatDoor
open Go.RowKit

theorem numS_put (n : Nat) (more : List UInt8) (b : Bool) (h : n ≤ 1099511627776) : numS (put n ++ more, b) = (n, (more, b)) := by
  have hp := put_length_pos n
  have e : ((put n).length == 0) = false := by simp [put_ne]
  unfold numS
  simp only [get_of_put n more h, e, Bool.or_false, List.drop_left]
theorem textSt_put (s : ByteArray) (more : List UInt8) (b : Bool) (h : s.size ≤ 1099511627776) : textSt (putText s ++ more, b) = (s.data.toList, (more, b)) := by
  have hl : s.data.toList.length = s.size := by rw [Array.length_toList]; rfl
  have e : ((put s.size).length == 0) = false := by simp [put_ne]
  have e1 : putText s ++ more = put s.size ++ (s.data.toList ++ more) := by unfold putText; rw [List.append_assoc]
  have e2 := get_of_put s.size (s.data.toList ++ more) h
  have e3 : ¬ (s.data.toList ++ more).length < s.size := by rw [List.length_append]; omega
  unfold textSt textS textRest textBad textN
  simp only [e1, e2, List.drop_left, if_neg e3, e, Bool.or_false, decide_eq_false e3]
  rw [List.take_left' hl, List.drop_left' hl]

theorem flags_le (r : Rec) : r.flags ≤ 3 := by unfold Rec.flags; split <;> split <;> omega
theorem flags_key (r : Rec) : r.flags % 2 = 1 ↔ r.keyed = true := by unfold Rec.flags; cases r.keyed <;> cases r.gone <;> simp
theorem flags_gone (r : Rec) : r.flags / 2 % 2 = 1 ↔ r.gone = true := by unfold Rec.flags; cases r.keyed <;> cases r.gone <;> simp

theorem decRec_enc {base en : Int} {r : Rec} (h : r.Fits base en) (h0 : 0 ≤ base) (he : en ≤ 1099511627776) (more : List UInt8) :
    decRec base (encRec base r ++ more, false) = (r, (more, false)) := by
  obtain ⟨h1, h2, h3, h4, h5, h6, h7, h8⟩ := h
  have hf := flags_le r
  have e1 : encRec base r ++ more = put (r.off - base).toNat ++ (put r.time.toNat ++ (put r.flags ++ ((if r.keyed = true then putText r.key else []) ++ ((if r.gone = true then [] else putText r.value) ++ more)))) := by
    unfold encRec; simp only [List.append_assoc]
  have ek : ∀ m, keyOf r.flags ((if r.keyed = true then putText r.key else []) ++ m, false) = (r.key.data.toList, (m, false)) := by
    intro m
    unfold keyOf
    by_cases hk : r.keyed = true
    · rw [if_pos ((flags_key r).2 hk), if_pos hk, textSt_put _ _ _ (by omega)]
    · rw [if_neg (fun h => hk ((flags_key r).1 h)), if_neg hk]
      have : r.key.data.toList = [] := by have := h7 (by simpa using hk); rw [ByteArray.toList_eq] at this; exact this
      rw [this]; rfl
  have ev : ∀ m, valOfS r.flags ((if r.gone = true then [] else putText r.value) ++ m, false) = (r.value.data.toList, (m, false)) := by
    intro m
    unfold valOfS
    by_cases hk : r.gone = true
    · rw [if_pos ((flags_gone r).2 hk), if_pos hk]
      have : r.value.data.toList = [] := by have := h8 hk; rw [ByteArray.toList_eq] at this; exact this
      rw [this]; rfl
    · rw [if_neg (fun h => hk ((flags_gone r).1 h)), if_neg hk, textSt_put _ _ _ (by omega)]
  have eg : ∀ m : List UInt8, flagS r.flags (m, false) = (m, false) := by
    intro m
    unfold flagS
    simp; omega
  unfold decRec
  rw [e1]
  simp only [numS_put _ _ _ (show (r.off - base).toNat ≤ 1099511627776 by omega), numS_put _ _ _ (show r.time.toNat ≤ 1099511627776 by omega), numS_put _ _ _ (show r.flags ≤ 1099511627776 by omega), eg, ek, ev]
  congr 1
  unfold mkRec
  obtain ⟨ro, rt, rk, rkey, rg, rv⟩ := r
  simp only [Rec.mk.injEq]
  refine ⟨by simp only at h1; omega, by simp only at h3; omega, ?_, ?_⟩
  · have := flags_key ⟨ro, rt, rk, rkey, rg, rv⟩
    simp only at this
    cases rk <;> simp_all
  · have := flags_gone ⟨ro, rt, rk, rkey, rg, rv⟩
    simp only at this
    cases rg <;> simp_all

theorem decRecs_enc {base en : Int} (h0 : 0 ≤ base) (he : en ≤ 1099511627776) (more : List UInt8) : ∀ (rs acc : List Rec), (∀ r ∈ rs, r.Fits base en) →
    decRecs base rs.length (encRecs base rs ++ more, false) acc = (acc ++ rs, (more, false))
  | [], acc, _ => by simp [decRecs, encRecs]
  | r :: rs, acc, h => by
    rw [List.length_cons, decRecs_on rfl, encRecs, List.append_assoc, decRec_enc (h r (by simp)) h0 he, decRecs_enc h0 he more rs _ (fun x hx => h x (by simp [hx]))]
    simp

theorem parse_enc {base en : Int} {rs : List Rec} (h : checkB base en rs = 0) : parse (encBody base en rs) = ⟨base.toNat, (en - base).toNat, rs, ([], false)⟩ := by
  obtain ⟨h0, h1, h2, h3, h4, h5⟩ := checkB_zero h
  have e1 : encBody base en rs = put base.toNat ++ (put (en - base).toNat ++ (put rs.length ++ (encRecs base rs ++ []))) := by
    unfold encBody encHead; simp only [List.append_assoc, List.append_nil]
  unfold parse
  rw [e1]
  have eb : ((base.toNat : Nat) : Int) = base := by omega
  simp only [numS_put _ _ _ (show base.toNat ≤ 1099511627776 by omega), numS_put _ _ _ (show (en - base).toNat ≤ 1099511627776 by omega), numS_put _ _ _ (show rs.length ≤ 1099511627776 by omega), eb,
    decRecs_enc h0 h1 [] rs [] h5, List.nil_append]

theorem get_ext {p : List UInt8} (h : (get p).2 ≠ 0) (q : List UInt8) : get (p ++ q) = get p ∧ (p ++ q).drop (get p).2 = p.drop (get p).2 ++ q := by
  have h1 := get_put p h
  have h2 := (get_size p).1
  have hl : (put (get p).1).length = (get p).2 := by rw [← h1, List.length_take]; omega
  have e : p ++ q = put (get p).1 ++ (p.drop (get p).2 ++ q) := by
    rw [← h1, ← List.append_assoc, List.take_append_drop]
  refine ⟨?_, List.drop_append_of_le_length h2⟩
  conv => lhs; rw [e]
  rw [get_of_put _ _ (get_le p), hl]

theorem numS_bad {s : St} (h : (numS s).2.2 = false) : s.2 = false := by
  unfold numS at h
  simp only [Bool.or_eq_false_iff] at h
  exact h.1
theorem numS_ext {p : List UInt8} (h : (numS (p, false)).2.2 = false) (q : List UInt8) : numS (p ++ q, false) = ((numS (p, false)).1, ((numS (p, false)).2.1 ++ q, false)) := by
  unfold numS at *
  simp only [Bool.false_or, beq_eq_false_iff_ne, ne_eq] at h
  obtain ⟨h1, h2⟩ := get_ext h q
  simp only [h1, h2, Bool.false_or]
  congr 2
  simpa using h
theorem textSt_bad {s : St} (h : (textSt s).2.2 = false) : s.2 = false := by
  unfold textSt textBad at h
  simp only [Bool.or_eq_false_iff] at h
  exact h.1.1
theorem textSt_ext {p : List UInt8} (h : (textSt (p, false)).2.2 = false) (q : List UInt8) : textSt (p ++ q, false) = ((textSt (p, false)).1, ((textSt (p, false)).2.1 ++ q, false)) := by
  unfold textSt textBad textS textRest textN at *
  simp only [Bool.false_or, Bool.or_eq_false_iff, beq_eq_false_iff_ne, ne_eq, decide_eq_false_iff_not] at h
  obtain ⟨h0, hn⟩ := h
  obtain ⟨h1, h2⟩ := get_ext h0 q
  have hn2 : ¬ (p.drop (get p).2 ++ q).length < (get p).1 := by rw [List.length_append]; omega
  have hz : ((get p).2 == 0) = false := by simpa using h0
  simp only [h1, h2, if_neg hn, if_neg hn2, hz, Bool.false_or, decide_eq_false hn2]
  rw [List.take_append_of_le_length (by omega), List.drop_append_of_le_length (by omega)]
theorem flagS_ext {p : List UInt8} {f : Nat} (h : (flagS f (p, false)).2 = false) (q : List UInt8) : flagS f (p ++ q, false) = ((flagS f (p, false)).1 ++ q, false) := by
  unfold flagS at *
  simp only [Bool.false_or] at h
  simp only [Bool.false_or, h]
theorem flagS_bad {s : St} {f : Nat} (h : (flagS f s).2 = false) : s.2 = false := by
  unfold flagS at h
  simp only [Bool.or_eq_false_iff] at h
  exact h.1
theorem keyOf_ext {p : List UInt8} {f : Nat} (h : (keyOf f (p, false)).2.2 = false) (q : List UInt8) : keyOf f (p ++ q, false) = ((keyOf f (p, false)).1, ((keyOf f (p, false)).2.1 ++ q, false)) := by
  unfold keyOf at *
  by_cases hf : f % 2 = 1
  · simp only [if_pos hf] at *; exact textSt_ext h q
  · simp only [if_neg hf]
theorem keyOf_bad {s : St} {f : Nat} (h : (keyOf f s).2.2 = false) : s.2 = false := by
  unfold keyOf at h
  by_cases hf : f % 2 = 1
  · rw [if_pos hf] at h; exact textSt_bad h
  · rw [if_neg hf] at h; exact h
theorem valOfS_ext {p : List UInt8} {f : Nat} (h : (valOfS f (p, false)).2.2 = false) (q : List UInt8) : valOfS f (p ++ q, false) = ((valOfS f (p, false)).1, ((valOfS f (p, false)).2.1 ++ q, false)) := by
  unfold valOfS at *
  by_cases hf : f / 2 % 2 = 1
  · simp only [if_pos hf]
  · simp only [if_neg hf] at *; exact textSt_ext h q
theorem valOfS_bad {s : St} {f : Nat} (h : (valOfS f s).2.2 = false) : s.2 = false := by
  unfold valOfS at h
  by_cases hf : f / 2 % 2 = 1
  · rw [if_pos hf] at h; exact h
  · rw [if_neg hf] at h; exact textSt_bad h

theorem st_eta {s : St} (h : s.2 = false) : s = (s.1, false) := by rw [← h]

theorem decRec_bad {base : Int} {s : St} (h : (decRec base s).2.2 = false) : s.2 = false :=
  numS_bad (numS_bad (numS_bad (flagS_bad (keyOf_bad (valOfS_bad h)))))
theorem decRec_ext {base : Int} {p : List UInt8} (h : (decRec base (p, false)).2.2 = false) (q : List UInt8) : decRec base (p ++ q, false) = ((decRec base (p, false)).1, ((decRec base (p, false)).2.1 ++ q, false)) := by
  have b5 := valOfS_bad h
  have b4 := keyOf_bad b5
  have b3 := flagS_bad b4
  have b2 := numS_bad b3
  have b1 := numS_bad b2
  unfold decRec at *
  simp only at *
  rw [st_eta b1] at b2
  simp only [numS_ext b1 q]
  generalize numS (p, false) = x1 at *
  obtain ⟨n1, l1, c1⟩ := x1
  simp only at *
  subst b1
  simp only [numS_ext b2 q]
  generalize numS (l1, false) = x2 at *
  obtain ⟨n2, l2, c2⟩ := x2
  simp only at *
  subst b2
  simp only [numS_ext b3 q]
  generalize numS (l2, false) = x3 at *
  obtain ⟨n3, l3, c3⟩ := x3
  simp only at *
  subst b3
  simp only [flagS_ext b4 q]
  generalize flagS n3 (l3, false) = x4 at *
  obtain ⟨l4, c4⟩ := x4
  simp only at *
  subst b4
  simp only [keyOf_ext b5 q]
  generalize keyOf n3 (l4, false) = x5 at *
  obtain ⟨k5, l5, c5⟩ := x5
  simp only at *
  subst b5
  simp only [valOfS_ext h q]
theorem decRecs_sound {base : Int} : ∀ {n : Nat} {s : St} {acc : List Rec}, (decRecs base n s acc).2.2 = false → s.2 = false
  | 0, _, _, h => h
  | n + 1, s, acc, h => by
    by_cases hb : s.2 = true
    · rw [decRecs_bad hb] at h; exact h
    · simpa using hb
theorem decRecs_ext {base : Int} (q : List UInt8) : ∀ {n : Nat} {p : List UInt8} {acc : List Rec}, (decRecs base n (p, false) acc).2.2 = false →
    decRecs base n (p ++ q, false) acc = ((decRecs base n (p, false) acc).1, ((decRecs base n (p, false) acc).2.1 ++ q, false))
  | 0, p, acc, _ => by simp [decRecs]
  | n + 1, p, acc, h => by
    rw [decRecs_on rfl] at h
    have hb := decRecs_sound h
    rw [decRecs_on rfl, decRecs_on rfl, decRec_ext hb q]
    rw [st_eta hb] at h ⊢
    exact decRecs_ext q h
theorem parse_ext {p : List UInt8} (h : (parse p).st.2 = false) (q : List UInt8) : parse (p ++ q) = ⟨(parse p).base, (parse p).len, (parse p).recs, ((parse p).st.1 ++ q, false)⟩ := by
  unfold parse at *
  simp only at *
  have b3 := decRecs_sound h
  have b2 := numS_bad b3
  have b1 := numS_bad b2
  simp only [numS_ext b1 q]
  generalize numS (p, false) = x1 at *
  obtain ⟨n1, l1, c1⟩ := x1
  simp only at *
  subst b1
  simp only [numS_ext b2 q]
  generalize numS (l1, false) = x2 at *
  obtain ⟨n2, l2, c2⟩ := x2
  simp only at *
  subst b2
  simp only [numS_ext b3 q]
  generalize numS (l2, false) = x3 at *
  obtain ⟨n3, l3, c3⟩ := x3
  simp only at *
  subst b3
  simp only [decRecs_ext q h]

/-- No beginning of a batch's body is one. -/
theorem parse_begin {base en : Int} {rs : List Rec} (h : checkB base en rs = 0) {p q : List UInt8} (hp : p ++ q = encBody base en rs) (hq : q ≠ []) : (parse p).good = false := by
  cases hg : (parse p).good with
  | false => rfl
  | true =>
    unfold Parsed.good at hg
    simp only [Bool.and_eq_true, Bool.not_eq_true', List.isEmpty_iff] at hg
    have he := parse_ext hg.1.1 q
    rw [hp, parse_enc h, hg.1.2] at he
    simp only [Parsed.mk.injEq, List.nil_append, Prod.mk.injEq] at he
    exact absurd he.2.2.2.1.symm hq

/-! The sum sees a byte that turned. -/
theorem cbit_inj {v u : Nat} (hv : v < 4294967296) (hu : u < 4294967296) (h : cbit v = cbit u) : v = u := by
  have top : ∀ x, x < 4294967296 → (x / 2).testBit 31 = false := fun x hx => Nat.testBit_lt_two_pow (by omega)
  have hp : (3988292384 : Nat).testBit 31 = true := by decide
  have cancel : ∀ a b : Nat, a ^^^ 3988292384 = b ^^^ 3988292384 → a = b := by
    intro a b hab
    have : (a ^^^ 3988292384) ^^^ 3988292384 = (b ^^^ 3988292384) ^^^ 3988292384 := by rw [hab]
    rwa [Nat.xor_assoc, Nat.xor_assoc, Nat.xor_self, Nat.xor_zero, Nat.xor_zero] at this
  unfold cbit at h
  by_cases h1 : v % 2 = 1 <;> by_cases h2 : u % 2 = 1
  · rw [if_pos h1, if_pos h2] at h
    have := cancel _ _ h
    omega
  · rw [if_pos h1, if_neg h2] at h
    have := congrArg (fun x => x.testBit 31) h
    simp [Nat.testBit_xor, top v hv, top u hu, hp] at this
  · rw [if_neg h1, if_pos h2] at h
    have := congrArg (fun x => x.testBit 31) h
    simp [Nat.testBit_xor, top v hv, top u hu, hp] at this
  · rw [if_neg h1, if_neg h2] at h
    omega
theorem cbits_inj (k : Nat) {v u : Nat} (hv : v < 4294967296) (hu : u < 4294967296) (h : cbits k v = cbits k u) : v = u := by
  induction k with
  | zero => exact h
  | succ k ih => exact ih (cbit_inj (cbits_lt k hv) (cbits_lt k hu) h)
theorem xor_left_inj {a b c : Nat} (h : a ^^^ b = a ^^^ c) : b = c := by
  have : a ^^^ (a ^^^ b) = a ^^^ (a ^^^ c) := by rw [h]
  rwa [← Nat.xor_assoc, ← Nat.xor_assoc, Nat.xor_self, Nat.zero_xor, Nat.zero_xor] at this
theorem cbyte_inj {v u : Nat} {c : UInt8} (hv : v < 4294967296) (hu : u < 4294967296) (h : cbyte v c = cbyte u c) : v = u := by
  have := cbits_inj 8 (xor_byte_lt c hv) (xor_byte_lt c hu) h
  rw [Nat.xor_comm v, Nat.xor_comm u] at this
  exact xor_left_inj this
theorem cbyte_inj_byte {v : Nat} {c d : UInt8} (hv : v < 4294967296) (h : cbyte v c = cbyte v d) : c = d := by
  have := cbits_inj 8 (xor_byte_lt c hv) (xor_byte_lt d hv) h
  exact UInt8.toNat_inj.1 (xor_left_inj this)
theorem fold_inj : ∀ (l : List UInt8) {v u : Nat}, v < 4294967296 → u < 4294967296 → l.foldl cbyte v = l.foldl cbyte u → v = u
  | [], _, _, _, _, h => h
  | c :: l, _, _, hv, hu, h => cbyte_inj hv hu (fold_inj l (cbyte_lt c hv) (cbyte_lt c hu) h)
theorem sum_set {l : List UInt8} {i : Nat} (hi : i < l.length) {d : UInt8} (h : sumOf (l.set i d) = sumOf l) : l[i] = d := by
  have h' := xor_left_inj h
  have e1 : l = l.take i ++ l[i] :: l.drop (i + 1) := by rw [List.getElem_cons_drop hi, List.take_append_drop]
  have e2 : l.set i d = l.take i ++ d :: l.drop (i + 1) := by rw [List.set_eq_take_append_cons_drop, if_pos hi]
  rw [e2] at h'
  unfold crc at h'
  conv at h' => rhs; rw [e1]
  simp only [List.foldl_append, List.foldl_cons] at h'
  have hc : (l.take i).foldl cbyte 4294967295 < 4294967296 := crc_lt (l.take i)
  exact (cbyte_inj_byte hc (fold_inj _ (cbyte_lt _ hc) (cbyte_lt _ hc) h')).symm

theorem fromB_four (n : Nat) (more : List UInt8) (h : n < 4294967296) : fromB (four n ++ more) = n := by
  unfold fromB four fourAt
  simp only [fromTo, List.cons_append, List.nil_append, List.getD_cons_zero, List.getD_cons_succ, UInt8.toNat_ofNat']
  omega
theorem fromB_eq (l : List UInt8) : fromB l = (((l.getD 0 0).toNat * 256 + (l.getD 1 0).toNat) * 256 + (l.getD 2 0).toNat) * 256 + (l.getD 3 0).toNat := by
  unfold fromB
  simp only [fromTo, Nat.zero_mul, Nat.zero_add]
theorem fromB_set {l : List UInt8} {i : Nat} (h4 : i < 4) (hi : i < l.length) {d : UInt8} (h : fromB (l.set i d) = fromB l) : l[i] = d := by
  rw [fromB_eq, fromB_eq] at h
  have hg : ∀ j, (l.set i d).getD j 0 = if i = j then d else l.getD j 0 := by
    intro j
    simp only [List.getD_eq_getElem?_getD, List.getElem?_set]
    by_cases e : i = j
    · subst e; simp [hi]
    · simp [e]
  have hl : l.getD i 0 = l[i] := by simp [List.getD_eq_getElem?_getD, hi]
  rw [hg, hg, hg, hg] at h
  have a0 := u8_lt (l.getD 0 0)
  have a1 := u8_lt (l.getD 1 0)
  have a2 := u8_lt (l.getD 2 0)
  have a3 := u8_lt (l.getD 3 0)
  have ad := u8_lt d
  apply UInt8.toNat_inj.1
  rw [← hl]
  have hc : i = 0 ∨ i = 1 ∨ i = 2 ∨ i = 3 := by omega
  rcases hc with rfl | rfl | rfl | rfl
  · simp at h ⊢; omega
  · simp at h ⊢; omega
  · simp at h ⊢; omega
  · simp at h ⊢; omega
theorem fromB_after {l : List UInt8} {i : Nat} (h4 : 4 ≤ i) (d : UInt8) : fromB (l.set i d) = fromB l := by
  have hg : ∀ j, j < 4 → (l.set i d).getD j 0 = l.getD j 0 := by
    intro j hj
    simp only [List.getD_eq_getElem?_getD, List.getElem?_set, if_neg (show ¬ i = j by omega)]
  rw [fromB_eq, fromB_eq, hg 0 (by omega), hg 1 (by omega), hg 2 (by omega), hg 3 (by omega)]

/-- A BYTE THAT TURNED IS SEEN. -/
theorem turned_seen {base en : Int} {rs : List Rec} (h : encErr base en rs = 0) {i : Nat} (hi : i < (encAll base en rs).length) {d : UInt8} (hd : (encAll base en rs)[i] ≠ d) : decErr ((encAll base en rs).set i d) ≠ 0 := by
  have hc : checkB base en rs = 0 := by
    unfold encErr at h
    by_cases hc : checkB base en rs = 0
    · exact hc
    · rw [if_pos (by simpa using hc)] at h; exact absurd h hc
  have h6 : 8 + (encBody base en rs).length ≤ 6000 := by
    unfold encErr at h
    rw [if_neg (by simpa using hc)] at h
    by_cases h6 : 6000 < 8 + (encBody base en rs).length
    · rw [if_pos h6] at h; cases h
    · omega
  have hlen : (encAll base en rs).length = 8 + (encBody base en rs).length := by unfold encAll; simp [four]; omega
  have hf : fromB (encAll base en rs) = 8 + (encBody base en rs).length := by
    unfold encAll; rw [List.append_assoc]; exact fromB_four _ _ (by omega)
  have hs : fromB ((encAll base en rs).drop 4) = sumOf (encBody base en rs) := by
    unfold encAll
    rw [List.append_assoc, List.drop_left' (by simp [four])]
    exact fromB_four _ _ (sumOf_lt _)
  have hb : (encAll base en rs).drop 8 = encBody base en rs := by
    unfold encAll
    exact List.drop_left' (by simp [four])
  generalize hL : encAll base en rs = L at *
  intro h0
  unfold decErr at h0
  by_cases g1 : (L.set i d).length < 8
  · rw [if_pos g1] at h0; cases h0
  rw [if_neg g1] at h0
  by_cases g2 : fromB (L.set i d) < 11 ∨ 6000 < fromB (L.set i d)
  · rw [if_pos g2] at h0; cases h0
  rw [if_neg g2] at h0
  by_cases g3 : (L.set i d).length < fromB (L.set i d)
  · rw [if_pos g3] at h0; cases h0
  rw [if_neg g3] at h0
  by_cases g4 : sumOf (((L.set i d).take (fromB (L.set i d))).drop 8) ≠ fromB ((L.set i d).drop 4)
  · rw [if_pos g4] at h0; cases h0
  rw [if_neg g4] at h0
  simp only [Decidable.not_not] at g4
  rw [List.length_set] at g1 g3
  by_cases hi4 : i < 4
  · -- the length
    have hne : fromB (L.set i d) ≠ fromB L := fun e => hd (fromB_set hi4 hi e)
    generalize fromB (L.set i d) = m at *
    have hsub : ((L.set i d).take m).drop 8 = (encBody base en rs).take (m - 8) := by
      rw [List.drop_take, List.drop_set_of_lt (by omega), hb]
    rw [hsub] at h0
    have hp : (parse ((encBody base en rs).take (m - 8))).good = false :=
      parse_begin hc (q := (encBody base en rs).drop (m - 8)) (List.take_append_drop _ _) (by
        intro e
        have := congrArg List.length e
        rw [List.length_drop, List.length_nil] at this
        omega)
    rw [hp] at h0
    simp at h0
  · have hm : fromB (L.set i d) = L.length := by rw [fromB_after (by omega), hf, hlen]
    rw [hm, List.take_of_length_le (by rw [List.length_set]; omega)] at g4
    by_cases hi8 : i < 8
    · -- the sum
      rw [List.drop_set_of_lt hi8, hb, ← hs, List.drop_set, if_neg (by omega)] at g4
      have := fromB_set (by omega) (by rw [List.length_drop]; omega) g4.symm
      rw [List.getElem_drop] at this
      exact hd (by rw [← this]; congr 1; omega)
    · -- the body
      have e : fromB ((L.set i d).drop 4) = fromB (L.drop 4) := by
        rw [List.drop_set, if_neg (by omega)]
        exact fromB_after (by omega) d
      have hbl : (encBody base en rs).length = L.length - 8 := by omega
      rw [e, hs, ← hb, List.drop_set, if_neg (by omega)] at g4
      have := sum_set (by rw [List.length_drop]; omega) g4
      rw [List.getElem_drop] at this
      exact hd (by rw [← this]; congr 1; omega)
end Go.Proofs.YtdjmifaidgbbaaaGreatDoor
