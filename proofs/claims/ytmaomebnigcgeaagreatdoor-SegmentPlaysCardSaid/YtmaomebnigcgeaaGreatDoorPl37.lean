/-
  The walk of the document's Check.
-/
import Derived.Test.YtmaomebnigcgeaaGreatDoorPl07
import Derived.Test.YtmaomebnigcgeaaGreatDoorProg
import Derived.Deep.LoopGhost
import Derived.Deep.CutRange
import Derived.Deep.QuietTactic
import Derived.BigQuiet
import Derived.Lib.Hide
import Derived.WalkKit
import Derived.WalkLawsBesides
import Derived.WalkSpells
import Derived.Outline
namespace Go.Proofs.YtmaomebnigcgeaaGreatDoor
open Go.RowKit

set_option maxHeartbeats 4000000 in
set_option maxRecDepth 100000 in
theorem refCheck_any (base en : Int) (a : Option Addr) (rs : List Rec) (cap : Nat) (w : World) (hb : -9223372036854775808 ≤ base ∧ base ≤ 9223372036854775807) (he : -9223372036854775808 ≤ en ∧ en ≤ 9223372036854775807) (hl : rs.length ≤ maxLen) (hok : ∀ r ∈ rs, Rec.Ok r) (hc : RecsAt w a rs) :
    Calls Tryz.prog 40 #[.agg #[.int .i64 base, .int .i64 en, .slice a rs.length cap]] w fun e w' => e = .returned (.int .i64 (checkB base en rs : Nat)) ∧ Chg Nil w w' := by
  unfold maxLen at hl
  by_cases h0 : base < 0
  · have HR : Hid (checkB base en rs = 2) := by unfold Hid checkB; rw [if_pos (.inl h0)]
    go_enter Tryz.func40, Tryz.ntmps40
    go_wp2
    go_ret
    exact ⟨by rw [HR.out]; rfl, (Chg.refl _ _).alloc _⟩
  · by_cases h1 : 1099511627776 < en
    · have HR : Hid (checkB base en rs = 2) := by unfold Hid checkB; rw [if_pos (.inr h1)]
      go_enter Tryz.func40, Tryz.ntmps40
      go_wp2
      go_ret
      exact ⟨by rw [HR.out]; rfl, (Chg.refl _ _).alloc _⟩
    · by_cases h2 : en ≤ base
      · have HR : Hid (checkB base en rs = 1) := by unfold Hid checkB; rw [if_neg (by omega), if_pos h2]
        go_enter Tryz.func40, Tryz.ntmps40
        go_wp2
        go_ret
        exact ⟨by rw [HR.out]; rfl, (Chg.refl _ _).alloc _⟩
      · by_cases h3 : 50 < rs.length
        · have HR : Hid (checkB base en rs = 4) := by unfold Hid checkB; rw [if_neg (by omega), if_neg (by omega), if_pos (.inl h3)]
          go_enter Tryz.func40, Tryz.ntmps40
          go_wp2
          go_ret
          exact ⟨by rw [HR.out]; rfl, (Chg.refl _ _).alloc _⟩
        · by_cases h4 : 50 < en - base
          · have HR : Hid (checkB base en rs = 4) := by unfold Hid checkB; rw [if_neg (by omega), if_neg (by omega), if_pos (.inr h4)]
            go_enter Tryz.func40, Tryz.ntmps40
            go_wp2
            go_ret
            exact ⟨by rw [HR.out]; rfl, (Chg.refl _ _).alloc _⟩
          · go_enter Tryz.func40, Tryz.ntmps40
            go_wp2
            have hc0 : BoxAt (w.alloc (.cells #[.int .i64 base, .int .i64 en, .slice a rs.length cap] 41)) w.heap.size [.int .i64 base, .int .i64 en, .slice a rs.length cap] := BoxAt.new _ _ _
            have hch0 : Chg Nil w (w.alloc (.cells #[.int .i64 base, .int .i64 en, .slice a rs.length cap] 41)) := (Chg.refl _ _).alloc _
            have hsz : w.heap.size < (w.alloc (.cells #[.int .i64 base, .int .i64 en, .slice a rs.length cap] 41)).heap.size := by simp
            generalize hbase : w.alloc (.cells #[.int .i64 base, .int .i64 en, .slice a rs.length cap] 41) = w1 at *
            clear hbase
            go_loopw [36] (fun i wr => ∃ (k : Nat) (last : Int), k ≤ rs.length ∧ i = .int .i64 k ∧ Hid (checkRecs en last (rs.drop k) = checkB base en rs) ∧ Chg Nil w1 wr ∧ base - 1 ≤ last ∧ last ≤ 1099511627776 ∧ Hid (k = 0 → last = base - 1) ∧ Hid (∀ j (hj : j < rs.length), k = j + 1 → rs[j].off = last)) (fun i _ => rs.length - (intOf i).toNat)
            case atStart => exact ⟨0, base - 1, Nat.zero_le _, rfl, by unfold checkB; rw [if_neg (by omega), if_neg (by omega), if_neg (by omega)]; rfl, Chg.refl _ _, by omega, by omega, fun _ => rfl, fun j _ h => by omega⟩
            case round =>
              obtain ⟨k, last, hk, rfl, HC, hch, hla, hlb, HZ0, HZ1⟩ := hrel
              by_cases hlt : k < rs.length
              · obtain ⟨b, off, rfl, hcell⟩ := RecsAt.chg hch (RecsAt.chg hch0 hc (fun _ _ h => h)) (fun _ _ h => h) k hlt
                have hbase : wr.cell? ⟨w.heap.size, 0, none⟩ = some (.int .i64 base) := hch.cell (hc0 0 _ rfl) (fun h => h)
                have hen : wr.cell? ⟨w.heap.size, 1, none⟩ = some (.int .i64 en) := hch.cell (hc0 1 _ rfl) (fun h => h)
                have hrs : wr.cell? ⟨w.heap.size, 2, none⟩ = some (.slice (some ⟨b, off, none⟩) rs.length cap) := hch.cell (hc0 2 _ rfl) (fun h => h)
                have g0 : wr.cell? ⟨b, off + k * 6, none⟩ = _ := hcell 0 _ rfl
                have g1 := hcell 1 _ rfl
                have g2 := hcell 2 _ rfl
                have g3 := hcell 3 _ rfl
                have g4 := hcell 4 _ rfl
                have g5 := hcell 5 _ rfl
                have hlt1 : w.heap.size < wr.heap.size := Nat.lt_of_lt_of_le hsz hch.size
                have hprev : k = 0 ∨ ∃ j, k = j + 1 ∧ wr.cell? ⟨b, off + j * 6, none⟩ = some (.int .i64 last) := by
                  rcases Nat.eq_zero_or_pos k with h | h
                  · exact .inl h
                  · obtain ⟨j, rfl⟩ : ∃ j, k = j + 1 := ⟨k - 1, by omega⟩
                    refine .inr ⟨j, rfl, ?_⟩
                    obtain ⟨b', off', hx, hcell'⟩ := RecsAt.chg hch (RecsAt.chg hch0 hc (fun _ _ h => h)) (fun _ _ h => h) j (by omega)
                    cases hx
                    have := hcell' 0 _ rfl
                    rw [HZ1.out j (by omega) rfl] at this
                    exact this
                have HPV := Lib.hid hprev
                have HD : Hid (checkRecs en last (rs.drop k) = if badArg last en rs[k] = true then 1 else if badLen rs[k] = true then 4 else if badTime rs[k] = true then 2 else checkRecs en rs[k].off (rs.drop (k + 1))) := by
                  unfold Hid
                  rw [← List.getElem_cons_drop hlt]
                  rfl
                have HNX : Hid (∀ j (hj : j < rs.length), k + 1 = j + 1 → rs[j].off = rs[k].off) := fun j hj h => by
                  obtain rfl : k = j := by omega
                  rfl
                have hrk := hok _ (List.getElem_mem hlt)
                clear hcell hc0 hc hprev HZ1
                generalize rs[k] = r at *
                obtain ⟨ro, rt, rk, rkey, rg, rval⟩ := r
                simp only at g0 g1 g2 g3 g4 g5
                have HRK := Lib.hid hrk
                clear hrk
                go_upto_region 10 with fail
                have hbx : BoxAt (wr.alloc (.cells #[.int .i64 ro, .int .i64 rt, .bool rk, .string rkey, .bool rg, .string rval] 55)) wr.heap.size (Rec.cells ⟨ro, rt, rk, rkey, rg, rval⟩) := BoxAt.new _ _ _
                have hal := (Chg.refl Nil wr).alloc (.cells #[.int .i64 ro, .int .i64 rt, .bool rk, .string rkey, .bool rg, .string rval] 55)
                have hchx : Chg Nil w1 (wr.alloc (.cells #[.int .i64 ro, .int .i64 rt, .bool rk, .string rkey, .bool rg, .string rval] 55)) := hch.alloc _
                have hbase2 := hal.cell hbase (fun h => h)
                have hen2 := hal.cell hen (fun h => h)
                have hrs2 := hal.cell hrs (fun h => h)
                have HPV2 : Hid (k = 0 ∨ ∃ j, k = j + 1 ∧ (wr.alloc (.cells #[.int .i64 ro, .int .i64 rt, .bool rk, .string rkey, .bool rg, .string rval] 55)).cell? ⟨b, off + j * 6, none⟩ = some (.int .i64 last)) := HPV.out.imp id fun ⟨j, h, hp⟩ => ⟨j, h, hal.cell hp (fun h => h)⟩
                clear hbase hen hrs g0 g1 g2 g3 g4 g5 hal HPV hlt1 hch
                generalize (wr.alloc (.cells #[.int .i64 ro, .int .i64 rt, .bool rk, .string rkey, .bool rg, .string rval] 55)) = wx at *
                generalize wr.heap.size = g at *
                have e0 := hbx 0 _ rfl
                have e1 := hbx 1 _ rfl
                have e2 := hbx 2 _ rfl
                have e3 := hbx 3 _ rfl
                have e4 := hbx 4 _ rfl
                have e5 := hbx 5 _ rfl
                simp only at e0 e1 e2 e3 e4 e5
                go_cut [4, 36, 87] from 37 to 106 (fun s4 s36 s87 wy => s4 = .pointer (some ⟨g, 0, none⟩) ∧ s36 = .int .i64 k ∧ s87 = .bool (badArg last en ⟨ro, rt, rk, rkey, rg, rval⟩) ∧ BoxAt wy g (Rec.cells ⟨ro, rt, rk, rkey, rg, rval⟩) ∧ Chg Nil w1 wy)
                case first =>
                  clear HC HD HNX h3 h4 hb he
                  by_cases ha1 : ro < base
                  · have hA1 : decide (ro ≤ last) = true := by simp; omega
                    clear HPV2 HZ0
                    go_quiet (fail)
                    go_wp2_with fail
                    go_meet
                    case rel => exact ⟨rfl, rfl, by simp [badArg, hA1], hbx.chg ((Chg.refl Nil _).drewN _) (fun h => h), hchx.drewN _⟩
                  · by_cases ha2 : en ≤ ro
                    · clear HPV2 HZ0
                      go_quiet (fail)
                      go_wp2_with fail
                      go_meet
                      case rel => exact ⟨rfl, rfl, by simp [badArg, ha2], hbx.chg ((Chg.refl Nil _).drewN _) (fun h => h), hchx.drewN _⟩
                    · have HA2 : Hid (decide (en ≤ ro) = false) := by unfold Hid; simp; omega
                      have hK : (rk = false ∧ rkey.toList.isEmpty = false) ∨ rk = true ∨ (rk = false ∧ rkey.toList.isEmpty = true) := by
                        cases rk <;> cases rkey.toList.isEmpty <;> simp
                      have hG : (rg = true ∧ rval.toList.isEmpty = false) ∨ rg = false ∨ (rg = true ∧ rval.toList.isEmpty = true) := by
                        cases rg <;> cases rval.toList.isEmpty <;> simp
                      rcases HPV2.out with hk0 | ⟨j, hkj, hp⟩
                      · have HA1 : Hid (decide (ro ≤ last) = false) := by unfold Hid; rw [HZ0.out hk0]; simp; omega
                        clear HZ0 HPV2
                        subst hk0
                        rcases hK with ⟨rfl, he1⟩ | hK
                        · go_quiet (fail)
                          go_wp2_with fail
                          go_meet
                          case rel => exact ⟨rfl, rfl, by simp [badArg, HA1.out, HA2.out, he1], hbx.chg ((Chg.refl Nil _).drewN _) (fun h => h), hchx.drewN _⟩
                        · rcases hG with ⟨rfl, he2⟩ | rfl | ⟨rfl, he2⟩
                          · rcases hK with rfl | ⟨rfl, he1⟩
                            · go_quiet (fail)
                              go_wp2_with fail
                              go_meet
                              case rel => exact ⟨rfl, rfl, by simp [badArg, HA1.out, HA2.out, he2], hbx.chg ((Chg.refl Nil _).drewN _) (fun h => h), hchx.drewN _⟩
                            · go_quiet (fail)
                              go_wp2_with fail
                              go_meet
                              case rel => exact ⟨rfl, rfl, by simp [badArg, HA1.out, HA2.out, he1, he2], hbx.chg ((Chg.refl Nil _).drewN _) (fun h => h), hchx.drewN _⟩
                          · rcases hK with rfl | ⟨rfl, he1⟩
                            · go_quiet (fail)
                              go_wp2_with fail
                              go_meet
                              case rel => exact ⟨rfl, rfl, by simp [badArg, HA1.out, HA2.out], hbx.chg ((Chg.refl Nil _).drewN _) (fun h => h), hchx.drewN _⟩
                            · go_quiet (fail)
                              go_wp2_with fail
                              go_meet
                              case rel => exact ⟨rfl, rfl, by simp [badArg, HA1.out, HA2.out, he1], hbx.chg ((Chg.refl Nil _).drewN _) (fun h => h), hchx.drewN _⟩
                          · rcases hK with rfl | ⟨rfl, he1⟩
                            · go_quiet (fail)
                              go_wp2_with fail
                              go_meet
                              case rel => exact ⟨rfl, rfl, by simp [badArg, HA1.out, HA2.out, he2], hbx.chg ((Chg.refl Nil _).drewN _) (fun h => h), hchx.drewN _⟩
                            · go_quiet (fail)
                              go_wp2_with fail
                              go_meet
                              case rel => exact ⟨rfl, rfl, by simp [badArg, HA1.out, HA2.out, he1, he2], hbx.chg ((Chg.refl Nil _).drewN _) (fun h => h), hchx.drewN _⟩
                      · subst hkj
                        clear HPV2 HZ0
                        have hd : (0 : Int) < ((j + 1 : Nat) : Int) := by omega
                        have hjl : (j : Int) < (rs.length : Int) := by omega
                        by_cases ha3 : ro ≤ last
                        · go_quiet (fail)
                          go_wp2_with fail
                          go_meet
                          case rel => exact ⟨rfl, rfl, by simp [badArg, ha3], hbx.chg ((Chg.refl Nil _).drewN _) (fun h => h), hchx.drewN _⟩
                        · have HA1 : Hid (decide (ro ≤ last) = false) := by unfold Hid; simp; omega
                          rcases hK with ⟨rfl, he1⟩ | hK
                          · go_quiet (fail)
                            go_wp2_with fail
                            go_meet
                            case rel => exact ⟨rfl, rfl, by simp [badArg, HA1.out, HA2.out, he1], hbx.chg ((Chg.refl Nil _).drewN _) (fun h => h), hchx.drewN _⟩
                          · rcases hG with ⟨rfl, he2⟩ | rfl | ⟨rfl, he2⟩
                            · rcases hK with rfl | ⟨rfl, he1⟩
                              · go_quiet (fail)
                                go_wp2_with fail
                                go_meet
                                case rel => exact ⟨rfl, rfl, by simp [badArg, HA1.out, HA2.out, he2], hbx.chg ((Chg.refl Nil _).drewN _) (fun h => h), hchx.drewN _⟩
                              · go_quiet (fail)
                                go_wp2_with fail
                                go_meet
                                case rel => exact ⟨rfl, rfl, by simp [badArg, HA1.out, HA2.out, he1, he2], hbx.chg ((Chg.refl Nil _).drewN _) (fun h => h), hchx.drewN _⟩
                            · rcases hK with rfl | ⟨rfl, he1⟩
                              · go_quiet (fail)
                                go_wp2_with fail
                                go_meet
                                case rel => exact ⟨rfl, rfl, by simp [badArg, HA1.out, HA2.out], hbx.chg ((Chg.refl Nil _).drewN _) (fun h => h), hchx.drewN _⟩
                              · go_quiet (fail)
                                go_wp2_with fail
                                go_meet
                                case rel => exact ⟨rfl, rfl, by simp [badArg, HA1.out, HA2.out, he1], hbx.chg ((Chg.refl Nil _).drewN _) (fun h => h), hchx.drewN _⟩
                            · rcases hK with rfl | ⟨rfl, he1⟩
                              · go_quiet (fail)
                                go_wp2_with fail
                                go_meet
                                case rel => exact ⟨rfl, rfl, by simp [badArg, HA1.out, HA2.out, he2], hbx.chg ((Chg.refl Nil _).drewN _) (fun h => h), hchx.drewN _⟩
                              · go_quiet (fail)
                                go_wp2_with fail
                                go_meet
                                case rel => exact ⟨rfl, rfl, by simp [badArg, HA1.out, HA2.out, he1, he2], hbx.chg ((Chg.refl Nil _).drewN _) (fun h => h), hchx.drewN _⟩
                case rest =>
                  clear hchx hbx e0 e1 e2 e3 e4 e5 hbase2 hen2 hrs2 HPV2 HZ0
                  obtain ⟨rfl, rfl, rfl, hbx, hch⟩ := hcut
                  have e0 := hbx 0 _ rfl
                  have e1 := hbx 1 _ rfl
                  have e3 := hbx 3 _ rfl
                  have e5 := hbx 5 _ rfl
                  simp only at e0 e1 e3 e5
                  clear h3 hb he
                  cases hA : badArg last en ⟨ro, rt, rk, rkey, rg, rval⟩
                  case true =>
                    have HR : Hid (checkB base en rs = 1) := by rw [← HC.out, HD.out, if_pos hA]; rfl
                    clear hA
                    go_wp2_with fail
                    go_ret
                    exact ⟨by rw [HR.out]; rfl, hch0.trans hch (fun _ h => h.elim)⟩
                  case false =>
                    have HA := Lib.hid hA
                    clear hA
                    have hk1 : rkey.size ≤ maxLen := HRK.out.key
                    have hk2 : rval.size ≤ maxLen := HRK.out.value
                    unfold maxLen at hk1 hk2
                    go_upto_region 12 with fail
                    go_cut [4, 36, 97] from 88 to 106 (fun s4 s36 s97 wy => s4 = .pointer (some ⟨g, 0, none⟩) ∧ s36 = .int .i64 k ∧ s97 = .bool (badLen ⟨ro, rt, rk, rkey, rg, rval⟩) ∧ wy = wc)
                    case first =>
                      by_cases hl1 : 60 < rkey.size
                      · have HL : Hid (badLen ⟨ro, rt, rk, rkey, rg, rval⟩ = true) := by simp [badLen, Hid, hl1]
                        go_wp2_with fail
                        go_meet
                        case rel => exact ⟨rfl, rfl, by rw [HL.out], rfl⟩
                      · by_cases hl2 : 500 < rval.size
                        · have HL : Hid (badLen ⟨ro, rt, rk, rkey, rg, rval⟩ = true) := by simp [badLen, Hid, hl2]
                          go_wp2_with fail
                          go_meet
                          case rel => exact ⟨rfl, rfl, by rw [HL.out]; congr 1; simp; omega, rfl⟩
                        · have HL : Hid (badLen ⟨ro, rt, rk, rkey, rg, rval⟩ = false) := by simp only [badLen, Hid, Bool.or_eq_false_iff, decide_eq_false_iff_not]; exact ⟨hl1, hl2⟩
                          go_wp2_with fail
                          go_meet
                          case rel => exact ⟨rfl, rfl, by rw [HL.out]; congr 1; simp; omega, rfl⟩
                    case rest =>
                      obtain ⟨rfl, rfl, rfl, rfl⟩ := hcut
                      cases hB : badLen ⟨ro, rt, rk, rkey, rg, rval⟩
                      case true =>
                        have HR : Hid (checkB base en rs = 4) := by rw [← HC.out, HD.out, if_neg (by rw [HA.out]; simp), if_pos hB]; rfl
                        clear hB
                        go_wp2_with fail
                        go_ret
                        exact ⟨by rw [HR.out]; rfl, hch0.trans hch (fun _ h => h.elim)⟩
                      case false =>
                        have HB := Lib.hid hB
                        clear hB
                        by_cases ht1 : rt < 0
                        · have HR : Hid (checkB base en rs = 2) := by rw [← HC.out, HD.out, if_neg (by rw [HA.out]; simp), if_neg (by rw [HB.out]; simp), if_pos (by simp [badTime, ht1])]; rfl
                          go_wp2_with fail
                          go_ret
                          exact ⟨by rw [HR.out]; rfl, hch0.trans hch (fun _ h => h.elim)⟩
                        · by_cases ht2 : 1099511627776 < rt
                          · have HR : Hid (checkB base en rs = 2) := by rw [← HC.out, HD.out, if_neg (by rw [HA.out]; simp), if_neg (by rw [HB.out]; simp), if_pos (by simp [badTime, ht2])]; rfl
                            go_wp2_with fail
                            go_ret
                            exact ⟨by rw [HR.out]; rfl, hch0.trans hch (fun _ h => h.elim)⟩
                          · have HN : Hid (checkRecs en ro (rs.drop (k + 1)) = checkB base en rs) := by
                              rw [← HC.out, HD.out, if_neg (by rw [HA.out]; simp), if_neg (by rw [HB.out]; simp), if_neg (by simp only [badTime, Bool.or_eq_true, decide_eq_true_eq]; omega)]; rfl
                            have hro : last < ro ∧ ro < en := by
                              have := HA.out
                              simp only [badArg, Bool.or_eq_false_iff, decide_eq_false_iff_not] at this
                              exact ⟨by omega, by omega⟩
                            go_wp2_with fail
                            go_roundw
                            case rel => exact ⟨k + 1, ro, by omega, by go_num, HN.out, hch, by omega, by omega, fun h => by omega, HNX.out⟩
                            case measure => simp [intOf]; omega
              · have HZ : Hid (checkB base en rs = 0) := by
                  rw [← HC.out, List.drop_of_length_le (by omega)]; rfl
                clear HZ1 HZ0
                go_wp2_with fail
                go_ret
                exact ⟨by rw [HZ.out]; rfl, hch0.trans hch (fun _ h => h.elim)⟩
end Go.Proofs.YtmaomebnigcgeaaGreatDoor
