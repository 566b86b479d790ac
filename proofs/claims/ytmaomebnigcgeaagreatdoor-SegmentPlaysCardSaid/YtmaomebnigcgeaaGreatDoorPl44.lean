/-
  The case Since of the walk of SegmentPlays. (Closed facts of the kernel apart: KRAUX. Made by mkcase.py.)
-/
import Derived.Test.YtmaomebnigcgeaaGreatDoorPl42
import Derived.Deep.CutBlock
import Derived.Deep.CutRange
import Derived.Deep.DeepCutAuto
set_option linter.unusedSimpArgs false
set_option linter.unusedVariables false
namespace Go.Proofs.YtmaomebnigcgeaaGreatDoor
open Go.RowKit Go.Maps

set_option maxHeartbeats 0 in
set_option maxRecDepth 1000000 in
/-- Since. -/
theorem sp_since {w w6 : World} {p q r s gx bn : Nat} {fn : Nm} {S : Nat → Prop} {v vq : Value} {d : Dk} {g : Sg} {ms : List Bm} {xw xA xB bb be : Int} {ra : Option Addr} {rc : Nat} {brs : List Rec}
    {c2 c3 c4 c5 c6 c8 c10 c11 c12 c13 c15 c17 c18 c19 c20 c21 c22 c23 c24 c25 c26 c27 c28 c29 c30 c31 c32 c33 c34 c35 c36 c37 c38 c39 c40 c41 c42 c43 c44 c45 c46 c47 c48 c49 c50 c51 c52 c53 c54 c55 c56 c57 c58 c59 c60 c61 c62 c63 c64 c65 c66 c67 c68 c69 c70 c71 c72 c73 c74 c75 c76 c77 c78 c79 c80 c81 c82 c83 c84 c85 c86 c87 c88 c89 c90 c91 c92 c93 c94 c95 c96 c97 c98 c100 c101 c102 c103 c104 c105 c106 c107 c108 c109 c110 c111 c112 c113 c114 c115 c116 c117 c118 c119 c120 c121 c122 c123 c124 c125 c126 c127 c128 c129 c130 c131 c132 c133 c134 c135 c136 c137 c138 c139 c140 c141 c142 c143 c144 c145 c146 c147 c148 c149 c150 c151 c152 c153 c154 c155 c156 c157 c158 c159 c160 c161 c162 c163 c164 c165 c166 c167 c168 c169 c170 c171 c172 c173 c174 c175 c176 c177 c178 c179 c180 c181 c182 c183 c184 c185 c186 c187 c188 c189 c190 c191 c192 c193 c194 c195 c196 c197 c198 c199 c200 c201 c202 c203 c204 c205 c206 c207 c208 c209 c210 c211 c212 c213 c214 c215 c216 c217 c218 c219 c220 c221 c222 c223 c224 c225 c226 c227 c228 c229 c230 c231 c232 c233 c234 c235 c236 c237 c238 c239 c240 c241 c242 c243 c244 c245 c246 c247 c248 c249 c250 c251 c252 c253 c254 c255 c256 c257 c258 c259 c260 c261 c262 c263 c264 c265 c266 c267 c268 c269 c270 c271 c272 c273 c274 c275 c276 c277 c278 c279 c280 c281 c282 c283 c284 c285 c286 c287 c288 c289 c290 c291 c292 c293 c294 c295 c296 c297 c298 c299 c300 c301 c302 c303 c304 c305 c306 c307 c308 c309 c310 c311 c312 c313 c314 c315 c316 c317 c318 c319 c320 c321 c322 c323 : Value} {J K : Act → World → Prop} {Q : Exit → Act → World → Prop} (C : Code) (hC : (Tryz.f3.body).bind (findB 2) = some C)
    (HFL : Hid (fn.length ≤ 900)) (HRR : Hid (r ≤ 1048576)) (HSD6 : Hid (SdS w.heap.size w6 p s q r fn (bn : Nat) S v vq d g ms)) (HC6 : Hid (Chg Nil w w6))
    (HBX : Hid (Box w6 gx [.int .i64 xw, .int .i64 xA, .int .i64 xB, .int .i64 bb, .int .i64 be, .slice ra brs.length rc] 43)) (hw2 : xw = 2)
    (hJ : ∀ (a' : Act) (w' : World), (∃ u6 u9 u17 u18 u19 u20 u21 u22 u23 u24 u25 u26 u27 u28 u88 u89 u90 u91 u92 u93 u94 u95 u96 u97 u98 u100 u101 u102 u103 u104 u105 u106 u107 u108 u109 u110 u111 u112 u113 u114 u115 u116 u117 u118 u119 u120 u121 u122 u123 u124 u125 u126 u127 u128 u129 u130 u131 u132 u133 u134 u135 u136 u137 u138 u139 u140 u141 u142 u143 u144 u145 u146 u147 u148 u149 u150 u151 u152 u153 u154 u155 u156 u157 u158 u159 u160 u161 u162 u163 u164 u165 u166 u167 u168 u169 u170 u171 u172 u173 u174 u175 u176 u177 u178 u179 u180 u181 u182 u183 u184 u185 u186 u187 u188 u189 u190 u191 u192 u193 u194 u195 u196 u197 u198 u199 u200 u201 u202 u203 u204 u205 u206 u207 u208 u209 u210 u211 u212 u213 u214 u215 u216 u217 u218 u219 u220 u221 u222 u223 u224 u225 u226 u227 u228 u229 u230 u231 u232 u233 u234 u235 u236 u237 u238 u239 u240 u241 u242 u243 u244 u245 u246 u247 u248 u249 u250 u251 u252 u253 u254 u255 u256 u257 u258 u259 u260 u261 u262 u263 u264 u265 u266 u267 u268 u269 u270 u271 u272 u273 u274 u275 u276 u277 u278 u279 u280 u281 u282 u283 u284 u285 u286 u287 u288 u289 u290 u291 u292 u293 u294 u295 u296 u297 u298 u299 u300 u301 u302 u303 u304 u305 u306 u307 u308 u309 u310 u311 u312 u313 u314 u315 : Value, (∃ (s : Nat) (S : Nat → Prop) (v vq : Value) (d : Dk) (g : Sg) (ms : List Bm), u9 = .pointer (some ⟨s, 0, none⟩) ∧ SdS w.heap.size w' p s q r fn (bn : Nat) S v vq d g ms ∧ Chg Nil w w') ∧ a' = ⟨#[.int .i64 (bn : Nat), .int .i64 (r : Nat), c2, c3, c4, c5, u6, .pointer (some ⟨p, 0, none⟩), c8, u9, c10, c11, c12, c13, .pointer (some ⟨q, 0, none⟩), 
      c15, .pointer (some ⟨gx, 0, none⟩), u17, u18, u19, u20, u21, u22, u23, u24, u25, u26, u27, u28, c29, c30, c31, c32, c33, c34, c35, c36, c37, c38, c39, 
      c40, c41, c42, c43, c44, c45, c46, c47, c48, c49, c50, c51, c52, c53, c54, c55, c56, c57, c58, c59, c60, c61, c62, c63, c64, c65, c66, c67, c68, c69, c70, 
      c71, c72, c73, c74, c75, c76, c77, c78, c79, c80, c81, c82, c83, c84, c85, c86, c87, u88, u89, u90, u91, u92, u93, u94, u95, u96, u97, u98, .int .i64 xw, 
      u100, u101, u102, u103, u104, u105, u106, u107, u108, u109, u110, u111, u112, u113, u114, u115, u116, u117, u118, u119, u120, u121, u122, u123, u124, u125, 
      u126, u127, u128, u129, u130, u131, u132, u133, u134, u135, u136, u137, u138, u139, u140, u141, u142, u143, u144, u145, u146, u147, u148, u149, u150, u151, 
      u152, u153, u154, u155, u156, u157, u158, u159, u160, u161, u162, u163, u164, u165, u166, u167, u168, u169, u170, u171, u172, u173, u174, u175, u176, u177, 
      u178, u179, u180, u181, u182, u183, u184, u185, u186, u187, u188, u189, u190, u191, u192, u193, u194, u195, u196, u197, u198, u199, u200, u201, u202, u203, 
      u204, u205, u206, u207, u208, u209, u210, u211, u212, u213, u214, u215, u216, u217, u218, u219, u220, u221, u222, u223, u224, u225, u226, u227, u228, u229, 
      u230, u231, u232, u233, u234, u235, u236, u237, u238, u239, u240, u241, u242, u243, u244, u245, u246, u247, u248, u249, u250, u251, u252, u253, u254, u255, 
      u256, u257, u258, u259, u260, u261, u262, u263, u264, u265, u266, u267, u268, u269, u270, u271, u272, u273, u274, u275, u276, u277, u278, u279, u280, u281, 
      u282, u283, u284, u285, u286, u287, u288, u289, u290, u291, u292, u293, u294, u295, u296, u297, u298, u299, u300, u301, u302, u303, u304, u305, u306, u307, 
      u308, u309, u310, u311, u312, u313, u314, u315, c316, c317, c318, c319, c320, c321, c322, c323], []⟩) → J a' w')
    (hK : ∀ (a' : Act) (w' : World), Met J a' w' → K a' w') :
    Code.wp Tryz.prog C (Exit.then K Q) ⟨#[.int .i64 (bn : Nat), .int .i64 (r : Nat), c2, c3, c4, c5, c6, .pointer (some ⟨p, 0, none⟩), c8, .pointer (some ⟨s, 0, none⟩), c10, c11, c12, c13, .pointer (some ⟨q, 0, none⟩), 
      c15, .pointer (some ⟨gx, 0, none⟩), c17, c18, c19, c20, c21, c22, c23, c24, c25, c26, c27, c28, c29, c30, c31, c32, c33, c34, c35, c36, c37, c38, c39, 
      c40, c41, c42, c43, c44, c45, c46, c47, c48, c49, c50, c51, c52, c53, c54, c55, c56, c57, c58, c59, c60, c61, c62, c63, c64, c65, c66, c67, c68, c69, c70, 
      c71, c72, c73, c74, c75, c76, c77, c78, c79, c80, c81, c82, c83, c84, c85, c86, c87, c88, c89, c90, c91, c92, c93, c94, c95, c96, c97, c98, .int .i64 xw, 
      c100, c101, c102, c103, c104, c105, c106, c107, c108, c109, c110, c111, c112, c113, c114, c115, c116, c117, c118, c119, c120, c121, c122, c123, c124, c125, 
      c126, c127, c128, c129, c130, c131, c132, c133, c134, c135, c136, c137, c138, c139, c140, c141, c142, c143, c144, c145, c146, c147, c148, c149, c150, c151, 
      c152, c153, c154, c155, c156, c157, c158, c159, c160, c161, c162, c163, c164, c165, c166, c167, c168, c169, c170, c171, c172, c173, c174, c175, c176, c177, 
      c178, c179, c180, c181, c182, c183, c184, c185, c186, c187, c188, c189, c190, c191, c192, c193, c194, c195, c196, c197, c198, c199, c200, c201, c202, c203, 
      c204, c205, c206, c207, c208, c209, c210, c211, c212, c213, c214, c215, c216, c217, c218, c219, c220, c221, c222, c223, c224, c225, c226, c227, c228, c229, 
      c230, c231, c232, c233, c234, c235, c236, c237, c238, c239, c240, c241, c242, c243, c244, c245, c246, c247, c248, c249, c250, c251, c252, c253, c254, c255, 
      c256, c257, c258, c259, c260, c261, c262, c263, c264, c265, c266, c267, c268, c269, c270, c271, c272, c273, c274, c275, c276, c277, c278, c279, c280, c281, 
      c282, c283, c284, c285, c286, c287, c288, c289, c290, c291, c292, c293, c294, c295, c296, c297, c298, c299, c300, c301, c302, c303, c304, c305, c306, c307, 
      c308, c309, c310, c311, c312, c313, c314, c315, c316, c317, c318, c319, c320, c321, c322, c323], []⟩ w6 := by
  conv at hC => lhs; whnf
  obtain rfl := Option.some.inj hC
  clear hC
  have hw0b : (xw == 0) = false := by rw [hw2]; rfl
  have hw1b : (xw == 1) = false := by rw [hw2]; rfl
  have hw2t : (xw == 2) = true := beq_iff_eq.2 hw2
  have x1 := HBX.out.cell (j := 1) rfl
  have HSI : Hid (Calls Tryz.prog 14 #[.pointer (some ⟨s, 0, none⟩), .int .i64 xA] w6 fun e w' => e = .returned (sinceV (sinceL (ms.map Bm.b) xA)) ∧ Chg Nil w6 w') := by
    obtain ⟨sf, hf⟩ := HSD6.out.one.find
    rw [← HSD6.out.name] at hf
    exact ssince_any HSD6.out.sg (by rw [HSD6.out.name]; have := HFL.out; omega) _ HSD6.out.of sf hf xA
  obtain ⟨kv, okv, hsv⟩ := sinceV_form (sinceL (ms.map Bm.b) xA)
  rw [hsv] at HSI
  have HSV := Lib.hid hsv
  clear hw2 hsv
  go_wp2_with fail
  refine HSI.out.mono ?_
  rintro e w7 ⟨rfl, hc7⟩
  go_simp
  have HC7 := Lib.hid (HC6.out.trans hc7 (fun _ h => h.elim))
  have HSD7 := Lib.hid (HSD6.out.nil hc7)
  have HBX7 := Lib.hid (HBX.out.chg hc7 (fun h => h))
  clear hc7 x1 HSI
  obtain ⟨oa, oc, hv, _, hcell⟩ := HSD7.out.sq.o.val
  subst hv
  have HCELL := Lib.hid hcell
  have HFW : Hid (∀ m ∈ ms, m.b.rs.length ≤ 1000000) := fun m hm => by have := (HSD7.out.of.ok m.b (List.mem_map.2 ⟨m, hm, rfl⟩)).nums.few; omega
  have HRS0 : Hid (∀ m ∈ ms, RecsAt w7 m.ra m.b.rs) := HSD7.out.sq.r
  have hle : ms.length ≤ 99999 := HSD7.out.few HRR.out
  have HLE := Lib.hid hle
  clear hcell hle
  go_wp2_with fail
  go_loopw [21, 22, 23] (fun nv iv jv wr => ∃ (wq : World) (j : Nat) (n : Int) (is : Bool), wq = wr ∧ j ≤ ms.length ∧ nv = .int .i64 n ∧ iv = .bool is ∧ jv = .int .i64 j ∧ SiS (ms.map Bm.b) xA j 0 n is ∧ Chg Nil w7 wr) (fun _ _ jv _ => ms.length - (RowKit.intOf jv).toNat)
  case atStart => exact ⟨_, 0, -1, false, rfl, Nat.zero_le _, rfl, rfl, rfl, SiS.start, Chg.refl _ _⟩
  case round =>
    obtain ⟨wr, j, n, is, rfl, hj, rfl, rfl, rfl, hsi, hc⟩ := hrel
    have HSI := Lib.hid hsi
    have HC := Lib.hid hc
    have q1 := HC.out.cell (HSD7.out.sq.c.cell (j := 1) rfl) (fun h => h)
    clear hsi hc
    by_cases hex : is = true ∨ ms.length ≤ j
    · obtain ⟨rfl, hk1, hk2⟩ := HSI.out.fin (by rw [List.length_map]; exact hex) HSV.out
      cases okv with
      | true =>
        obtain rfl := hk1 rfl
        have e5 : (kv == kv) = true := beq_self_eq_true _
        clear hk1 hk2 hex
        by_cases hjl : (j : Int) < (ms.length : Int)
        · go_wp2_with fail
          go_meet
          case rel => exact ⟨_, _, _, _, _, _, _, rfl, HSD7.out.nil HC.out, HC7.out.trans HC.out (fun _ h => h.elim)⟩
        · go_wp2_with fail
          go_meet
          case rel => exact ⟨_, _, _, _, _, _, _, rfl, HSD7.out.nil HC.out, HC7.out.trans HC.out (fun _ h => h.elim)⟩
      | false =>
        obtain rfl := hk2 rfl
        have hjl : ¬ (j : Int) < (ms.length : Int) := by have := hex.resolve_left (by decide); omega
        clear hk1 hk2 hex
        go_wp2_with fail
        go_meet
        case rel => exact ⟨_, _, _, _, _, _, _, rfl, HSD7.out.nil HC.out, HC7.out.trans HC.out (fun _ h => h.elim)⟩
    · obtain ⟨his, hjl⟩ := not_or.1 hex
      obtain rfl : is = false := by simpa using his
      have hjl : j < ms.length := by omega
      have hjj : (j : Int) < (ms.length : Int) := by omega
      have hj64 : wrap64 ((j : Int) + 1) = (j : Int) + 1 := by have := HLE.out; unfold wrap64; omega
      obtain ⟨b, rfl, hz⟩ := HCELL.out j hjl
      have HB : Hid ((ms.map Bm.b)[j]? = some ms[j].b) := by unfold Hid; rw [List.getElem?_map, List.getElem?_eq_getElem hjl]; rfl
      have hmem := List.getElem_mem hjl
      have hrs := HRS0.out _ hmem
      have hfw := HFW.out _ hmem
      obtain ⟨m, hm⟩ : ∃ m, m = ms[j] := ⟨_, rfl⟩
      rw [← hm] at hz HB hrs hfw
      clear hm hmem his hex hj
      obtain ⟨⟨bb2, be2, brs2⟩, ra2, rc2⟩ := m
      have hrs : RecsAt w7 ra2 brs2 := hrs
      have hfw : brs2.length ≤ 1000000 := hfw
      have HRS := Lib.hid hrs
      have HB : Hid ((ms.map Bm.b)[j]? = some ⟨bb2, be2, brs2⟩) := HB
      have HJL := Lib.hid hjl
      have HZ2 := Lib.hid (hz 2 _ rfl)
      clear hz hrs hjl
      go_wp2_with fail
      clear q1
      go_loopw [21, 22, 24] (fun nv iv mv wr => ∃ (wq : World) (m : Nat) (n : Int) (is : Bool), wq = wr ∧ m ≤ brs2.length ∧ nv = .int .i64 n ∧ iv = .bool is ∧ mv = .int .i64 m ∧ SiS (ms.map Bm.b) xA j m n is ∧ Chg Nil w7 wr) (fun _ _ mv _ => brs2.length - (RowKit.intOf mv).toNat)
      case atStart => exact ⟨_, 0, n, false, rfl, Nat.zero_le _, rfl, rfl, rfl, HSI.out, HC.out⟩
      case round =>
        obtain ⟨w8, m, n2, is, rfl, hm, rfl, rfl, rfl, hsi8, hc8⟩ := hrel
        have HSI8 := Lib.hid hsi8
        have HC8 := Lib.hid hc8
        have q1 := HC8.out.cell (HSD7.out.sq.c.cell (j := 1) rfl) (fun h => h)
        have z2 := HC8.out.cell HZ2.out (fun h => h)
        clear hsi8 hc8
        by_cases hex : is = true ∨ brs2.length ≤ m
        · have HNX := Lib.hid (HSI8.out.next HB.out hex)
          cases is with
          | true =>
            clear hex
            by_cases hml : (m : Int) < (brs2.length : Int)
            · go_wp2_with fail
              go_roundw
              case rel => exact ⟨_, j + 1, n2, true, rfl, HJL.out, rfl, rfl, by go_num, HNX.out, HC8.out⟩
              case measure => rw [hj64]; exact meas_two HJL.out
            · go_wp2_with fail
              go_roundw
              case rel => exact ⟨_, j + 1, n2, true, rfl, HJL.out, rfl, rfl, by go_num, HNX.out, HC8.out⟩
              case measure => rw [hj64]; exact meas_two HJL.out
          | false =>
            have hml : ¬ (m : Int) < (brs2.length : Int) := by have := hex.resolve_left (by decide); omega
            clear hex
            go_wp2_with fail
            go_roundw
            case rel => exact ⟨_, j + 1, n2, false, rfl, HJL.out, rfl, rfl, by go_num, HNX.out, HC8.out⟩
            case measure => rw [hj64]; exact meas_two HJL.out
        · obtain ⟨his, hml⟩ := not_or.1 hex
          obtain rfl : is = false := by simpa using his
          have hml : m < brs2.length := by omega
          have hmm : (m : Int) < (brs2.length : Int) := by omega
          obtain ⟨rb, off, hra, hcell⟩ := HRS.out m hml
          subst hra
          have HR : Hid (brs2[m]? = some brs2[m]) := List.getElem?_eq_getElem hml
          obtain ⟨rr, hrr⟩ : ∃ rr, rr = brs2[m] := ⟨_, rfl⟩
          rw [← hrr] at hcell HR
          have HML := Lib.hid hml
          clear hrr his hex hml hm
          obtain ⟨qo, qt2, qk, qkey, qg, qv⟩ := rr
          have z0 := HC8.out.cell (hcell 0 _ rfl) (fun h => h)
          have z1 := HC8.out.cell (hcell 1 _ rfl) (fun h => h)
          have z9 := HC8.out.cell (hcell 2 _ rfl) (fun h => h)
          have z3 := HC8.out.cell (hcell 3 _ rfl) (fun h => h)
          have z4 := HC8.out.cell (hcell 4 _ rfl) (fun h => h)
          have z5 := HC8.out.cell (hcell 5 _ rfl) (fun h => h)
          rw [Nat.add_zero] at z0
          clear hcell
          have hbr := Box.new w8 [.int .i64 qo, .int .i64 qt2, .bool qk, .string qkey, .bool qg, .string qv] 55
          have halr := (Chg.refl Nil w8).alloc (.cells #[.int .i64 qo, .int .i64 qt2, .bool qk, .string qkey, .bool qg, .string qv] 55)
          go_upto_region 41 with fail
          clear z0 z1 z2 z3 z4 z5 z9 q1
          have hbr : Box (w8.alloc (.cells #[.int .i64 qo, .int .i64 qt2, .bool qk, .string qkey, .bool qg, .string qv] 55)) w8.heap.size [.int .i64 qo, .int .i64 qt2, .bool qk, .string qkey, .bool qg, .string qv] 55 := hbr
          have HC9 := Lib.hid (HC8.out.trans halr (fun _ h => h.elim))
          generalize w8.alloc (.cells #[.int .i64 qo, .int .i64 qt2, .bool qk, .string qkey, .bool qg, .string qv] 55) = w9 at *
          generalize w8.heap.size = g9 at *
          have y0 := hbr.cell (j := 0) rfl
          have y1 := hbr.cell (j := 1) rfl
          have x1 := (HBX7.out.chg HC9.out (fun h => h)).cell (j := 1) rfl
          clear hbr halr
          by_cases hge : xA ≤ qt2
          · have HF := Lib.hid (HSI8.out.found HB.out HR.out hge)
            go_wp2_with fail
            go_roundw
            case rel => exact ⟨_, m + 1, qo, true, rfl, HML.out, rfl, rfl, by go_num, HF.out, HC9.out⟩
            case measure => exact meas_two HML.out
          · have HF := Lib.hid (HSI8.out.pass HB.out HR.out hge)
            go_wp2_with fail
            go_roundw
            case rel => exact ⟨_, m + 1, n2, false, rfl, HML.out, rfl, rfl, by go_num, HF.out, HC9.out⟩
            case measure => exact meas_two HML.out
end Go.Proofs.YtmaomebnigcgeaaGreatDoor
