/-
  The case Add of the walk of SegmentPlays. (Closed facts of the kernel apart: KRAUX. Made by mkcase.py.)
-/
import Derived.Test.YtmaomebnigcgeaaGreatDoorPl42
import Derived.Deep.CutBlock
import Derived.Deep.CutRange
import Derived.Deep.DeepCutAuto
set_option linter.unusedSimpArgs false
set_option linter.unusedVariables false
namespace Go.Proofs.YtmaomebnigcgeaaGreatDoor
open Go.RowKit Go.Maps

set_option maxHeartbeats 0 in
set_option maxRecDepth 1000000 in
/-- Add. -/
theorem sp_add {w w6 : World} {p q r s gx bn : Nat} {fn : Nm} {S : Nat → Prop} {v vq : Value} {d : Dk} {g : Sg} {ms : List Bm} {xw xA xB bb be : Int} {ra : Option Addr} {rc : Nat} {brs : List Rec}
    {c2 c3 c4 c5 c6 c8 c10 c11 c12 c13 c15 c17 c18 c19 c20 c21 c22 c23 c24 c25 c26 c27 c28 c29 c30 c31 c32 c33 c34 c35 c36 c37 c38 c39 c40 c41 c42 c43 c44 c45 c46 c47 c48 c49 c50 c51 c52 c53 c54 c55 c56 c57 c58 c59 c60 c61 c62 c63 c64 c65 c66 c67 c68 c69 c70 c71 c72 c73 c74 c75 c76 c77 c78 c79 c80 c81 c82 c83 c84 c85 c86 c87 c88 c89 c90 c91 c92 c93 c94 c95 c96 c97 c98 c100 c101 c102 c103 c104 c105 c106 c107 c108 c109 c110 c111 c112 c113 c114 c115 c116 c117 c118 c119 c120 c121 c122 c123 c124 c125 c126 c127 c128 c129 c130 c131 c132 c133 c134 c135 c136 c137 c138 c139 c140 c141 c142 c143 c144 c145 c146 c147 c148 c149 c150 c151 c152 c153 c154 c155 c156 c157 c158 c159 c160 c161 c162 c163 c164 c165 c166 c167 c168 c169 c170 c171 c172 c173 c174 c175 c176 c177 c178 c179 c180 c181 c182 c183 c184 c185 c186 c187 c188 c189 c190 c191 c192 c193 c194 c195 c196 c197 c198 c199 c200 c201 c202 c203 c204 c205 c206 c207 c208 c209 c210 c211 c212 c213 c214 c215 c216 c217 c218 c219 c220 c221 c222 c223 c224 c225 c226 c227 c228 c229 c230 c231 c232 c233 c234 c235 c236 c237 c238 c239 c240 c241 c242 c243 c244 c245 c246 c247 c248 c249 c250 c251 c252 c253 c254 c255 c256 c257 c258 c259 c260 c261 c262 c263 c264 c265 c266 c267 c268 c269 c270 c271 c272 c273 c274 c275 c276 c277 c278 c279 c280 c281 c282 c283 c284 c285 c286 c287 c288 c289 c290 c291 c292 c293 c294 c295 c296 c297 c298 c299 c300 c301 c302 c303 c304 c305 c306 c307 c308 c309 c310 c311 c312 c313 c314 c315 c316 c317 c318 c319 c320 c321 c322 c323 : Value} {J K : Act → World → Prop} {Q : Exit → Act → World → Prop} (C : Code) (hC : (Tryz.f3.body).bind (findB 2) = some C)
    (HFL : Hid (fn.length ≤ 900)) (HRR : Hid (r ≤ 1048576)) (HSD6 : Hid (SdS w.heap.size w6 p s q r fn (bn : Nat) S v vq d g ms)) (HC6 : Hid (Chg Nil w w6))
    (HBX : Hid (Box w6 gx [.int .i64 xw, .int .i64 xA, .int .i64 xB, .int .i64 bb, .int .i64 be, .slice ra brs.length rc] 43)) (hw0 : xw = 0) (h80 : ¬ (80 : Int) < (brs.length : Int)) (HXO : Hid (Pt.Ok w ⟨xw, xA, xB, ⟨bb, be, brs⟩, ra, rc⟩)) (HGH : Hid (Handle w))
    (hJ : ∀ (a' : Act) (w' : World), (∃ u6 u9 u17 u18 u19 u20 u21 u22 u23 u24 u25 u26 u27 u28 u88 u89 u90 u91 u92 u93 u94 u95 u96 u97 u98 u100 u101 u102 u103 u104 u105 u106 u107 u108 u109 u110 u111 u112 u113 u114 u115 u116 u117 u118 u119 u120 u121 u122 u123 u124 u125 u126 u127 u128 u129 u130 u131 u132 u133 u134 u135 u136 u137 u138 u139 u140 u141 u142 u143 u144 u145 u146 u147 u148 u149 u150 u151 u152 u153 u154 u155 u156 u157 u158 u159 u160 u161 u162 u163 u164 u165 u166 u167 u168 u169 u170 u171 u172 u173 u174 u175 u176 u177 u178 u179 u180 u181 u182 u183 u184 u185 u186 u187 u188 u189 u190 u191 u192 u193 u194 u195 u196 u197 u198 u199 u200 u201 u202 u203 u204 u205 u206 u207 u208 u209 u210 u211 u212 u213 u214 u215 u216 u217 u218 u219 u220 u221 u222 u223 u224 u225 u226 u227 u228 u229 u230 u231 u232 u233 u234 u235 u236 u237 u238 u239 u240 u241 u242 u243 u244 u245 u246 u247 u248 u249 u250 u251 u252 u253 u254 u255 u256 u257 u258 u259 u260 u261 u262 u263 u264 u265 u266 u267 u268 u269 u270 u271 u272 u273 u274 u275 u276 u277 u278 u279 u280 u281 u282 u283 u284 u285 u286 u287 u288 u289 u290 u291 u292 u293 u294 u295 u296 u297 u298 u299 u300 u301 u302 u303 u304 u305 u306 u307 u308 u309 u310 u311 u312 u313 u314 u315 : Value, (∃ (s : Nat) (S : Nat → Prop) (v vq : Value) (d : Dk) (g : Sg) (ms : List Bm), u9 = .pointer (some ⟨s, 0, none⟩) ∧ SdS w.heap.size w' p s q r fn (bn : Nat) S v vq d g ms ∧ Chg Nil w w') ∧ a' = ⟨#[.int .i64 (bn : Nat), .int .i64 (r : Nat), c2, c3, c4, c5, u6, .pointer (some ⟨p, 0, none⟩), c8, u9, c10, c11, c12, c13, .pointer (some ⟨q, 0, none⟩), 
      c15, .pointer (some ⟨gx, 0, none⟩), u17, u18, u19, u20, u21, u22, u23, u24, u25, u26, u27, u28, c29, c30, c31, c32, c33, c34, c35, c36, c37, c38, c39, 
      c40, c41, c42, c43, c44, c45, c46, c47, c48, c49, c50, c51, c52, c53, c54, c55, c56, c57, c58, c59, c60, c61, c62, c63, c64, c65, c66, c67, c68, c69, c70, 
      c71, c72, c73, c74, c75, c76, c77, c78, c79, c80, c81, c82, c83, c84, c85, c86, c87, u88, u89, u90, u91, u92, u93, u94, u95, u96, u97, u98, .int .i64 xw, 
      u100, u101, u102, u103, u104, u105, u106, u107, u108, u109, u110, u111, u112, u113, u114, u115, u116, u117, u118, u119, u120, u121, u122, u123, u124, u125, 
      u126, u127, u128, u129, u130, u131, u132, u133, u134, u135, u136, u137, u138, u139, u140, u141, u142, u143, u144, u145, u146, u147, u148, u149, u150, u151, 
      u152, u153, u154, u155, u156, u157, u158, u159, u160, u161, u162, u163, u164, u165, u166, u167, u168, u169, u170, u171, u172, u173, u174, u175, u176, u177, 
      u178, u179, u180, u181, u182, u183, u184, u185, u186, u187, u188, u189, u190, u191, u192, u193, u194, u195, u196, u197, u198, u199, u200, u201, u202, u203, 
      u204, u205, u206, u207, u208, u209, u210, u211, u212, u213, u214, u215, u216, u217, u218, u219, u220, u221, u222, u223, u224, u225, u226, u227, u228, u229, 
      u230, u231, u232, u233, u234, u235, u236, u237, u238, u239, u240, u241, u242, u243, u244, u245, u246, u247, u248, u249, u250, u251, u252, u253, u254, u255, 
      u256, u257, u258, u259, u260, u261, u262, u263, u264, u265, u266, u267, u268, u269, u270, u271, u272, u273, u274, u275, u276, u277, u278, u279, u280, u281, 
      u282, u283, u284, u285, u286, u287, u288, u289, u290, u291, u292, u293, u294, u295, u296, u297, u298, u299, u300, u301, u302, u303, u304, u305, u306, u307, 
      u308, u309, u310, u311, u312, u313, u314, u315, c316, c317, c318, c319, c320, c321, c322, c323], []⟩) → J a' w')
    (hK : ∀ (a' : Act) (w' : World), Met J a' w' → K a' w') :
    Code.wp Tryz.prog C (Exit.then K Q) ⟨#[.int .i64 (bn : Nat), .int .i64 (r : Nat), c2, c3, c4, c5, c6, .pointer (some ⟨p, 0, none⟩), c8, .pointer (some ⟨s, 0, none⟩), c10, c11, c12, c13, .pointer (some ⟨q, 0, none⟩), 
      c15, .pointer (some ⟨gx, 0, none⟩), c17, c18, c19, c20, c21, c22, c23, c24, c25, c26, c27, c28, c29, c30, c31, c32, c33, c34, c35, c36, c37, c38, c39, 
      c40, c41, c42, c43, c44, c45, c46, c47, c48, c49, c50, c51, c52, c53, c54, c55, c56, c57, c58, c59, c60, c61, c62, c63, c64, c65, c66, c67, c68, c69, c70, 
      c71, c72, c73, c74, c75, c76, c77, c78, c79, c80, c81, c82, c83, c84, c85, c86, c87, c88, c89, c90, c91, c92, c93, c94, c95, c96, c97, c98, .int .i64 xw, 
      c100, c101, c102, c103, c104, c105, c106, c107, c108, c109, c110, c111, c112, c113, c114, c115, c116, c117, c118, c119, c120, c121, c122, c123, c124, c125, 
      c126, c127, c128, c129, c130, c131, c132, c133, c134, c135, c136, c137, c138, c139, c140, c141, c142, c143, c144, c145, c146, c147, c148, c149, c150, c151, 
      c152, c153, c154, c155, c156, c157, c158, c159, c160, c161, c162, c163, c164, c165, c166, c167, c168, c169, c170, c171, c172, c173, c174, c175, c176, c177, 
      c178, c179, c180, c181, c182, c183, c184, c185, c186, c187, c188, c189, c190, c191, c192, c193, c194, c195, c196, c197, c198, c199, c200, c201, c202, c203, 
      c204, c205, c206, c207, c208, c209, c210, c211, c212, c213, c214, c215, c216, c217, c218, c219, c220, c221, c222, c223, c224, c225, c226, c227, c228, c229, 
      c230, c231, c232, c233, c234, c235, c236, c237, c238, c239, c240, c241, c242, c243, c244, c245, c246, c247, c248, c249, c250, c251, c252, c253, c254, c255, 
      c256, c257, c258, c259, c260, c261, c262, c263, c264, c265, c266, c267, c268, c269, c270, c271, c272, c273, c274, c275, c276, c277, c278, c279, c280, c281, 
      c282, c283, c284, c285, c286, c287, c288, c289, c290, c291, c292, c293, c294, c295, c296, c297, c298, c299, c300, c301, c302, c303, c304, c305, c306, c307, 
      c308, c309, c310, c311, c312, c313, c314, c315, c316, c317, c318, c319, c320, c321, c322, c323], []⟩ w6 := by
  conv at hC => lhs; whnf
  obtain rfl := Option.some.inj hC
  clear hC
  have hw0t : (xw == 0) = true := beq_iff_eq.2 hw0
  have x5 := HBX.out.cell (j := 5) rfl
  have HREC : Hid (RecsAt w6 ra brs) := RecsAt.chg HC6.out HXO.out.recs (fun _ _ h => h)
  have HEN : Hid (Calls Tryz.prog 9 #[.agg #[.int .i64 bb, .int .i64 be, .slice ra brs.length rc]] w6 (RefEncPost w6 bb be brs)) :=
    refEncode_any bb be ra brs rc w6 HXO.out.base HXO.out.en HXO.out.len HXO.out.rok HREC.out
  have x3 := HBX.out.cell (j := 3) rfl
  have x4 := HBX.out.cell (j := 4) rfl
  have H80 : Hid (brs.length ≤ 80) := by unfold Hid; omega
  clear hw0
  go_wp2_with fail
  refine HEN.out.mono ?_
  rintro e w7 ⟨hc7, hpost⟩
  have HSD7 := Lib.hid (HSD6.out.nil hc7)
  have HC7 := Lib.hid (HC6.out.trans hc7 (fun _ h => h.elim))
  have HBX7 := Lib.hid (HBX.out.chg hc7 (fun h => h))
  have HREC7 : Hid (RecsAt w7 ra brs) := RecsAt.chg hc7 HREC.out (fun _ _ h => h)
  clear x3 x4 x5 h80 hc7 HEN
  obtain ⟨bv, ek, he, hbv⟩ : ∃ (bv : Value) (ek : Nat), e = .returned (.tuple #[bv, .int .i64 (ek : Nat)]) ∧ Hid (ek = encErr bb be brs ∧ (ek = 0 → ∃ a c, bv = .slice a (Bt.mk bb be brs).bytes.length c)) := by
    rcases hpost with ⟨hne, rfl⟩ | ⟨h0, v9, rfl, hown9, _⟩
    · exact ⟨_, encErr bb be brs, rfl, rfl, fun h => absurd h hne⟩
    · obtain ⟨a9, c9, hv9, _⟩ := hown9.val
      exact ⟨v9, 0, rfl, h0.symm, fun _ => ⟨a9, c9, hv9⟩⟩
  have HBV := hbv
  subst he
  clear hpost hbv
  go_simp
  go_upto_block 3 with fail
  go_cut [17, 18] from 100 to 315 (fun bv' ev wy => ∃ (k : Nat) (vq' : Value) (ms' : List Bm), ev = .int .i64 k ∧ MidS w.heap.size wy p s q r fn (bn : Nat) S v vq' d g ms' bb be brs k ∧ Chg (fun k => w.heap.size ≤ k) w7 wy ∧ Box wy gx [.int .i64 xw, .int .i64 xA, .int .i64 xB, .int .i64 bb, .int .i64 be, .slice ra brs.length rc] 43)
  case first =>
    by_cases hek : ek = 0
    · obtain ⟨ba, bc, hbl⟩ := HBV.out.2 hek
      subst hbl
      subst hek
      have HE0 : Hid (encErr bb be brs = 0) := HBV.out.1.symm
      have HBO : Hid (Bt.Ok ⟨bb, be, brs⟩) := ⟨HE0.out, HXO.out.rok⟩
      have x3 := HBX7.out.cell (j := 3) rfl
      have HNX := Lib.hid (fun (w' : World) (hw : Chg Nil w7 w') => rnext_any (HSD7.out.nil hw).sq (by have := HSD7.out.few HRR.out; omega))
      have HNG : Hid (g.next = lastEnd (bn : Nat) (ms.map Bm.b)) := by have h1 := HSD7.out.of.next; rw [HSD7.out.base] at h1; exact h1
      obtain ⟨nx, hnx⟩ : ∃ nx, lastEnd (bn : Nat) (ms.map Bm.b) = nx := ⟨_, rfl⟩
      rw [hnx] at HNX HNG
      clear hnx
      go_upto_region 22 with fail
      refine wp_region_mono _ (Chg Nil) (by as_aux_lemma => kernel_rfl) (fun _ _ _ h k => h.trans k (fun _ h => h.elim)) [[], [0], [1], [], [3], [2, 4], [5]] rfl (by as_aux_lemma => kernel_rfl) (Chg.refl _ _).drew ?_
      iterate 2 ((with_reducible apply Walk.eq); case h => (intro w2 hw2 N hN; simp only [depsOf, List.filterMap_nil, List.filterMap_cons, List.getElem?_toArray, List.getElem?_cons_zero, List.getElem?_cons_succ, Option.bind_some, List.nil_append, List.cons_append, Ob]; go_simp; (try go_bits); with_reducible exact hN _ (Chg.refl _ _)))
      ((with_reducible apply Walk.eq); case h => (intro w2 hw2 N hN; have hq := hw2.cell x3 (fun h => h); simp only [depsOf, List.filterMap_nil, List.filterMap_cons, List.getElem?_toArray, List.getElem?_cons_zero, List.getElem?_cons_succ, Option.bind_some, List.nil_append, List.cons_append, Ob]; go_simp; with_reducible exact hN _ (Chg.refl _ _)))
      ((with_reducible apply Walk.eq); case h => (intro w2 hw2 N hN; simp only [depsOf, List.filterMap_nil, List.filterMap_cons, List.getElem?_toArray, List.getElem?_cons_zero, List.getElem?_cons_succ, Option.bind_some, List.nil_append, List.cons_append, Ob]; go_simp; (try go_bits); with_reducible exact hN _ (Chg.refl _ _)))
      (with_reducible apply Walk.eq); case h =>
        intro w2 hw2 N hN
        simp only [depsOf, List.filterMap_nil, List.filterMap_cons, List.getElem?_toArray, List.getElem?_cons_zero, List.getElem?_cons_succ, Option.bind_some, List.nil_append, List.cons_append, Ob]
        go_simp
        refine (HNX.out w2 hw2).mono ?_
        rintro e w4 ⟨rfl, hc4⟩
        exact ⟨_, rfl, hN _ hc4⟩
      iterate 2 ((with_reducible apply Walk.eq); case h => (intro w2 hw2 N hN; simp only [depsOf, List.filterMap_nil, List.filterMap_cons, List.getElem?_toArray, List.getElem?_cons_zero, List.getElem?_cons_succ, Option.bind_some, List.nil_append, List.cons_append, Ob]; go_simp; (try go_bits); with_reducible exact hN _ (Chg.refl _ _)))
      intro w8 hw8
      simp only [List.nil_append, List.cons_append, Fin]
      have HW8 := Lib.hid hw8
      clear hw8 x3
      by_cases hlt : bb < nx
      · have HM : Hid (MidS w.heap.size w8 p s q r fn (bn : Nat) S v vq d g ms bb be brs 10) := by
          have h1 := HSD7.out.nil HW8.out
          refine ⟨h1.sg, h1.sq, ⟨d, g, ?_, h1.one, h1.of, h1.name, h1.base⟩, h1.fits, h1.new, h1.apart, h1.name, ?_⟩
          · unfold addSg
            rw [if_neg (by simpa using HE0.out), if_pos (by rw [HNG.out]; exact hlt)]
          · have h2 := h1.few HRR.out
            have h3 := h1.fits
            have h4 := HRR.out
            exact ⟨by rw [h1.of.pls, plsOf_length, List.length_map]; omega, by rw [h1.of.size]; omega⟩
        go_simp
        go_wp2_with fail
        go_meet
        case rel => exact ⟨10, _, _, rfl, HM.out, HW8.out.weak (fun _ h => h.elim), HBX7.out.chg HW8.out (fun h => h)⟩
      · have HLT := Lib.hid hlt
        have h8 := HSD7.out.nil HW8.out
        have HSZ := Lib.hid (rsize_any h8.sq (by have := h8.few HRR.out; omega) (by have := h8.fits; have := HRR.out; omega))
        obtain ⟨bl, hbl⟩ : ∃ bl, (Bt.mk bb be brs).bytes.length = bl := ⟨_, rfl⟩
        have HBL := Lib.hid hbl
        rw [hbl]
        have hb6 : bl ≤ 6000 := by rw [← hbl]; exact HBO.out.nums.len
        obtain ⟨sz, hsz⟩ : ∃ sz, (batBs (ms.map Bm.b)).length = sz := ⟨_, rfl⟩
        rw [hsz] at HSZ
        have HS9 := Lib.hid hsz
        have hszr : sz ≤ 1048576 := by rw [← hsz]; exact Nat.le_trans h8.fits HRR.out
        have hw64 : wrap64 ((sz : Int) + (bl : Int)) = (sz : Int) + (bl : Int) := w64_add (Nat.le_trans hszr (by decide)) (Nat.le_trans hb6 (by decide))
        have HADD : Hid (addSg d g bb be brs = if (d.add g.name (Bt.mk bb be brs).bytes).1 = 0 then (0, (d.add g.name (Bt.mk bb be brs).bytes).2, g.noted bb be brs bl) else ((d.add g.name (Bt.mk bb be brs).bytes).1, (d.add g.name (Bt.mk bb be brs).bytes).2, g)) := by
          rw [← hbl]
          exact addSg_ok (b := ⟨bb, be, brs⟩) HBO.out (by show g.next ≤ bb; rw [HNG.out]; omega)
        have HFEW : Hid (g.pls.length ≤ 99999 ∧ g.size ≤ 1048576) := by
          have h2 := h8.few HRR.out
          exact ⟨by rw [h8.of.pls, plsOf_length, List.length_map]; omega, by rw [h8.of.size, HS9.out]; exact hszr⟩
        clear hlt hbl hsz h8
        go_simp
        go_wp2_with fail
        refine HSZ.out.mono ?_
        rintro e w9 ⟨rfl, hc9⟩
        go_simp
        have HC9 := Lib.hid (HW8.out.trans hc9 (fun _ h => h.elim))
        have HSD9 := Lib.hid (HSD7.out.nil HC9.out)
        clear hc9
        by_cases hfull : (r : Int) < (sz : Int) + (bl : Int)
        · have HM : Hid (MidS w.heap.size w9 p s q r fn (bn : Nat) S v vq d g ms bb be brs 12) := by
            have h1 := HSD9.out
            refine ⟨h1.sg, h1.sq, ⟨d, g, ?_, h1.one, h1.of, h1.name, h1.base⟩, h1.fits, h1.new, h1.apart, h1.name, HFEW.out⟩
            have h2 := (h1.one.add (Bt.mk bb be brs).bytes).1 (by rw [HS9.out, HBL.out]; omega)
            rw [HADD.out, h1.name, h2]
            rfl
          go_wp2_with fail
          go_meet
          case rel => exact ⟨12, _, _, rfl, HM.out, HC9.out.weak (fun _ h => h.elim), HBX7.out.chg HC9.out (fun h => h)⟩
        · have HM0 := (HSD9.out.one.add (Bt.mk bb be brs).bytes).2 (by rw [HS9.out, HBL.out]; omega)
          obtain ⟨d', hda, ho'⟩ := HM0
          have HO' := Lib.hid ho'
          have HAD2 : Hid (addSg d g bb be brs = (0, d', g.noted bb be brs bl)) := by
            unfold Hid
            rw [HADD.out, HSD9.out.name, hda]
            rfl
          have HOF' : Hid (SgOf (g.noted bb be brs bl) ((ms ++ [(⟨⟨bb, be, brs⟩, ra, rc⟩ : Bm)]).map Bm.b)) := by
            have h1 := HSD9.out.of.noted (b := ⟨bb, be, brs⟩) HBO.out (by show g.next ≤ bb; rw [HNG.out]; have := HLT.out; omega)
            rw [List.map_append]
            rw [← HBL.out]
            exact h1
          have hvq := HSD9.out.sq.o.form
          generalize vA vq = oa at hvq
          generalize vC vq = oc at hvq
          subst hvq
          have HNQ := Lib.hid (box_ne HSD9.out.sq.c HSD9.out.sq.o (by decide))
          have hbx9 := HBX7.out.chg HC9.out (fun h => h)
          have HNX9 := Lib.hid (box_ne hbx9 HSD9.out.sq.o (by decide))
          have q1 := HSD9.out.sq.c.cell (j := 1) rfl
          have x3 := hbx9.cell (j := 3) rfl
          have x4 := hbx9.cell (j := 4) rfl
          have x5 := hbx9.cell (j := 5) rfl
          have HLEN : Hid (ms.length ≤ 99999) := HSD9.out.few HRR.out
          have HSL : Hid (∀ k, (Value.slice oa ms.length oc).ownBlock = some k → k < w9.heap.size) := HSD9.out.sq.o.lt
          have HFT : Hid (sz + bl ≤ r) := by unfold Hid; omega
          obtain ⟨ml, hml⟩ : ∃ ml, (ms ++ [(⟨⟨bb, be, brs⟩, ra, rc⟩ : Bm)]).length = ml := ⟨_, rfl⟩
          have HML := Lib.hid hml
          clear hda ho' hbx9 hml
          go_upto_region 20 with fail
          clear hfull hw64
          refine Ch.wp_region_last2 _ _ rfl (Chg (fun k => (Value.slice oa ms.length oc).ownBlock = some k)) [11] (AqF w9.heap.size (.slice oa ms.length oc) ms ⟨⟨bb, be, brs⟩, ra, rc⟩) (by as_aux_lemma => kernel_rfl) (fun _ => Chg.refl _ _) (fun _ _ _ h k => h.trans k (fun _ h => .inl h)) [[], [], [1], [2], [3], [], [5], [], [7], [6, 8], [9], [4, 10], [0], [12]] rfl (by as_aux_lemma => kernel_rfl) (by as_aux_lemma => kernel_rfl) (by as_aux_lemma => kernel_rfl) (Chg.refl _ _).drew ?_ ?_
          · exact ownsRow_chg HSD9.out.sq.o (Chg.refl Nil _).drew (fun _ _ h => h)
          simp only [List.dropLast_cons_cons, List.dropLast_singleton]
          iterate 4 ((with_reducible apply Ch.Walk.eq); (case hd => rfl); (case hi => rfl); case h => (intro w2 hw2 N hN; simp only [Ch.depsOf, List.filterMap_nil, List.filterMap_cons, List.getElem?_toArray, List.getElem?_cons_zero, List.getElem?_cons_succ, Option.bind_some, List.nil_append, List.cons_append, Ch.Ob]; go_simp; (try go_bits); with_reducible exact hN _ (Chg.refl _ _) (fun _ h => h)))
          ((with_reducible apply Ch.Walk.eq); (case hd => rfl); (case hi => rfl); case h => (intro w2 hw2 N hN; (have hq := hw2.cell q1 HNQ.out); simp only [Ch.depsOf, List.filterMap_nil, List.filterMap_cons, List.getElem?_toArray, List.getElem?_cons_zero, List.getElem?_cons_succ, Option.bind_some, List.nil_append, List.cons_append, Ch.Ob]; go_simp; (try go_bits); with_reducible exact hN _ (Chg.refl _ _) (fun _ h => h)))
          ((with_reducible apply Ch.Walk.eq); (case hd => rfl); (case hi => rfl); case h => (intro w2 hw2 N hN; simp only [Ch.depsOf, List.filterMap_nil, List.filterMap_cons, List.getElem?_toArray, List.getElem?_cons_zero, List.getElem?_cons_succ, Option.bind_some, List.nil_append, List.cons_append, Ch.Ob]; go_simp; (try go_bits); with_reducible exact hN _ (Chg.refl _ _) (fun _ h => h)))
          ((with_reducible apply Ch.Walk.eq); (case hd => rfl); (case hi => rfl); case h => (intro w2 hw2 N hN; (have hx3 := hw2.cell x3 HNX9.out; have hx4 := hw2.cell x4 HNX9.out; have hx5 := hw2.cell x5 HNX9.out); simp only [Ch.depsOf, List.filterMap_nil, List.filterMap_cons, List.getElem?_toArray, List.getElem?_cons_zero, List.getElem?_cons_succ, Option.bind_some, List.nil_append, List.cons_append, Ch.Ob]; go_simp; (try go_bits); with_reducible exact hN _ (Chg.refl _ _) (fun _ h => h)))
          iterate 3 ((with_reducible apply Ch.Walk.eq); (case hd => rfl); (case hi => rfl); case h => (intro w2 hw2 N hN; simp only [Ch.depsOf, List.filterMap_nil, List.filterMap_cons, List.getElem?_toArray, List.getElem?_cons_zero, List.getElem?_cons_succ, Option.bind_some, List.nil_append, List.cons_append, Ch.Ob]; go_simp; (try go_bits); with_reducible exact hN _ (Chg.refl _ _) (fun _ h => h)))
          simp only [List.nil_append, List.cons_append]
          refine Ch.Walk.sat (fun v w => ∃ q8, v = .slice (some ⟨q8, 0, none⟩) 1 1 ∧ w9.heap.size ≤ q8 ∧ Box w q8 [.int .i64 bb, .int .i64 be, .slice ra brs.length rc, .int .i64 (bl : Nat)] 49) ?_ rfl rfl ?_ ?_
          · rintro v w6 w7 ⟨q8, rfl, hq8, hb8⟩ hc
            exact ⟨q8, rfl, hq8, hb8.chg hc (fun h => by have := HSL.out q8 h; omega)⟩
          · intro w10 hw10 N hN
            simp only [Ch.depsOf, List.filterMap_nil, List.filterMap_cons, List.getElem?_toArray, List.getElem?_cons_zero, List.getElem?_cons_succ, Option.bind_some, List.nil_append, List.cons_append, Ch.Ob, Ch.chained_get, Option.map_some, List.idxOf?, List.findIdx?, List.findIdx?.go, Nat.reduceBEq, List.getD_cons_zero, List.getD_cons_succ, Nat.reduceAdd, if_true, if_false, Bool.false_eq_true]
            go_simp
            have hal := (Chg.refl Nil w10).alloc (.cells #[.int .i64 bb, .int .i64 be, .slice ra brs.length rc, .int .i64 (bl : Nat)] 49)
            exact hN _ _ ⟨w10.heap.size, rfl, hw10.size, Box.new w10 [.int .i64 bb, .int .i64 be, .slice ra brs.length rc, .int .i64 (bl : Nat)] _⟩ (hal.weak (fun _ h => h.elim)) (fun vs hF => AqF.nil hal vs hF)
          simp only [List.nil_append, List.cons_append]
          refine Ch.Walk.chain 0 rfl rfl ?_ ?_
          · intro w10 hw10 vs hvs hF N hN
            obtain rfl := List.eq_nil_of_length_eq_zero hvs
            have hF2 : OwnQ w10 (.slice oa ms.length oc) ms := hF
            clear hF
            simp only [Ch.depsOf, List.filterMap_nil, List.filterMap_cons, List.getElem?_toArray, List.getElem?_cons_zero, List.getElem?_cons_succ, Option.bind_some, List.nil_append, List.cons_append, Ch.Ob, Ch.chained_get, Option.map_some, List.idxOf?, List.findIdx?, List.findIdx?.go, Nat.reduceBEq, List.getD_cons_zero, List.getD_cons_succ, Nat.reduceAdd, if_true, if_false, Bool.false_eq_true]
            rintro v ⟨q8, rfl, hq8, hb8⟩
            have hz3 := hw10.size
            refine Ch.if_append_row rfl (.tmp 117) (.tmp 123) 36 36 rfl rbtT _ Tryz.underlying36 (by intro _; simp) (.slice oa ms.length oc) ms.length (ms.flatMap Bm.c4) rfl hF2 (.slice (some ⟨q8, 0, none⟩) 1 1) 1 [.int .i64 bb, .int .i64 be, .slice ra brs.length rc, .int .i64 (bl : Nat)] rfl (Source.box hb8 rfl (c4_one _ _ _ _ _ _)) (by have := HLEN.out; unfold maxLen; omega) (by have := HLEN.out; omega) (fun v' w' h1 h2 => hN _ _ h2.chg ?_)
            refine ⟨?_, fun k hk => (h2.own k hk).imp id fun h => ?_⟩
            · unfold OwnQ
              rw [List.length_append, List.flatMap_append, List.flatMap_cons, List.flatMap_nil, List.append_nil]
              have e4 : Bm.c4 ⟨⟨bb, be, brs⟩, ra, rc⟩ = [.int .i64 bb, .int .i64 be, .slice ra brs.length rc, .int .i64 (bl : Nat)] := by unfold Bm.c4; rw [show (Bt.mk bb be brs).bytes.length = bl from HBL.out]
              rw [e4]
              exact h1
            · have hz3 : w9.heap.size ≤ w10.heap.size := hz3
              omega
          iterate 2 ((with_reducible apply Ch.Walk.eq); (case hd => rfl); (case hi => rfl); case h => (intro w2 hw2 N hN; simp only [Ch.depsOf, List.filterMap_nil, List.filterMap_cons, List.getElem?_toArray, List.getElem?_cons_zero, List.getElem?_cons_succ, Option.bind_some, List.nil_append, List.cons_append, Ch.Ob]; go_simp; (try go_bits); with_reducible exact hN _ (Chg.refl _ _) (fun _ h => h)))
          intro w10 hw10
          simp only [List.nil_append, List.cons_append, Ch.Fin, List.map_cons, List.map_nil, List.getD_cons_zero, List.getD_cons_succ]
          intro v8 _ v11 _ hF
          have HQ10 : Hid (OwnQ w10 v11 (ms ++ [⟨⟨bb, be, brs⟩, ra, rc⟩])) := hF.1
          have HQN : Hid (∀ k, v11.ownBlock = some k → (Value.slice oa ms.length oc).ownBlock = some k ∨ w9.heap.size ≤ k) := hF.2
          have HW10 : Hid (Chg (fun k => (Value.slice oa ms.length oc).ownBlock = some k) w9 w10) := hw10
          have HB10 := Lib.hid (HSD9.out.sq.c.chg hw10 HNQ.out)
          have b1 := HB10.out.cell (j := 1) rfl
          have f1 := HB10.out.free 1
          have hvf := hF.1.form
          rw [HML.out] at hvf
          generalize vA v11 = na at hvf
          generalize vC v11 = nc at hvf
          subst hvf
          clear hF hw10 q1 x3 x4 x5
          simp only [Ch.Then, Oper.wp]
          go_simp
          go_wp2_with fail
          go_meet
          case rel =>
            have hset : Chg (fun k => k = q) w10 (w10.setCell ⟨q, 1, none⟩ (.slice na ml nc)) := (Chg.refl (fun k => k = q) _).setCell (.inl rfl) _
            have hqn := HSD9.out.new
            have hq9 := HSD9.out.sq.lt q (.inl rfl)
            have hn09 := (HC7.out.trans HC9.out (fun _ h => h.elim)).size
            have hrec9 := RecsAt.chg HC9.out HREC7.out (fun _ _ h => h)
            have hral : ∀ x, ra = some x → brs ≠ [] → x.block < w.heap.size := fun x hx h0 => HXO.out.recs.lt h0 hx
            refine ⟨0, _, ms ++ [⟨⟨bb, be, brs⟩, ra, rc⟩], rfl, ⟨?_, ⟨HB10.out.set 1 _, ?_, ?_⟩, ⟨d', _, HAD2.out, ?_, HOF'.out, HSD9.out.name, HSD9.out.base⟩, ?_, ?_, ?_, HSD9.out.name, HFEW.out⟩, ?_, ?_⟩
            · refine (((HSD9.out.sg.growB (HW10.out.weak (fun k hk => .inl (.inr (.inr (.inl hk)))))).kept (hset.weak (fun k hk => .inl (.inl (.inr (.inl hk)))))).sub ?_)
              rintro k (hk | hk | hk | ⟨m, hm, h0, x, hx, rfl⟩)
              · exact .inl (.inl hk)
              · exact .inl (.inr (.inl hk))
              · rcases HQN.out k hk with h1 | h1
                · exact .inl (.inr (.inr (.inl h1)))
                · exact .inr ⟨h1, HQ10.out.lt k hk⟩
              · rcases List.mem_append.1 hm with hm | hm
                · exact .inl (.inr (.inr (.inr ⟨m, hm, h0, x, hx, rfl⟩)))
                · rw [List.mem_singleton.1 hm] at h0 hx
                  exact .inl (.inl (hral x hx h0))
            · exact ownsRow_chg HQ10.out hset (fun k hk e => by
                rcases HQN.out k hk with h1 | h1
                · rw [e] at h1; exact HNQ.out h1
                · omega)
            · intro m hm
              rcases List.mem_append.1 hm with hm | hm
              · exact ((HSD9.out.sq.r m hm).chg' HW10.out (fun h0 x hx e => (HSD9.out.apart m hm h0 x hx).2 e)).chg' hset (fun h0 x hx e => (HSD9.out.apart m hm h0 x hx).1 e)
              · rw [List.mem_singleton.1 hm]
                refine (RecsAt.chg' hrec9 HW10.out (fun h0 x hx e => ?_)).chg' hset (fun h0 x hx e => ?_)
                · have h1 := hral x hx h0; have h2 := hqn _ (.inr e); omega
                · have h1 := hral x hx h0; have h2 := hqn q (.inl rfl); omega
            · rw [List.map_append, batBs_append, List.map_cons, List.map_nil, batBs_cons]
              simp only [batBs, List.flatMap_nil, List.append_nil]
              exact HO'.out
            · rw [List.map_append, batBs_append, List.length_append, List.map_cons, List.map_nil, batBs_cons]
              simp only [batBs, List.flatMap_nil, List.append_nil]
              have h1 := HFT.out
              have h2 : ((ms.map Bm.b).flatMap Bt.bytes).length = sz := HS9.out
              have h3 := HBL.out
              omega
            · rintro k (rfl | hk)
              · exact hqn _ (.inl rfl)
              · rcases HQN.out k hk with h1 | h1
                · exact hqn k (.inr h1)
                · omega
            · intro m hm h0 x hx
              rcases List.mem_append.1 hm with hm | hm
              · refine ⟨(HSD9.out.apart m hm h0 x hx).1, fun e => ?_⟩
                rcases HQN.out _ e with h1 | h1
                · exact (HSD9.out.apart m hm h0 x hx).2 h1
                · have h2 := (HSD9.out.sq.r m hm).lt h0 hx; omega
              · rw [List.mem_singleton.1 hm] at h0 hx
                have h1 := hral x hx h0
                refine ⟨fun e => by have h2 := hqn q (.inl rfl); omega, fun e => ?_⟩
                rcases HQN.out _ e with h2 | h2
                · have h3 := hqn _ (.inr h2); omega
                · omega
            · refine ((HC9.out.weak (fun _ h => h.elim)).trans HW10.out (fun k hk => .inl (hqn k (.inr hk)))).trans hset (fun k hk => .inl (hqn k (.inl hk)))
            · exact ((HBX7.out.chg HC9.out (fun h => h)).chg HW10.out HNX9.out).chg hset (fun e => by
                have h1 : w10.heap[q]? = _ := HB10.out
                have h2 : w10.heap[gx]? = _ := (HBX7.out.chg HC9.out (fun h => h)).chg HW10.out HNX9.out
                rw [e, h1] at h2
                exact absurd (Obj.cells.inj (Option.some.inj h2)).2.1 (by decide))
    · have hekb : ((ek : Int) == 0) = false := beq_eq_false_iff_ne.2 (by omega)
      have HM : Hid (MidS w.heap.size w7 p s q r fn (bn : Nat) S v vq d g ms bb be brs ek) := by
        have h1 := HSD7.out
        refine ⟨h1.sg, h1.sq, ⟨d, g, ?_, h1.one, h1.of, h1.name, h1.base⟩, h1.fits, h1.new, h1.apart, h1.name, ?_⟩
        · unfold addSg
          rw [if_pos (by rw [← HBV.out.1]; exact hek), ← HBV.out.1]
        · have h2 := h1.few HRR.out
          have h3 := h1.fits
          have h4 := HRR.out
          exact ⟨by rw [h1.of.pls, plsOf_length, List.length_map]; omega, by rw [h1.of.size]; omega⟩
      clear hek
      go_wp2_with fail
      go_meet
      case rel => exact ⟨ek, _, _, rfl, HM.out, Chg.refl _ _, HBX7.out⟩
  obtain ⟨k, vq', ms', rfl, hmid, hcc, hbxc⟩ := hcut
  have HMID := Lib.hid hmid
  have HCC : Hid (Chg Nil w wc) := HC7.out.trans hcc (fun k hk => .inr hk)
  have x3 := hbxc.cell (j := 3) rfl
  have x4 := hbxc.cell (j := 4) rfl
  have x5 := hbxc.cell (j := 5) rfl
  have HAD : Hid (Calls Tryz.prog 12 #[.pointer (some ⟨s, 0, none⟩), .agg #[.int .i64 bb, .int .i64 be, .slice ra brs.length rc]] wc fun e w' => e = .returned (errD k) ∧ (∃ S' v' d' g', SdS w.heap.size w' p s q r fn (bn : Nat) S' v' vq' d' g' ms') ∧ Chg (fun k => w.heap.size ≤ k) wc w') := by
    obtain ⟨d', g', hadd, ho', hof', hn', hb'⟩ := HMID.out.add
    have hb9 := HMID.out.bound
    have h1 := sadd_any HMID.out.sg (by rw [HMID.out.gname]; have := HFL.out; omega) (by omega) (by omega) bb be ra brs rc HXO.out.base HXO.out.en (by have := H80.out; omega) HXO.out.rok (RecsAt.chg HCC.out HXO.out.recs (fun _ _ h => h)) (fun h0 x hx hs => by
      have h2 := HXO.out.recs.lt h0 hx
      exact (HMID.out.sg.sl _ hs).1 (.inl h2)) (fun he => (Bt.Ok.nums (b := ⟨bb, be, brs⟩) ⟨he, HXO.out.rok⟩).len)
    rw [hadd] at h1
    refine h1.mono ?_
    rintro e w' ⟨he, ⟨S', v', h2⟩, h3⟩
    exact ⟨he, ⟨S', v', d', g', h2, HMID.out.sq.chg h3 (fun k hk hn => hn (.inr hk)), ho', hof', hn', hb', HMID.out.fits, HMID.out.new, HMID.out.apart⟩, KpB.off h3⟩
  clear hmid hcc hbxc
  go_wp2_with fail
  refine HAD.out.mono ?_
  rintro e w10 ⟨rfl, h10, hc10⟩
  go_simp
  have H10 := Lib.hid h10
  have HC10 := Lib.hid (HCC.out.trans hc10 (fun k hk => .inr hk))
  have HBA : Hid (Calls Tryz.prog 7 #[errD k, .int .i64 (k : Nat)] w10 fun e w' => e = .returned (.bool true) ∧ Chg Nil w10 w') := lawBare_any k w10 (HGH.out.chg HC10.out (fun h => h))
  generalize errD k = ev10 at *
  clear h10 hc10 x3 x4 x5
  go_wp2_with fail
  refine HBA.out.mono ?_
  rintro e w11 ⟨rfl, hc11⟩
  go_simp
  have HC11 := Lib.hid hc11
  clear hc11
  go_wp2_with fail
  go_meet
  case rel =>
    obtain ⟨S', v', d', g', h11⟩ := H10.out
    exact ⟨_, _, _, _, _, _, _, rfl, h11.nil HC11.out, HC10.out.trans HC11.out (fun _ h => h.elim)⟩
end Go.Proofs.YtmaomebnigcgeaaGreatDoor
