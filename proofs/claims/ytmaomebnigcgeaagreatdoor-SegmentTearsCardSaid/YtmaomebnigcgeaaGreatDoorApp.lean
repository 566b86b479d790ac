/-
  Append as a step of the walk; slices of bytes that are the call's own. Over any program.
-/
import Derived.Test.YtmaomebnigcgeaaGreatDoorOwn
import Derived.Laws.IdiomStrings
namespace Go.Proofs.YtmaomebnigcgeaaGreatDoor
open Go.RowKit

/-- The facts on a slice type t of elements e: size cells, bytes bytes each. -/
structure SliceT (P : Program) (t e : TypeId) (size bytes : Nat) : Prop where
  ht : P.underlying t = some (.slice e)
  info : ∃ i z, P.info? e = some i ∧ i.zero = some z ∧ z.cells.size = size ∧ i.size = size ∧ i.bytes = bytes

theorem wp_append_grew {P : Program} {o : Oper} {a : Act} {w : World} {K : Act → World → Prop} {Q : Exit → Act → World → Prop} (s x : Operand) (t u : TypeId)
    (ho : o.op = .call { callee := .builtin .append, args := #[s, x], argTypes := #[t, u] })
    {e : TypeId} {size bytes : Nat} (hT : SliceT P t e size bytes) (d : TypeDesc) (hu : P.underlying u = some d) (hd : ∀ k, d ≠ .int k)
    (v : Value) (n : Nat) (xs : List Value) (hs : a.eval s = v) (hown : w.ownsRow 0 e size v n xs)
    (xv : Value) (m : Nat) (news : List Value) (hx : a.eval x = xv) (hsrc : Source P w size xv m news)
    (h63 : n + m ≤ maxLen) (hbytes : (n + m) * bytes ≤ 140737488355328)
    (h : ∀ v' w', w'.ownsRow 0 e size v' (n + m) (xs ++ news) → Grew w w' v v' → (v' = .slice none 0 0 ↔ v = .slice none 0 0 ∧ m = 0) → K (a.put o.dst v') w') : o.wp P a w K Q := by
  obtain ⟨ht, i, z, hi, hz, hzs, rfl, rfl⟩ := hT
  obtain ⟨v', w', hr, h2, h3, h4⟩ := run_append_grew (P := P) w t u o.type e d i z ht hu hd hi hz hzs v n xs hown xv m news hsrc h63 hbytes
  unfold Oper.wp execOp
  simp only [ho, resolve, invoke, builtin, Sem.run_bind, Sem.run_pure, Result.andThen_ok, List.map_toArray, List.map_cons, List.map_nil, hs, hx, hr]
  exact h v' w' h2 h3 h4

theorem wpList_append_grew {P : Program} {ops : Array Oper} {rest : List Oper} {o : Oper} {a : Act} {w : World} {Q : Exit → Act → World → Prop} (hgd : o.guard = none) (s x : Operand) (t u : TypeId)
    (ho : o.op = .call { callee := .builtin .append, args := #[s, x], argTypes := #[t, u] })
    {e : TypeId} {size bytes : Nat} (hT : SliceT P t e size bytes) (d : TypeDesc) (hu : P.underlying u = some d) (hd : ∀ k, d ≠ .int k)
    (v : Value) (n : Nat) (xs : List Value) (hs : a.eval s = v) (hown : w.ownsRow 0 e size v n xs)
    (xv : Value) (m : Nat) (news : List Value) (hx : a.eval x = xv) (hsrc : Source P w size xv m news)
    (h63 : n + m ≤ maxLen) (hbytes : (n + m) * bytes ≤ 140737488355328)
    (h : ∀ v' w', w'.ownsRow 0 e size v' (n + m) (xs ++ news) → Grew w w' v v' → (v' = .slice none 0 0 ↔ v = .slice none 0 0 ∧ m = 0) → wpList P ops Q rest (a.put o.dst v') w') : wpList P ops Q (o :: rest) a w :=
  wpList_plain hgd fun _ hK => wp_append_grew s x t u ho hT d hu hd v n xs hs hown xv m news hx hsrc h63 hbytes fun v' w' h2 h3 h4 => hK _ _ (h v' w' h2 h3 h4)

/-- A slice of bytes that is the call's own. -/
def OwnB (e : TypeId) (w : World) (v : Value) (l : List UInt8) : Prop := w.ownsRow 0 e 1 v l.length (l.map bval)

theorem OwnB.nil (e : TypeId) (w : World) : OwnB e w (.slice none 0 0) [] := World.ownsRow_nil w 0 e 1
theorem OwnB.made {e : TypeId} {w : World} {g cap : Nat} {cur : Array Value} {l : List UInt8} (hg : w.heap[g]? = some (.cells cur e (0, 0))) (hc : cur.size = cap)
    (hl : l.length ≤ cap) (hm : cap ≤ maxLen) (h : cur.toList.take l.length = l.map bval) : OwnB e w (.slice (some ⟨g, 0, none⟩) l.length cap) l :=
  ⟨by simp, .inr ⟨g, cap, cur, rfl, Nat.zero_le _, hg, hl, hm, by rw [hc, Nat.mul_one], by rw [Nat.mul_one]; exact h⟩⟩
theorem OwnB.new {e : TypeId} {w : World} {l : List UInt8} (h : l.length ≤ maxLen) :
    OwnB e (w.alloc (.cells (l.map bval).toArray e)) (.slice (some ⟨w.heap.size, 0, none⟩) l.length l.length) l :=
  OwnB.made (heap_alloc_new w _) (by simp) (Nat.le_refl _) h (by rw [List.take_of_length_le (by simp)])
theorem OwnB.chg {e : TypeId} {S : Nat → Prop} {w w' : World} {v : Value} {l : List UInt8} (h : OwnB e w v l) (hg : Chg S w w') (hn : ∀ k, v.ownBlock = some k → ¬ S k) : OwnB e w' v l :=
  ownsRow_chg h hg hn
theorem OwnB.alloc {e : TypeId} {w : World} {v : Value} {l : List UInt8} (h : OwnB e w v l) (o : Obj) : OwnB e (w.alloc o) v l :=
  h.chg ((Chg.refl Nil w).alloc o) (fun _ _ h => h)
theorem OwnB.drewN {e : TypeId} {w : World} {v : Value} {l : List UInt8} (h : OwnB e w v l) (n : Nat) : OwnB e (w.drewN n) v l :=
  h.chg ((Chg.refl Nil w).drewN n) (fun _ _ h => h)
theorem OwnB.lt {e : TypeId} {w : World} {v : Value} {l : List UInt8} (h : OwnB e w v l) : ∀ k, v.ownBlock = some k → k < w.heap.size := ownsRow_lt h
/-- Its value, and its bytes. -/
theorem OwnB.val {e : TypeId} {w : World} {v : Value} {l : List UInt8} (h : OwnB e w v l) :
    ∃ a cap, v = .slice a l.length cap ∧ BytesAt w a l ∧ l.length ≤ maxLen ∧ (∀ x, a = some x → v.ownBlock = some x.block) := by
  rcases h.2 with ⟨rfl, hn⟩ | ⟨g, cap, cur, rfl, _, hg, hnc, hcm, hcs, htake⟩
  · have hl : l = [] := List.eq_nil_of_length_eq_zero hn
    subst hl
    exact ⟨none, 0, rfl, fun i hi => absurd hi (Nat.not_lt_zero _), Nat.zero_le _, fun x hx => by cases hx⟩
  · refine ⟨_, cap, rfl, fun i hi => ⟨g, 0, rfl, ?_⟩, Nat.le_trans hnc hcm, fun x hx => by cases hx; rfl⟩
    rw [Nat.zero_add, cell_of_row w g i cur e (0, 0) hg]
    rw [Nat.mul_one] at htake
    have h1 : (cur.toList.take l.length)[i]? = (l.map bval)[i]? := by rw [htake]
    rw [List.getElem?_take, if_pos hi, List.getElem?_map, List.getElem?_eq_getElem hi] at h1
    simpa using h1

theorem Source.own {P : Program} {e : TypeId} {w : World} {v : Value} {l : List UInt8} (h : OwnB e w v l) : Source P w 1 v l.length (l.map bval) := by
  obtain ⟨a, cap, rfl, hb, _⟩ := h.val
  exact Source.bytes hb

/-- THE STEP, of bytes onto bytes of the call's own. -/
theorem wpList_append_bytes {P : Program} {ops : Array Oper} {rest : List Oper} {o : Oper} {a : Act} {w : World} {Q : Exit → Act → World → Prop} (hgd : o.guard = none) (s x : Operand) (t u : TypeId)
    (ho : o.op = .call { callee := .builtin .append, args := #[s, x], argTypes := #[t, u] })
    {e : TypeId} (hT : SliceT P t e 1 1) (d : TypeDesc) (hu : P.underlying u = some d) (hd : ∀ k, d ≠ .int k)
    (v : Value) (l : List UInt8) (hs : a.eval s = v) (hown : OwnB e w v l)
    (xv : Value) (m : List UInt8) (hx : a.eval x = xv) (hsrc : Source P w 1 xv m.length (m.map bval))
    (hb : l.length + m.length ≤ 140737488355328)
    (h : ∀ v' w', OwnB e w' v' (l ++ m) → Grew w w' v v' → (v' = .slice none 0 0 ↔ v = .slice none 0 0 ∧ m.length = 0) → wpList P ops Q rest (a.put o.dst v') w') : wpList P ops Q (o :: rest) a w :=
  wpList_append_grew hgd s x t u ho hT d hu hd v l.length (l.map bval) hs hown xv m.length (m.map bval) hx hsrc (by unfold maxLen; omega) (by omega) fun v' w' h2 h3 h4 =>
    h v' w' (by unfold OwnB; rw [List.length_append, List.map_append]; exact h2) h3 h4

/-- 'string(b)'. -/
theorem conv_bytes {P : Program} {w : World} {a : Option Addr} {l : List UInt8} {src dst e : TypeId} (hs : P.underlying src = some (.slice e)) (he : P.underlying e = some (.int .u8)) (hd : P.underlying dst = some .string)
    (hb : BytesAt w a l) (cap : Nat) : (convert src dst (.slice a l.length cap)).run P w = .ok (.string ⟨l.toArray⟩) w := by
  rcases a with _ | a
  · have : l = [] := by
      cases l with
      | nil => rfl
      | cons x l => obtain ⟨b, off, h, _⟩ := hb 0 (by simp); cases h
    subst this
    exact run_convert_bytes_nil w src e hs he 0 cap dst hd
  · refine run_convert_bytes_back w src dst e a cap l hs he hd fun j hj => ?_
    obtain ⟨b, off, ha, hc⟩ := hb j hj
    obtain rfl := Option.some.inj ha
    have e1 : (⟨b, off, none⟩ : Addr).add j = ⟨b, off + j, none⟩ := by unfold Addr.add; split <;> simp_all
    rw [e1]
    exact hc

/-- A value that is a slice of these bytes. -/
def IsB (l : List UInt8) (v : Value) (w : World) : Prop := ∃ a cap, v = .slice a l.length cap ∧ BytesAt w a l
theorem IsB.chg {l : List UInt8} {v : Value} {w w' : World} (h : IsB l v w) (hg : Chg Nil w w') : IsB l v w' := by
  obtain ⟨a, cap, rfl, hb⟩ := h
  exact ⟨a, cap, rfl, hg.bytesAt hb (fun _ _ h => h)⟩
theorem OwnB.isB {e : TypeId} {w : World} {v : Value} {l : List UInt8} (h : OwnB e w v l) : IsB l v w := by
  obtain ⟨a, cap, rfl, hb, _⟩ := h.val
  exact ⟨a, cap, rfl, hb⟩

/-- One byte, out of a new block of one cell. -/
theorem Source.one_new {P : Program} {w : World} {e : TypeId} (c : UInt8) {k : Nat} {x : Value} (hx : x = bval c) : Source P (w.alloc (.cells #[x] e)) 1 (.slice (some ⟨w.heap.size, 0, none⟩) 1 k) [c].length ([c].map bval) := by
  subst hx
  exact Source.slice (by simp) (fun j u hj => by
    cases j with
    | zero =>
      simp at hj
      subst hj
      have e1 : (⟨w.heap.size, 0, none⟩ : Addr).add 0 = ⟨w.heap.size, 0, none⟩ := rfl
      rw [e1, cell_of_row _ w.heap.size 0 #[bval c] e (0, 0) (heap_alloc_new w _)]
      rfl
    | succ j => simp at hj) (by simp [bval, Value.oneCell'])
theorem OwnB.one_new {e : TypeId} {w : World} (c : UInt8) {x : Value} (hx : x = bval c) : OwnB e (w.alloc (.cells #[x] e)) (.slice (some ⟨w.heap.size, 0, none⟩) 1 1) [c] := by
  subst hx
  exact OwnB.new (l := [c]) (by simp [maxLen])
theorem bval_nat {n : Nat} (h : n < 256) : bval (UInt8.ofNat n) = .int .u8 (n : Int) := by
  unfold bval
  rw [UInt8.toNat_ofNat']
  congr 1
  omega
end Go.Proofs.YtmaomebnigcgeaaGreatDoor
