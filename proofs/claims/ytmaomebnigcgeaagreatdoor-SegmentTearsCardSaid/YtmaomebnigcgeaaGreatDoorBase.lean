/-
  Bytes in memory: a slice of bytes as a list. Over any program.
-/
import Derived.WalkKit
import Derived.WalkLawsBesides
import Derived.WalkSpells
import Derived.ProofKit
import Derived.Laws.BytesArg
import Derived.Laws.BitsAllLaws
import Derived.Lib.Hide
namespace Go.Proofs.YtmaomebnigcgeaaGreatDoor
open Go.RowKit

/-- A byte as a value. -/
def bval (c : UInt8) : Value := .int .u8 (c.toNat : Int)

/-- A slice's first cells are these bytes (nil: there are none). -/
def BytesAt (w : World) (a : Option Addr) (l : List UInt8) : Prop :=
  ∀ i (h : i < l.length), ∃ b off, a = some ⟨b, off, none⟩ ∧ w.cell? ⟨b, off + i, none⟩ = some (bval l[i])

theorem BytesAt.kept {w w' : World} {a : Option Addr} {l : List UInt8} (h : BytesAt w a l)
    (hk : ∀ b off i v, a = some ⟨b, off, none⟩ → w.cell? ⟨b, off + i, none⟩ = some v → w'.cell? ⟨b, off + i, none⟩ = some v) : BytesAt w' a l := by
  intro i hi
  obtain ⟨b, off, ha, hc⟩ := h i hi
  exact ⟨b, off, ha, hk b off i _ ha hc⟩

theorem ret_int {k : IntKind} {a b : Int} (h : a = b) : Ending.returned (.int k a) = .returned (.int k b) := by rw [h]

theorem take_snoc {α : Type} (l : List α) (k : Nat) (h : k < l.length) : l.take (k + 1) = l.take k ++ [l[k]] := by
  rw [List.take_succ_eq_append_getElem h]

/-- The numbers of a byte slice, as bytes. -/
def bytesOf (zs : List Int) : List UInt8 := zs.map fun n => UInt8.ofNat n.toNat
theorem bytesOf_length (zs : List Int) : (bytesOf zs).length = zs.length := by simp [bytesOf]
theorem bval_of {z : Int} (h : (Lit.int .u8 z).wf = true) : bval (UInt8.ofNat z.toNat) = .int .u8 z := by
  have hz : 0 ≤ z ∧ z ≤ 255 := by
    have := h
    simp [Lit.wf, IntKind.min, IntKind.max, IntKind.signed, IntKind.bits] at this
    omega
  unfold bval
  have : ((UInt8.ofNat z.toNat).toNat : Int) = z := by
    rw [UInt8.toNat_ofNat']
    omega
  rw [this]

/-- OUT OF AN ARGUMENT. -/
theorem bytesAt_of_ints {w : World} {x : Addr} {zs : List Int} {len : Nat} (hl : len ≤ zs.length)
    (hcell : ∀ i, i < zs.length → w.cell? (x.add i) = some (.int .u8 (zs.getD i 0))) (hwz : ∀ n ∈ zs, (Lit.int .u8 n).wf = true) :
    BytesAt w (some x) ((bytesOf zs).take len) := by
  intro i hi
  rw [List.length_take, bytesOf_length] at hi
  have h0 := hcell i (by omega)
  obtain ⟨b, off, spot⟩ := x
  have hspot : spot = none := by simpa [Addr.add] using World.cell?_spot (hcell 0 (by omega))
  subst hspot
  refine ⟨b, off, rfl, ?_⟩
  have e : (⟨b, off, none⟩ : Addr).add i = ⟨b, off + i, none⟩ := by unfold Addr.add; split <;> simp_all
  rw [e] at h0
  rw [h0]
  have hiz : i < zs.length := by omega
  simp only [List.getElem_take, bytesOf, List.getElem_map, List.getD_eq_getElem?_getD, List.getElem?_eq_getElem hiz, Option.getD_some]
  rw [bval_of (hwz _ (List.getElem_mem hiz))]
end Go.Proofs.YtmaomebnigcgeaaGreatDoor
