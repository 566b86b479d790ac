/-
  DiskPlays: an operation by its number, of both disks.
-/
import Derived.Test.YthjdkhjdgmnliaaGreatDoorDkPlL
set_option linter.unusedSimpArgs false
set_option linter.unusedVariables false
namespace Go.Proofs.YthjdkhjdgmnliaaGreatDoor
open Go.RowKit Go.Maps Go.Sort Go.Shelf

def wordOf : Nat → ByteArray
  | 0 => ⟨#[109, 97, 107, 101]⟩
  | 1 => ⟨#[97, 100, 100]⟩
  | 2 => ⟨#[99, 117, 116]⟩
  | 3 => ⟨#[115, 121, 110, 99]⟩
  | 4 => ⟨#[114, 101, 110, 97, 109, 101]⟩
  | _ => ⟨#[114, 101, 109, 111, 118, 101]⟩
theorem word_get {k : Nat} (h : k < 6) : dwords[k]? = some (.string (wordOf k)) := by
  match k, h with
  | 0, _ => rfl
  | 1, _ => rfl
  | 2, _ => rfl
  | 3, _ => rfl
  | 4, _ => rfl
  | 5, _ => rfl
/-- The operation of this number. -/
def Dk.act (d : Dk) : Nat → Nm → Nm → List UInt8 → Int → Nat × Dk
  | 0, x, _, _, _ => d.make x
  | 1, x, _, l, _ => d.add x l
  | 2, x, _, _, n => d.cut x n
  | 3, x, _, _, _ => d.sync x
  | 4, x, y, _, _ => d.rename x y
  | _, x, _, _, _ => d.remove x
theorem rdo_any {w : World} {q : Nat} {T : Nat → Prop} {d : Dk} (h : RefAt w q T d) (hok : d.Ok) {k : Nat} (hk : k < 6) (x y : Nm) (hx : x.length ≤ 1000) (hy : y.length ≤ 1000) (ba : Option Addr) (l : List UInt8) (bc : Nat) (hl : l.length ≤ 4611686018427387904)
    (hby : BytesAt w ba l) (hbn : l ≠ [] → ∀ z, ba = some z → ¬ T z.block) (n : Int) :
    Calls Tryz.prog 12 #[.pointer (some ⟨q, 0, none⟩), .string (wordOf k), .string ⟨x.toArray⟩, .string ⟨y.toArray⟩, .slice ba l.length bc, .int .i64 n] w fun e w' =>
      e = .returned (.int .i64 ((d.act k x y l n).1 : Nat)) ∧ RefAt w' q (Gr T w w') (d.act k x y l n).2 ∧ Chg T w w' := by
  match k, hk with
  | 0, _ => exact rdo_make h hok x y hx ba l.length bc n
  | 1, _ => exact rdo_add h hok x y ba l bc hl hby hbn n
  | 2, _ => exact rdo_cut h hok x y ba l.length bc n
  | 3, _ => exact rdo_sync h hok x y ba l.length bc n
  | 4, _ => exact rdo_rename h hok x y hy ba l.length bc n
  | 5, _ => exact rdo_remove h hok x y ba l.length bc n
end Go.Proofs.YthjdkhjdgmnliaaGreatDoor
