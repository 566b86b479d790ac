/-
  DiskSafe, plain: what lies on a disk with one file.
-/
import Derived.Test.YthjdkhjdgmnliaaDoorDkL
set_option linter.unusedSimpArgs false
namespace Go.Proofs.YthjdkhjdgmnliaaDoor

def one (room : Nat) (x : Nm) (f : Fl) : Dk := ⟨[(x, f)], room, -1⟩
theorem one_find (room : Nat) (x : Nm) (f : Fl) : (one room x f).find x = some f := by simp [one, Dk.find, List.lookup]
theorem one_step (room : Nat) (x : Nm) (f : Fl) : (one room x f).step = one room x f := rfl
theorem one_does (room : Nat) (x : Nm) (f : Fl) : (one room x f).does = true := rfl
theorem one_turn (room : Nat) (x : Nm) (f g : Fl) : (one room x f).turn x g = one room x g := by simp [one, Dk.turn]
theorem fresh_make {room : Nat} {x : Nm} (h : dkName x = true) : (Dk.fresh room).make x = (0, one room x ⟨[], 0⟩) := by
  unfold Dk.make
  rw [show (Dk.fresh room).does = true from rfl, if_neg (by simp)]
  rw [if_neg (by rw [h]; decide)]
  rfl
theorem one_add {room : Nat} {x : Nm} {f : Fl} {b : List UInt8} (h : f.bytes.length + b.length ≤ room) : (one room x f).add x b = (0, one room x ⟨f.bytes ++ b, f.safe⟩) := by
  unfold Dk.add Dk.at
  rw [one_does, if_neg (by simp), one_find, one_step]
  have hu : (one room x f).used = f.bytes.length := by simp [one, Dk.used]
  have hc : ¬ (one room x f).room < (one room x f).used + b.length := by rw [hu]; show ¬ room < _; omega
  simp only [if_neg hc, one_turn]
theorem one_sync (room : Nat) (x : Nm) (f : Fl) : (one room x f).sync x = (0, one room x ⟨f.bytes, f.bytes.length⟩) := by
  unfold Dk.sync Dk.at
  rw [one_does, if_neg (by simp), one_find, one_step]
  simp only [one_turn]
theorem one_crash (room : Nat) (x : Nm) (f : Fl) (fates : List UInt8) : (one room x f).crash fates = one room x (crashed f fates 0) := by
  have hl : (one room x f).list [] = [x] := by
    unfold Dk.list
    have : (one room x f).names.filter (fun y => ([] : Nm).isPrefixOf y) = [x] := by simp [one, Dk.names]
    rw [this]
    simp [sortN]
  unfold Dk.crash
  rw [hl]
  show ({ (one room x f).crash1 fates 0 x with left := -1 } : Dk) = _
  unfold Dk.crash1
  rw [one_find]
  show ({ (one room x f).turn x (crashed f fates 0) with left := -1 } : Dk) = _
  rw [one_turn]
  rfl
theorem one_read (room : Nat) (x : Nm) (f : Fl) (h : f.bytes.length ≤ 1048576) (m : Int) (hm : (f.bytes.length : Int) ≤ m) : (one room x f).read x 0 m = f.bytes := by
  unfold Dk.read
  rw [one_find]
  show readOf f.bytes 0 m = f.bytes
  unfold readOf
  by_cases h0 : m ≤ 0
  · have : f.bytes = [] := List.eq_nil_of_length_eq_zero (by omega)
    rw [if_pos (by omega), this]
  · rw [if_neg (by omega)]
    simp only [Int.toNat_zero, List.drop_zero]
    exact List.take_of_length_le (by omega)
/-- What a crash leaves begins with what was safe and is the beginning of what it was. -/
theorem crashed_prefix {f : Fl} (h : f.safe ≤ f.bytes.length) (fates : List UInt8) (i : Nat) : f.safe ≤ (crashed f fates i).bytes.length ∧ (crashed f fates i).bytes = f.bytes.take (crashed f fates i).bytes.length ∧ (crashed f fates i).safe = (crashed f fates i).bytes.length ∧ (crashed f fates i).bytes.length ≤ f.bytes.length := by
  have hk : keepOf f fates i ≤ f.bytes.length ∧ f.safe ≤ keepOf f fates i := by
    unfold keepOf
    split <;> omega
  have hl : (crashed f fates i).bytes.length = keepOf f fates i := by
    show (f.bytes.take (keepOf f fates i)).length = _
    rw [List.length_take]; omega
  rw [hl]
  exact ⟨hk.2, rfl, rfl, hk.1⟩
end Go.Proofs.YthjdkhjdgmnliaaDoor
