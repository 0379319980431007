/- rex.Read and the document's Read: the runs, part 1. -/
import Derived.Test.YtcpffiihdnecjaaRead0
namespace Go.Proofs.Ytcpffiihdnecjaa
open Go Go.RowKit Ev
set_option linter.unusedVariables false

theorem r_nx0 : ∀ (r : List Int) (t fr cap : Nat), ((List.range' 0 64).all fun x => Nat.beq x 102 || Nat.beq x 242 || Nat.beq x 243 || bothB (.ofNat x :: r) t fr cap) = true := fun r t fr cap => by kernel_rfl
theorem r_nx1 : ∀ (r : List Int) (t fr cap : Nat), ((List.range' 64 64).all fun x => Nat.beq x 102 || Nat.beq x 242 || Nat.beq x 243 || bothB (.ofNat x :: r) t fr cap) = true := fun r t fr cap => by kernel_rfl
theorem r_nx2 : ∀ (r : List Int) (t fr cap : Nat), ((List.range' 128 64).all fun x => Nat.beq x 102 || Nat.beq x 242 || Nat.beq x 243 || bothB (.ofNat x :: r) t fr cap) = true := fun r t fr cap => by kernel_rfl
theorem r_nx3 : ∀ (r : List Int) (t fr cap : Nat), ((List.range' 192 64).all fun x => Nat.beq x 102 || Nat.beq x 242 || Nat.beq x 243 || bothB (.ofNat x :: r) t fr cap) = true := fun r t fr cap => by kernel_rfl
theorem r_n (r : List Int) (t fr cap x : Nat) (hx : x < 256) (hs : (Nat.beq x 102 || Nat.beq x 242 || Nat.beq x 243) = false) : bothB (.ofNat x :: r) t fr cap = true := by
  have key : (Nat.beq x 102 || Nat.beq x 242 || Nat.beq x 243 || bothB (.ofNat x :: r) t fr cap) = true := by
    rcases (by omega : x < 64 ∨ (64 ≤ x ∧ x < 128) ∨ (128 ≤ x ∧ x < 192) ∨ (192 ≤ x ∧ x < 256)) with h | h | h | h
    · exact List.all_eq_true.1 (r_nx0 r t fr cap) x (List.mem_range'_1.2 (by omega))
    · exact List.all_eq_true.1 (r_nx1 r t fr cap) x (List.mem_range'_1.2 (by omega))
    · exact List.all_eq_true.1 (r_nx2 r t fr cap) x (List.mem_range'_1.2 (by omega))
    · exact List.all_eq_true.1 (r_nx3 r t fr cap) x (List.mem_range'_1.2 (by omega))
  rw [hs, Bool.false_or] at key
  exact key

theorem r_a0 : ∀ (t fr cap : Nat), bothB [102] t fr cap = true := fun t fr cap => by kernel_rfl
theorem r_ax0 : ∀ (r : List Int) (t fr cap : Nat), ((List.range' 0 64).all fun x => Nat.beq x 242 || Nat.beq x 243 || bothB (102 :: .ofNat x :: r) t fr cap) = true := fun r t fr cap => by kernel_rfl
theorem r_ax1 : ∀ (r : List Int) (t fr cap : Nat), ((List.range' 64 64).all fun x => Nat.beq x 242 || Nat.beq x 243 || bothB (102 :: .ofNat x :: r) t fr cap) = true := fun r t fr cap => by kernel_rfl
theorem r_ax2 : ∀ (r : List Int) (t fr cap : Nat), ((List.range' 128 64).all fun x => Nat.beq x 242 || Nat.beq x 243 || bothB (102 :: .ofNat x :: r) t fr cap) = true := fun r t fr cap => by kernel_rfl
theorem r_ax3 : ∀ (r : List Int) (t fr cap : Nat), ((List.range' 192 64).all fun x => Nat.beq x 242 || Nat.beq x 243 || bothB (102 :: .ofNat x :: r) t fr cap) = true := fun r t fr cap => by kernel_rfl
theorem r_a (r : List Int) (t fr cap x : Nat) (hx : x < 256) (hs : (Nat.beq x 242 || Nat.beq x 243) = false) : bothB (102 :: .ofNat x :: r) t fr cap = true := by
  have key : (Nat.beq x 242 || Nat.beq x 243 || bothB (102 :: .ofNat x :: r) t fr cap) = true := by
    rcases (by omega : x < 64 ∨ (64 ≤ x ∧ x < 128) ∨ (128 ≤ x ∧ x < 192) ∨ (192 ≤ x ∧ x < 256)) with h | h | h | h
    · exact List.all_eq_true.1 (r_ax0 r t fr cap) x (List.mem_range'_1.2 (by omega))
    · exact List.all_eq_true.1 (r_ax1 r t fr cap) x (List.mem_range'_1.2 (by omega))
    · exact List.all_eq_true.1 (r_ax2 r t fr cap) x (List.mem_range'_1.2 (by omega))
    · exact List.all_eq_true.1 (r_ax3 r t fr cap) x (List.mem_range'_1.2 (by omega))
  rw [hs, Bool.false_or] at key
  exact key

end Go.Proofs.Ytcpffiihdnecjaa
