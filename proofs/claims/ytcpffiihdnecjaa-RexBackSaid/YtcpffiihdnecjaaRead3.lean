/- rex.Read and the document's Read: the runs, part 3. -/
import Derived.Test.YtcpffiihdnecjaaRead0
namespace Go.Proofs.Ytcpffiihdnecjaa
open Go Go.RowKit Ev
set_option linter.unusedVariables false

theorem r_d0 : ∀ (t fr cap : Nat), bothB [242] t fr cap = true := fun t fr cap => by kernel_rfl
theorem r_dx0 : ∀ (r : List Int) (t fr cap : Nat), ((List.range' 0 64).all fun x => false || bothB (242 :: .ofNat x :: r) t fr cap) = true := fun r t fr cap => by kernel_rfl
theorem r_dx1 : ∀ (r : List Int) (t fr cap : Nat), ((List.range' 64 64).all fun x => false || bothB (242 :: .ofNat x :: r) t fr cap) = true := fun r t fr cap => by kernel_rfl
theorem r_dx2 : ∀ (r : List Int) (t fr cap : Nat), ((List.range' 128 64).all fun x => false || bothB (242 :: .ofNat x :: r) t fr cap) = true := fun r t fr cap => by kernel_rfl
theorem r_dx3 : ∀ (r : List Int) (t fr cap : Nat), ((List.range' 192 64).all fun x => false || bothB (242 :: .ofNat x :: r) t fr cap) = true := fun r t fr cap => by kernel_rfl
theorem r_d (r : List Int) (t fr cap x : Nat) (hx : x < 256) (hs : (false) = false) : bothB (242 :: .ofNat x :: r) t fr cap = true := by
  have key : (false || bothB (242 :: .ofNat x :: r) t fr cap) = true := by
    rcases (by omega : x < 64 ∨ (64 ≤ x ∧ x < 128) ∨ (128 ≤ x ∧ x < 192) ∨ (192 ≤ x ∧ x < 256)) with h | h | h | h
    · exact List.all_eq_true.1 (r_dx0 r t fr cap) x (List.mem_range'_1.2 (by omega))
    · exact List.all_eq_true.1 (r_dx1 r t fr cap) x (List.mem_range'_1.2 (by omega))
    · exact List.all_eq_true.1 (r_dx2 r t fr cap) x (List.mem_range'_1.2 (by omega))
    · exact List.all_eq_true.1 (r_dx3 r t fr cap) x (List.mem_range'_1.2 (by omega))
  rw [hs, Bool.false_or] at key
  exact key

theorem r_e0 : ∀ (t fr cap : Nat), bothB [243] t fr cap = true := fun t fr cap => by kernel_rfl
theorem r_ex0 : ∀ (r : List Int) (t fr cap : Nat), ((List.range' 0 64).all fun x => false || bothB (243 :: .ofNat x :: r) t fr cap) = true := fun r t fr cap => by kernel_rfl
theorem r_ex1 : ∀ (r : List Int) (t fr cap : Nat), ((List.range' 64 64).all fun x => false || bothB (243 :: .ofNat x :: r) t fr cap) = true := fun r t fr cap => by kernel_rfl
theorem r_ex2 : ∀ (r : List Int) (t fr cap : Nat), ((List.range' 128 64).all fun x => false || bothB (243 :: .ofNat x :: r) t fr cap) = true := fun r t fr cap => by kernel_rfl
theorem r_ex3 : ∀ (r : List Int) (t fr cap : Nat), ((List.range' 192 64).all fun x => false || bothB (243 :: .ofNat x :: r) t fr cap) = true := fun r t fr cap => by kernel_rfl
theorem r_e (r : List Int) (t fr cap x : Nat) (hx : x < 256) (hs : (false) = false) : bothB (243 :: .ofNat x :: r) t fr cap = true := by
  have key : (false || bothB (243 :: .ofNat x :: r) t fr cap) = true := by
    rcases (by omega : x < 64 ∨ (64 ≤ x ∧ x < 128) ∨ (128 ≤ x ∧ x < 192) ∨ (192 ≤ x ∧ x < 256)) with h | h | h | h
    · exact List.all_eq_true.1 (r_ex0 r t fr cap) x (List.mem_range'_1.2 (by omega))
    · exact List.all_eq_true.1 (r_ex1 r t fr cap) x (List.mem_range'_1.2 (by omega))
    · exact List.all_eq_true.1 (r_ex2 r t fr cap) x (List.mem_range'_1.2 (by omega))
    · exact List.all_eq_true.1 (r_ex3 r t fr cap) x (List.mem_range'_1.2 (by omega))
  rw [hs, Bool.false_or] at key
  exact key

end Go.Proofs.Ytcpffiihdnecjaa
