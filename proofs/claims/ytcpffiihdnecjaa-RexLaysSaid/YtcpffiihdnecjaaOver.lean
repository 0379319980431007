/- OverBytes: a slice of bytes whose room is known to hold bytes is written over; nothing else turns. -/
import Derived.Test.YtcpffiihdnecjaaRows
import Derived.WalkKit
import Derived.ProofKit
import Derived.OpenShut
import Derived.LoopTactic
import Derived.Below
namespace Go.Proofs.Ytcpffiihdnecjaa
open Go Go.RowKit
set_option linter.unusedVariables false

/-- Bytes lie there, not frozen. -/
def ByteRow (w : World) (B off n : Nat) : Prop := ∀ j, j < n → (∃ m : Int, w.cell? ⟨B, off + j, none⟩ = some (.int .u8 m)) ∧ w.frozen? ⟨B, off + j, none⟩ = false

theorem ByteRow.set {w : World} {B off n : Nat} (h : ByteRow w B off n) (k : Nat) (m : Int) : ByteRow (w.setCell ⟨B, off + k, none⟩ (.int .u8 m)) B off n := by
  intro j hj
  obtain ⟨⟨m', h1⟩, h2⟩ := h j hj
  refine ⟨?_, by rw [World.frozen?_setCell]; exact h2⟩
  by_cases e : k = j
  · subst e
    exact ⟨m, World.cell?_setCell_same _ _ _ h1⟩
  · exact ⟨m', by rw [World.cell?_setCell_other _ _ _ _ (fun h => e (by simp only [Addr.mk.injEq, and_true, true_and] at h; omega))]; exact h1⟩

set_option maxHeartbeats 800000 in
theorem over_any (N B off n cap : Nat) (w : World) (hN : N ≤ B) (hlen : n ≤ cap) (hcap : cap ≤ 9223372036854775807) (hrow : ByteRow w B off cap) :
    Calls Try.prog 15 #[.slice (some ⟨B, off, none⟩) n cap] w fun e w' => e = .returned (.tuple #[]) ∧ Below N w w' := by
  go_enter Try.func15, Try.ntmps15
  go_wp2
  go_loopw [3] (fun i wr => ∃ k : Nat, k ≤ cap ∧ i = .int .i64 k ∧ Below N w wr ∧ ByteRow wr B off cap) (fun i _ => cap - (intOf i).toNat)
  case atStart => exact ⟨0, Nat.zero_le _, rfl, .refl _ _, hrow⟩
  case round =>
    obtain ⟨k, hk, rfl, hb, hr⟩ := hrel
    by_cases hlt : k < cap
    · obtain ⟨⟨m, hc⟩, hf⟩ := hr k hlt
      go_wp2
      go_roundw
      case rel => exact ⟨k + 1, by omega, by go_num, hb.setCell hN _, hr.set k _⟩
      case measure => simp [intOf]; omega
    · go_wp2
      go_end0
      exact ⟨rfl, hb⟩

theorem over_nil (N : Nat) (w : World) : Calls Try.prog 15 #[.slice none 0 0] w fun e w' => e = .returned (.tuple #[]) ∧ Below N w w' := by
  go_enter Try.func15, Try.ntmps15
  go_wp2
  refine wp_loop_rounds 1 ?_
  rw [rounds_succ]
  go_wp2
  go_end0
  exact ⟨rfl, .refl _ _⟩
end Go.Proofs.Ytcpffiihdnecjaa
