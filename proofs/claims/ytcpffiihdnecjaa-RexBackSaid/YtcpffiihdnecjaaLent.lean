/- LentBytes: a copy of bytes with three more behind. -/
import Derived.Test.YtcpffiihdnecjaaRows
import Derived.WalkKit
import Derived.ProofKit
import Derived.OpenShut
import Derived.LoopTactic
import Derived.Below
import Derived.Deep.OwnRows
import Derived.Laws.CopyOwn
import Derived.Laws.BytesArg
namespace Go.Proofs.Ytcpffiihdnecjaa
open Go Go.RowKit
set_option linter.unusedVariables false
set_option linter.unusedSimpArgs false

/-- Bytes lie there. -/
def BRow (w : World) (p : Option Addr) (n c : Nat) (zs : List Int) : Prop :=
  zs.length = n ∧ n ≤ c ∧ (0 < n → ∃ B off, p = some ⟨B, off, none⟩ ∧ ∀ j, j < n → w.cell? ⟨B, off + j, none⟩ = some (.int .u8 (zs.getD j 0)))

def pat (n j : Nat) : Int := 160 + ((n : Int) + j) % 90
/-- The copy, when k of the three bytes behind are laid. -/
def lentL (zs : List Int) (k : Nat) : List Int := zs ++ ((List.range k).map (pat zs.length)) ++ List.replicate (3 - k) 0
def lentV (zs : List Int) (k : Nat) : List Value := (lentL zs k).map (Value.int .u8)

theorem lentL_len (zs : List Int) (k : Nat) (h : k ≤ 3) : (lentL zs k).length = zs.length + 3 := by
  simp [lentL]; omega

theorem lentL_set (zs : List Int) (k : Nat) (h : k < 3) : (lentL zs k).set (zs.length + k) (pat zs.length k) = lentL zs (k + 1) := by
  unfold lentL
  rw [List.append_assoc, List.set_append_right _ _ (by omega), Nat.add_sub_cancel_left, List.append_assoc]
  congr 1
  obtain rfl | rfl | rfl : k = 0 ∨ k = 1 ∨ k = 2 := by omega
  all_goals rfl

theorem lentV_set (zs : List Int) (k : Nat) (h : k < 3) : (lentV zs k).set (zs.length + k) (.int .u8 (pat zs.length k)) = lentV zs (k + 1) := by
  unfold lentV
  rw [← lentL_set zs k h, List.map_set]

theorem lentV_len (zs : List Int) (k : Nat) (h : k ≤ 3) : (lentV zs k).length = zs.length + 3 := by
  unfold lentV; rw [List.length_map, lentL_len zs k h]

theorem cell_of {w : World} {g : Nat} {l : List Value} {t : TypeId} (h : w.heap[g]? = some (.cells l.toArray t (0, 0))) (j : Nat) : w.cell? ⟨g, j, none⟩ = l[j]? := by
  simp [World.cell?, h]
theorem free_of {w : World} {g : Nat} {l : List Value} {t : TypeId} (h : w.heap[g]? = some (.cells l.toArray t (0, 0))) (j : Nat) : w.frozen? ⟨g, j, none⟩ = false := by
  simp [World.frozen?, h]
theorem heap_set {w : World} {g : Nat} {l : List Value} {t : TypeId} (h : w.heap[g]? = some (.cells l.toArray t (0, 0))) (j : Nat) (v : Value) :
    (w.setCell ⟨g, j, none⟩ v).heap[g]? = some (.cells (l.set j v).toArray t (0, 0)) := by
  simp [World.setCell, Array.getElem?_modify, h]

theorem info5 : (Try.prog.info? 5).map (fun i => (i.zero, i.size, i.bytes)) = some (some (.int .u8 0), 1, 1) := by kernel_rfl
theorem size5 : (Try.prog.info? 5).map (·.size) = some 1 := by kernel_rfl

theorem made (n : Nat) : madeCells #[.int .u8 0] n = Array.replicate n (Value.int .u8 0) := by
  apply Array.ext
  · simp [madeCells]
  · intro i h1 h2; simp [madeCells, Nat.mod_one]

theorem splice0 (zs : List Int) : splice (List.replicate (zs.length + 3) (Value.int .u8 0)) 0 (zs.map (Value.int .u8)) = lentV zs 0 := by
  simp [splice, lentV, lentL]

set_option maxHeartbeats 1600000 in
set_option maxRecDepth 100000 in
theorem lent_any (p : Option Addr) (n c : Nat) (zs : List Int) (w : World) (h : BRow w p n c zs) (hn : n ≤ 100) :
    Calls Try.prog 8 #[.slice p n c] w fun e w' => e = .returned (.slice (some ⟨w.heap.size, 0, none⟩) n (n + 3)) ∧
      w'.heap[w.heap.size]? = some (.cells (lentV zs 3).toArray 5 (0, 0)) ∧ Below w.heap.size w w' := by
  obtain ⟨hl, hc, hcell⟩ := h
  have HL : Hid (zs.length = n) := hl
  clear hl
  have hmk : ∀ w : World, (Instr.makeSlice 22 (.int .i64 ((n : Int) + 3)) (.int .i64 ((n : Int) + 3))).run Try.prog w = .ok (.slice (some ⟨w.heap.size, 0, none⟩) (n + 3) (n + 3)) (w.alloc (.cells (Array.replicate (n + 3) (.int .u8 0)) 5)) := by
    intro w
    have := run_make_row' (P := Try.prog) 22 5 (.int .u8 0) 1 Try.underlying22 info5 rfl .i64 .i64 (n + 3) (by omega) (by omega) w
    rw [made, show ((n + 3 : Nat) : Int) = (n : Int) + 3 by omega] at this
    exact this
  have hnew : (w.alloc (.cells (Array.replicate (n + 3) (.int .u8 0)) 5)).heap[w.heap.size]? = some (.cells (List.replicate (n + 3) (.int .u8 0)).toArray 5 (0, 0)) := by
    show (w.heap.push _)[w.heap.size]? = _
    rw [Array.getElem?_push_size, List.toArray_replicate]
  have hsrc : 0 < (zs.map (Value.int .u8)).length → (some ⟨w.heap.size, 0, none⟩ : Option Addr) = some ⟨w.heap.size, 0, none⟩ ∧ ∃ ad, p = some ad ∧ ∀ j v, (zs.map (Value.int .u8))[j]? = some v →
      (w.alloc (.cells (Array.replicate (n + 3) (.int .u8 0)) 5)).cell? (ad.add j) = some v := by
    intro hpos
    rw [List.length_map, HL.out] at hpos
    obtain ⟨B, off, rfl, hx⟩ := hcell hpos
    refine ⟨rfl, _, rfl, fun j v hj => ?_⟩
    rw [List.getElem?_map] at hj
    cases hz : zs[j]? with
    | none => rw [hz] at hj; cases hj
    | some z =>
      rw [hz] at hj
      simp only [Option.map_some, Option.some.injEq] at hj
      subst hj
      have hjn : j < n := by rw [← HL.out]; exact (List.getElem?_eq_some_iff.1 hz).1
      have h1 := hx j hjn
      rw [List.getD, hz] at h1
      have : (⟨B, off, none⟩ : Addr).add j = ⟨B, off + j, none⟩ := by unfold Addr.add; split <;> simp_all
      rw [this, World.cell?_alloc_past]
      · exact h1
      · show B < _
        simp only [World.cell?] at h1
        split at h1
        · rename_i h2; exact (Array.getElem?_eq_some_iff.1 h2).1
        · cases h1
  have hb0 : Below w.heap.size w (w.alloc (.cells (Array.replicate (n + 3) (.int .u8 0)) 5)) := (Below.refl _ _).alloc (Nat.le_refl _) _
  have HS : Hid (splice (List.replicate (n + 3) (Value.int .u8 0)) 0 (zs.map (Value.int .u8)) = lentV zs 0) := by
    have := splice0 zs
    rwa [HL.out] at this
  clear hcell
  go_enter Try.func8, Try.ntmps8
  go_wp2_with (refine wpList_copy_splice rfl (.tmp 9) (.tmp 10) 22 22 rfl 5 Try.underlying22 size5 (some ⟨w.heap.size, 0, none⟩) p (n + 3) (n + 3) n c rfl rfl w.heap.size 0 (List.replicate (n + 3) (.int .u8 0)) 5 hnew (zs.map (Value.int .u8)) (by rw [List.length_map, HL.out]; exact (Nat.min_eq_left (by omega)).symm) hsrc (by rw [List.length_map, List.length_replicate, HL.out]; omega) (by intro v hv; obtain ⟨z, _, rfl⟩ := List.mem_map.1 hv; rfl) w.heap.size w hb0 (Nat.le_refl _) ?_; intro w1 hw1 hb1)
  have hw1 : w1.heap[w.heap.size]? = some (.cells (lentV zs 0).toArray 5 (0, 0)) := by
    have := hw1.out
    rwa [HS.out] at this
  clear HS hsrc hnew hmk hb0
  go_loopw [4] (fun i wr => ∃ k : Nat, k ≤ 3 ∧ i = .int .i64 ((n : Int) + k) ∧ wr.heap[w.heap.size]? = some (.cells (lentV zs k).toArray 5 (0, 0)) ∧ Below w.heap.size w wr) (fun i _ => n + 3 - (intOf i).toNat)
  case atStart => exact ⟨0, by omega, by simp, hw1, hb1⟩
  case round =>
    obtain ⟨k, hk, rfl, hh, hb⟩ := hrel
    by_cases hlt : k < 3
    · have hidx : ((n : Int) + k).toNat = n + k := by omega
      have hf := free_of hh (n + k)
      obtain ⟨m, hc⟩ : ∃ m : Int, wr.cell? ⟨w.heap.size, n + k, none⟩ = some (.int .u8 m) := by
        rw [cell_of hh]
        have hlt2 : n + k < (lentL zs k).length := by rw [lentL_len zs k hk, HL.out]; omega
        exact ⟨(lentL zs k)[n + k], by unfold lentV; rw [List.getElem?_map, List.getElem?_eq_getElem hlt2]; rfl⟩
      have HH : Hid (wr.heap[w.heap.size]? = some (.cells (lentV zs k).toArray 5 (0, 0))) := hh
      clear hh
      go_wp2
      go_roundw
      case rel =>
        refine ⟨k + 1, by omega, by go_num, ?_, hb.setCell (Nat.le_refl _) _⟩
        have h1 := heap_set HH.out (n + k) (.int .u8 (160 + ((n : Int) + k) % 90))
        have e := lentV_set zs k hlt
        unfold pat at e
        rw [HL.out] at e
        rw [e] at h1
        exact h1
      case measure => simp [intOf]; omega
    · obtain rfl : k = 3 := by omega
      have HH : Hid (wr.heap[w.heap.size]? = some (.cells (lentV zs 3).toArray 5 (0, 0))) := hh
      clear hh
      go_wp2
      go_ret
      exact ⟨rfl, HH.out, hb⟩

/-- 'string(a) == string(b)' of two that read alike. -/
theorem same_any (p q : Option Addr) (n c d : Nat) (zs : List Int) (w : World) (h1 : BRow w p n c zs) (h2 : BRow w q n d zs) :
    Calls Try.prog 14 #[.slice p n c, .slice q n d] w fun e w' => e = .returned (.bool true) ∧ w' = w := by
  have key : ∀ (p : Option Addr) (c : Nat), BRow w p n c zs → ∃ s : ByteArray, s = strOfNums zs ∧ (convert 22 9 (.slice p n c)).run Try.prog w = .ok (.string s) w := by
    intro p c ⟨hl, hc, hcell⟩
    refine ⟨_, rfl, ?_⟩
    rcases Nat.eq_zero_or_pos n with hn | hn
    · subst hn
      obtain rfl : zs = [] := List.eq_nil_of_length_eq_zero hl
      cases p with
      | none => exact run_convert_bytes_nil (P := Try.prog) w 22 5 Try.underlying22 Try.underlying5 0 c 9 Try.underlying9
      | some a => rw [run_convert_bytes_string w 22 9 5 _ 0 c Try.underlying22 Try.underlying5 Try.underlying9, run_bytesToString w _ 0 c [] rfl]; rfl
    · obtain ⟨B, off, rfl, hx⟩ := hcell hn
      exact run_convert_bytes_arg (P := Try.prog) w 22 5 Try.underlying22 Try.underlying5 B off n c zs hl hx 9 Try.underlying9
  obtain ⟨s, e1, k1⟩ := key p c h1
  obtain ⟨s', e2, k2⟩ := key q d h2
  obtain rfl : s = s' := e1.trans e2.symm
  clear e1 e2 h1 h2 key
  go_enter Try.func14, Try.ntmps14
  go_wp2
  go_ret
  simp
end Go.Proofs.Ytcpffiihdnecjaa
