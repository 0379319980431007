/- KeptBytes: the copy still reads so. -/
import Derived.Test.YtcpffiihdnecjaaLent
import Derived.Deep.RegionHeld3
namespace Go.Proofs.Ytcpffiihdnecjaa
open Go Go.RowKit
set_option linter.unusedVariables false
set_option linter.unusedSimpArgs false

theorem BRow.below {B : Nat} {w w' : World} (hb : Below B w w') {p : Option Addr} {n c : Nat} {zs : List Int} (h : BRow w p n c zs) (hp : ∀ a, p = some a → 0 < n → a.block < B) : BRow w' p n c zs := by
  obtain ⟨h1, h2, h3⟩ := h
  refine ⟨h1, h2, fun hn => ?_⟩
  obtain ⟨b, off, rfl, hc⟩ := h3 hn
  have hlt : b < B := hp _ rfl hn
  exact ⟨b, off, rfl, fun j hj => by rw [hb.cell (p := ⟨b, off + j, none⟩) hlt]; exact hc j hj⟩

theorem brow_of {w : World} {g : Nat} {xs : List Int} {t : TypeId} (h : w.heap[g]? = some (.cells (xs.map (Value.int .u8)).toArray t (0, 0))) (n : Nat) (hn : xs.length = n) : BRow w (some ⟨g, 0, none⟩) n n xs := by
  refine ⟨hn, Nat.le_refl _, fun _ => ⟨g, 0, rfl, fun j hj => ?_⟩⟩
  rw [Nat.zero_add, cell_of h, List.getElem?_map, List.getD, List.getElem?_eq_getElem (by omega)]
  rfl

theorem blk_lt {w : World} {p : Option Addr} {n c : Nat} {zs : List Int} (h : BRow w p n c zs) : ∀ a, p = some a → 0 < n → a.block < w.heap.size := by
  intro a ha hn
  obtain ⟨b, off, rfl, hc⟩ := h.2.2 hn
  cases ha
  have := hc 0 hn
  simp only [World.cell?] at this
  split at this
  · rename_i h2; exact (Array.getElem?_eq_some_iff.1 h2).1
  · cases this

set_option maxHeartbeats 1600000 in
set_option maxRecDepth 100000 in
theorem kept_any (g : Nat) (p : Option Addr) (n c : Nat) (zs : List Int) (w : World) (h : BRow w p n c zs) (hn : n ≤ 100) (hg : w.heap[g]? = some (.cells (lentV zs 3).toArray 5 (0, 0))) :
    Calls Try.prog 11 #[.slice (some ⟨g, 0, none⟩) n (n + 3), .slice p n c] w fun e w' => e = .returned (.bool true) ∧ Below w.heap.size w w' := by
  have HG : Hid (BRow w (some ⟨g, 0, none⟩) (n + 3) (n + 3) (lentL zs 3)) := brow_of hg _ (by rw [lentL_len zs 3 (Nat.le_refl _), h.1])
  have HB : Hid (BRow w p n c zs) := h
  have HZ : Hid (zs.length = n) := h.1
  have call8 : Calls Try.prog 8 #[.slice p n c] w.drew fun e w1 => e = .returned (.slice (some ⟨w.heap.size, 0, none⟩) n (n + 3)) ∧ Hid (BRow w1 (some ⟨w.heap.size, 0, none⟩) (n + 3) (n + 3) (lentL zs 3)) ∧ Hid (BRow w1 (some ⟨g, 0, none⟩) (n + 3) (n + 3) (lentL zs 3)) ∧ Below w.heap.size w w1 := by
    refine (lent_any p n c zs w.drew HB.out hn).mono ?_
    rintro e w1 ⟨he, h1, h2⟩
    have hb : Below w.heap.size w w1 := ((Below.refl _ w).drew).trans h2
    exact ⟨he, brow_of h1 _ (by rw [lentL_len zs 3 (Nat.le_refl _), HZ.out]), BRow.below hb HG.out (fun a ha h0 => blk_lt HG.out a ha h0), hb⟩
  clear hg h
  have f1 : IntKind.i64.wrap ((n : Int) + 3) = (n : Int) + 3 := IntWalk.i64_in _ (by omega)
  have f2 : (0 : Int) ≤ (n : Int) + 3 := by omega
  have f3 : ((n : Int) + 3).toNat = n + 3 := by omega
  have f4 : (0 : Int) ≤ (n : Int) := by omega
  go_enter Try.func11, Try.ntmps11
  go_wp2
  go_region_held3 (fun _ => True) (exact trivial) (first
    | (go_at_call 8; refine call8.mono ?_; rintro e w1 ⟨rfl, H1, H2, hb1⟩)
    | (go_at_call 14; refine (same_any _ _ _ _ _ _ _ H2.out H1.out).mono ?_; rintro e w2 ⟨rfl, rfl⟩))
  go_wp2
  go_ret
  exact ⟨rfl, hb1⟩
end Go.Proofs.Ytcpffiihdnecjaa
