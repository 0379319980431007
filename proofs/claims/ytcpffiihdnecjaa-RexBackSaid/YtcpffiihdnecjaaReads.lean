/- RexReads returns true whatever bytes come in, and leaves the world as it was: its callees by their contracts, its own text walked. -/
import Derived.Test.YtcpffiihdnecjaaRead
import Derived.ShutString
import Derived.ChangeOld
namespace Go.Proofs.Ytcpffiihdnecjaa.rexReads
open Go Go.ChangeShapes Go.WideShapes Go.ChangeAt Go.RowKit
open Go.ChangeMaps (open_string shut_string)
set_option linter.unusedVariables false
set_option linter.unusedSimpArgs false
set_option linter.unusedSectionVars false

theorem own : ownKnob Try.prog.godebug = none := by kernel_rfl
theorem laidOut : laidOutB Try.prog = true := by kernel_rfl

/-- WHAT THE WALK IS TOLD OF A SLICE OF INTEGERS THAT CAME IN: it is nil; or it leads to a row of 'cap' cells, the numbers 'zs' (the first 'len' are its elements, the rest its spare room), each fitting its kind. -/
def IsRow (k : IntKind) (w : World) (a : Option Addr) (len cap : Nat) (zs : List Int) : Prop :=
  (a = none ∧ len = 0 ∧ cap = 0 ∧ zs = []) ∨
  ∃ x, a = some x ∧ len ≤ cap ∧ cap ≤ maxLen ∧ zs.length = cap ∧ (∀ i, i < zs.length → w.cell? (x.add i) = some (.int k (zs.getD i 0))) ∧ ∀ n ∈ zs, (Lit.int k n).wf = true


theorem take_get {z0 : List Int} {n j : Nat} {x : Int} (h : (z0.take n)[j]? = some x) : j < n ∧ z0[j]? = some x := by
  rw [List.getElem?_take] at h
  by_cases hj : j < n
  · rw [if_pos hj] at h; exact ⟨hj, h⟩
  · rw [if_neg hj] at h; cases h

theorem cell_some {w : World} {a : Addr} {v : Value} (h : w.cell? a = some v) : a.spot = Option.none ∧ ∃ cs t fz, w.heap[a.block]? = some (.cells cs t fz) ∧ cs[a.off]? = some v := by
  unfold World.cell? at h
  split at h
  · rename_i cs t fz hh
    split at h
    · cases h
    · rename_i hs
      exact ⟨by simpa using hs, cs, t, fz, hh, h⟩
  · cases h

theorem arow {w : World} {a0 : Option Addr} {n c : Nat} {z0 : List Int} (h : IsRow .u8 w a0 n c z0) : ARow w a0 n c (z0.take n) := by
  rcases h with ⟨rfl, rfl, rfl, rfl⟩ | ⟨x, rfl, h1, h2, h3, h4, h5⟩
  · exact ⟨rfl, Nat.le_refl _, by decide, fun x hx => by simp at hx, .inl ⟨rfl, rfl, rfl⟩⟩
  · have hm : c ≤ 9223372036854775807 := h2
    have hz : (z0.take n).length = n := by rw [List.length_take, h3]; omega
    refine ⟨hz, h1, hm, fun y hy => ?_, ?_⟩
    · have := h5 y (List.mem_of_mem_take hy)
      simp only [Lit.wf, Bool.and_eq_true, decide_eq_true_eq] at this
      exact ⟨this.1, this.2⟩
    · rcases Nat.eq_zero_or_pos c with h0 | h0
      · subst h0
        obtain rfl : n = 0 := by omega
        exact .inl ⟨rfl, rfl, by simp⟩
      · have hc0 := h4 0 (by omega)
        obtain ⟨B, off, sp⟩ := x
        obtain ⟨k1, cs, t, fz, hh, k2⟩ := cell_some hc0
        have k3 : sp = Option.none := by
          cases sp with
          | none => rfl
          | some s => exact absurd k1 (by simp [Addr.add])
        subst k3
        have e0 : (⟨B, off, none⟩ : Addr).add 0 = ⟨B, off, none⟩ := by unfold Addr.add; split <;> simp_all
        rw [e0] at hh k2
        have hoff : off ≤ cs.size := by have : off < cs.size := (Array.getElem?_eq_some_iff.1 k2).1; omega
        refine .inr ⟨B, off, cs, t, fz, rfl, hh, hoff, fun j y hy => ?_⟩
        obtain ⟨hj, hy'⟩ := take_get hy
        have := h4 j (by omega)
        have e : (⟨B, off, none⟩ : Addr).add j = ⟨B, off + j, none⟩ := by unfold Addr.add; split <;> simp_all
        rw [e] at this
        simp only [World.cell?, hh] at this
        simpa [List.getD, hy'] using this

theorem brow {w : World} {p : Option Addr} {n c : Nat} {zs : List Int} (h : ARow w p n c zs) : BRow w p n c zs := by
  obtain ⟨h1, h2, h3, h4, h5⟩ := h
  refine ⟨h1, h2, fun hn => ?_⟩
  rcases h5 with ⟨h0, _⟩ | ⟨B, off, cs, t, fz, rfl, hB, hoff, hc⟩
  · omega
  · refine ⟨B, off, rfl, fun j hj => ?_⟩
    have hj' : j < zs.length := by omega
    simp only [World.cell?, hB]
    simpa [List.getD, List.getElem?_eq_getElem hj'] using hc j zs[j] (List.getElem?_eq_getElem hj')

theorem abelow {B0 : Nat} {w w' : World} (hb : Below B0 w w') {p : Option Addr} {n c : Nat} {zs : List Int} (h : ARow w p n c zs) (hp : ∀ B off cs t fz, p = some ⟨B, off, none⟩ → w.heap[B]? = some (.cells cs t fz) → B < B0) : ARow w' p n c zs := by
  obtain ⟨h1, h2, h3, h4, h5⟩ := h
  refine ⟨h1, h2, h3, h4, ?_⟩
  rcases h5 with h5 | ⟨B, off, cs, t, fz, rfl, hB, hoff, hc⟩
  · exact .inl h5
  · exact .inr ⟨B, off, cs, t, fz, rfl, by rw [hb.block B (hp B off cs t fz rfl hB)]; exact hB, hoff, hc⟩

theorem alent {w : World} {g : Nat} {zs : List Int} {n : Nat} (hz : zs.length = n) (hr : ∀ x ∈ zs, 0 ≤ x ∧ x ≤ 255) (hn : n ≤ 100) (h : w.heap[g]? = some (.cells (lentV zs 3).toArray 5 (0, 0))) : ARow w (some ⟨g, 0, none⟩) n (n + 3) zs := by
  refine ⟨hz, by omega, by omega, hr, .inr ⟨g, 0, _, 5, (0, 0), rfl, h, Nat.zero_le _, fun j x hx => ?_⟩⟩
  have hj : j < zs.length := (List.getElem?_eq_some_iff.1 hx).1
  simp only [Nat.zero_add, List.getElem?_toArray, lentV, lentL, List.getElem?_map, List.append_assoc]
  rw [List.getElem?_append_left hj, hx]
  rfl

theorem lt_heap {w : World} {B : Nat} {o : Obj} (h : w.heap[B]? = some o) : B < w.heap.size := (Array.getElem?_eq_some_iff.1 h).1

theorem walk_long (a0 : Option Addr) (len0 cap0 : Nat) (w : World) (hm : len0 ≤ 9223372036854775807) (hl : 100 < len0) :
    Calls Try.prog 3 #[.slice a0 len0 cap0] w fun e w' => e = .returned (.bool true) ∧ Below w.heap.size w w' := by
  go_enter Try.func3, Try.ntmps3
  go_wp2_with (go_at_call 7; refine (awake_any _).mono ?_; rintro e w1 ⟨rfl, hb1⟩)
  go_ret
  exact ⟨rfl, hb1⟩

set_option maxHeartbeats 1600000 in
theorem walk_short (a0 : Option Addr) (len0 cap0 : Nat) (zs : List Int) (w : World) (h : ARow w a0 len0 cap0 zs) (hl : len0 ≤ 100) :
    Calls Try.prog 3 #[.slice a0 len0 cap0] w fun e w' => e = .returned (.bool true) ∧ Below w.heap.size w w' := by
  obtain ⟨ra, rb, rc, hR⟩ : ∃ ra rb rc, readL zs = (ra, rb, rc) := ⟨_, _, _, rfl⟩
  have c8 := lent_any a0 len0 cap0 zs w (brow h) hl
  have c9 : ∀ w1 : World, w1.heap[w.heap.size]? = some (.cells (lentV zs 3).toArray 5 (0, 0)) → Calls Try.prog 9 #[.slice (some ⟨w.heap.size, 0, none⟩) len0 (len0 + 3)] w1 fun e w' => e = .returned (.tuple #[.int .i64 ra, .int .i64 rb, .int .i64 rc]) ∧ Below w1.heap.size w1 w' := by
    intro w1 h1
    have := read_any (alent h.1 h.2.2.2.1 hl h1)
    rw [hR] at this
    exact this
  have c10 : ∀ w2 : World, Below w.heap.size w w2 → Calls Try.prog 10 #[.slice a0 len0 cap0] w2 fun e w' => e = .returned (.tuple #[.int .i64 ra, .int .i64 rb, .int .i64 rc]) ∧ Below w2.heap.size w2 w' := by
    intro w2 h2
    have := ref_any (abelow h2 h fun B off cs t fz _ hB => lt_heap hB)
    rw [hR] at this
    exact this
  have c11 : ∀ w3 : World, Below w.heap.size w w3 → w3.heap[w.heap.size]? = some (.cells (lentV zs 3).toArray 5 (0, 0)) → Calls Try.prog 11 #[.slice (some ⟨w.heap.size, 0, none⟩) len0 (len0 + 3), .slice a0 len0 cap0] w3 fun e w' => e = .returned (.bool true) ∧ Below w3.heap.size w3 w' :=
    fun w3 h3 h4 => kept_any _ a0 len0 cap0 zs w3 (brow (abelow h3 h fun B off cs t fz _ hB => lt_heap hB)) hl h4
  clear h hR
  go_enter Try.func3, Try.ntmps3
  go_wp2_with (first
    | (go_at_call 8; refine c8.mono ?_; rintro e w1 ⟨rfl, h1, b1⟩; have H1 : Hid (w1.heap[w.heap.size]? = some (.cells (lentV zs 3).toArray 5 (0, 0))) := h1; clear h1)
    | (go_at_call 9; refine (c9 _ H1.out).mono ?_; rintro e w2 ⟨rfl, b2⟩; have B2 : Below w.heap.size w w2 := b1.trans (b2.mono b1.size); have H2 : Hid (w2.heap[w.heap.size]? = some (.cells (lentV zs 3).toArray 5 (0, 0))) := (b2.block _ (lt_heap H1.out)).trans H1.out)
    | (go_at_call 10; refine (c10 _ B2).mono ?_; rintro e w3 ⟨rfl, b3⟩; have B3 : Below w.heap.size w w3 := B2.trans (b3.mono B2.size); have H3 : Hid (w3.heap[w.heap.size]? = some (.cells (lentV zs 3).toArray 5 (0, 0))) := (b3.block _ (lt_heap H2.out)).trans H2.out)
    | (go_at_call 11; refine (c11 _ B3 H3.out).mono ?_; rintro e w4 ⟨rfl, b4⟩; have B4 : Below w.heap.size w w4 := B3.trans (b4.mono B3.size))
    | (go_at_call 7; refine (awake_any _).mono ?_; rintro e w5 ⟨rfl, b5⟩))
  all_goals go_ret
  all_goals exact ⟨rfl, B4.trans (b5.mono B4.size)⟩

theorem walk (a0 : Option Addr) (len0 cap0 : Nat) (z0 : List Int) (w : World) (w0 : IsRow .u8 w a0 len0 cap0 z0) :
    Calls Try.prog 3 #[.slice a0 len0 cap0] w fun e w' => e = .returned (.bool true) ∧ Below w.heap.size w w' := by
  have h := arow w0
  rcases Nat.lt_or_ge 100 len0 with hl | hl
  · exact walk_long a0 len0 cap0 w (Nat.le_trans h.2.1 h.2.2.1) hl
  · exact walk_short a0 len0 cap0 _ w h hl

/-! ### THE ROW's STEP: WRITTEN OUT: LEAVE IT -/
set_option maxRecDepth 100000 in
theorem lifted (os : Os) (started : os.Started) (H : Type) (enc : TypeId × Value → H) :
    ReturnsInHanded {} Try.checked os 3 .any (Rows.rexReadsSpec.pre6 enc Try.prog Try.f3 Rows.rexReadsRow.domain false) (Rows.rexReadsSpec.post enc Try.prog Try.f3 false true false false) := by
  refine returnsInHanded_of_change (C := Try.checked) own started (by kernel_rfl) Try.func3
    (ChangeSpec.witness6 (enc := enc) (C := Try.checked) false ⟨#[], #[.slice none 0 0], []⟩ 8 (by kernel_rfl) (by kernel_rfl) (by kernel_rfl) (by kernel_rfl)) ?_
  intro W base args ds gs before hval0 hW hcnd _
  have hval : ∀ (j : Nat) t v, Try.f3.params[j]? = some t → args[j]? = some v → Value.okWide Try.prog W .any base t v := hval0
  have hW' := hW
  obtain ⟨p, q, hA0, hV, rfl, hfz, hnd⟩ := hW
  have hA : DataW.TrodAll enc Try.prog W 0 (fun _ => true) true Try.f3.params.toList args.toList ds p := hA0
  rw [Try.params3] at hA hval
  obtain ⟨v0, vs0, d0, ds0, p0, q0, hargs, rfl, rfl, h0, r0⟩ := trodAll_cons hA
  obtain ⟨rfl, rfl, rfl⟩ := trodAll_nil r0
  obtain rfl : args = #[v0] := by cases args; simp_all
  obtain ⟨rfl, rfl⟩ := trodVars_none hV
  obtain ⟨a0, len0, cap0, rfl⟩ := okWide_slice Try.underlying22 (hval 0 22 v0 rfl rfl)
  have k0 := h0
  have lt0 : ∀ x ∈ p0, x.block < W.heap.size := by obtain ⟨m, hm⟩ := k0; exact DataW.trod_lt m _ _ _ hm
  obtain ⟨z0, w0⟩ : ∃ zs, IsRow .u8 W a0 len0 cap0 zs := by
    obtain ⟨fuel, hf⟩ := h0
    rcases open_ints Try.underlying22 Try.underlying5 (by kernel_rfl) hf with ⟨hcs, _⟩ | ⟨x, l, c, zs, hcs, _, hl, hm, hz, _, hcell, hwz⟩
    · simp [Value.cells] at hcs
      obtain ⟨rfl, rfl, rfl⟩ := hcs
      exact ⟨[], .inl ⟨rfl, rfl, rfl, rfl⟩⟩
    · simp [Value.cells] at hcs
      obtain ⟨rfl, rfl, rfl⟩ := hcs
      exact ⟨zs, .inr ⟨_, rfl, hl, hm, by simpa using hz, hcell, hwz⟩⟩
  clear hA0 hval0
  refine (walk a0 len0 cap0 z0 W w0).mono fun e W' ⟨he, bel⟩ => ?_
  subst he
  exact ⟨_, rfl, _, _, _, [], _, [], hW', trodAll_mk1 (shut_bool Try.underlying4 _), (trodAll_cons_mk (Below.trod laidOut (by kernel_rfl) (of_decide_eq_true (by kernel_rfl)) k0 bel lt0) trodAll_mk0), rfl, bel.frame _, fun h => by cases h⟩

theorem over : Rows.rexReadsRow.holds Try.pinned (OpenSpec.ofChange Rows.rexReadsSpec) :=
  OpenClaim.holds_of_wide 3 Try.f3 rfl rfl rfl rfl rfl rfl rfl ⟨rfl, rfl, rfl, rfl, rfl⟩ rfl rfl rfl rfl rfl (by kernel_rfl) Try.func3 (by kernel_rfl)
    (of_decide_eq_true (by kernel_rfl)) (by unfold Func.isWrapper; first | (rw [if_pos (by decide +kernel)]; kernel_rfl) | (rw [if_neg (by decide +kernel)]; exact ⟨rfl, rfl⟩))
    (fun os started H enc _ => lifted os started H enc)


end Go.Proofs.Ytcpffiihdnecjaa.rexReads
namespace Go.Proofs.Ytcpffiihdnecjaa

theorem rexReads_holds : Rows.RexReadsSaid := rexReads.over
#print axioms rexReads_holds
end Go.Proofs.Ytcpffiihdnecjaa
