/- RexBack returns true whatever comes in, and leaves the world as it was. -/
import Derived.Test.YtcpffiihdnecjaaBackW
namespace Go.Proofs.Ytcpffiihdnecjaa.rexBack
open Go Go.ChangeShapes Go.WideShapes Go.ChangeAt Go.RowKit
open Go.ChangeMaps (open_string shut_string)
set_option linter.unusedVariables false
set_option linter.unusedSimpArgs false
set_option linter.unusedSectionVars false

theorem own : ownKnob Try.prog.godebug = none := by kernel_rfl
theorem laidOut : laidOutB Try.prog = true := by kernel_rfl


theorem layL_bytes (a0 a1 : Int) (h : a1 ≤ 15) : ∀ x ∈ layL a0 a1, 0 ≤ x ∧ x ≤ 255 := by
  intro x hx
  unfold layL at hx
  have one : ∀ (b : Bool) (y : Int), x ∈ (bif b then [y] else []) → b = true ∧ x = y := by
    intro b y h
    cases b
    · simp at h
    · exact ⟨rfl, by simpa using h⟩
  rcases List.mem_append.1 hx with hx | hx
  · obtain ⟨_, rfl⟩ := one _ _ hx; omega
  rcases List.mem_append.1 hx with hx | hx
  · obtain ⟨_, rfl⟩ := one _ _ hx; omega
  rcases List.mem_append.1 hx with hx | hx
  · obtain ⟨_, rfl⟩ := one _ _ hx; omega
  · obtain ⟨hb, rfl⟩ := one _ _ hx
    have := of_decide_eq_true hb
    omega

theorem walk (a0 a1 : Int) (a2 : Option Addr) (len2 cap2 : Nat) (z2 : List Int) (w : World) (w0 : (Lit.int .i64 a0).wf = true) (w1 : (Lit.int .i64 a1).wf = true) (w2 : rexReads.IsRow .u8 w a2 len2 cap2 z2) :
    Calls Try.prog 6 #[.int .i64 a0, .int .i64 a1, .slice a2 len2 cap2] w fun e w' => e = .returned (.bool true) ∧ Below w.heap.size w w' := by
  have h := rexReads.arow w2
  rcases Nat.lt_or_ge 20 len2 with hl | hl
  · exact back_long a0 a1 a2 len2 cap2 w (Nat.le_trans h.2.1 h.2.2.1) hl
  · obtain ⟨b3, b2, b1, b0, c16, c18⟩ : ∃ b3 b2 b1 b0 : Int, (∀ w, Calls Try.prog 16 #[.int .i64 a1] w fun r w1 => r = .returned (.tuple #[.int .i64 b3, .int .i64 b2, .int .i64 b1, .int .i64 b0]) ∧ Below w.heap.size w w1) ∧
        (0 ≤ a1 → a1 ≤ 15 → ∀ w, Calls Try.prog 18 #[.int .i64 b3, .int .i64 b2, .int .i64 b1, .int .i64 b0] w fun r w1 => r = .returned (.int .i64 a1) ∧ Below w.heap.size w w1) := by
      by_cases hb : 0 ≤ a1 ∧ a1 ≤ 15
      · obtain ⟨b3, b2, b1, b0, c, d⟩ := bits_in hb.1 hb.2
        exact ⟨b3, b2, b1, b0, c, fun _ _ => d⟩
      · obtain ⟨b3, b2, b1, b0, c⟩ := bits_out (n := a1) (by omega)
        exact ⟨b3, b2, b1, b0, c, fun h1 h2 => absurd ⟨h1, h2⟩ hb⟩
    by_cases hin : 0 ≤ a0 ∧ a0 ≤ 5 ∧ -1 ≤ a1 ∧ a1 ≤ 15
    · obtain ⟨g1, g2, g3, g4⟩ := hin
      exact back_walk a0 a1 0 a2 len2 cap2 _ (layL a0 a1) w h hl (layL_len _ _) (fun w => (lay_ok g1 g2 g3 g4 w).mono fun r w1 ⟨q, c, e1, e2, e3⟩ => ⟨_, e1, fun _ => ⟨q, c, rfl, e2⟩, e3⟩)
        b3 b2 b1 b0 c16 c18 (fun _ hor => back1 a0 a1 _ g1 g2 g3 g4 hor) (fun _ => layL_bytes a0 a1 g4)
    · obtain ⟨e, he, c12⟩ := lay_bad hin
      exact back_walk a0 a1 e a2 len2 cap2 _ [] w h hl (by decide) (fun w => (c12 w).mono fun r w1 ⟨p, e1, e3⟩ => ⟨_, e1, fun h0 => absurd h0 he, e3⟩)
        b3 b2 b1 b0 c16 c18 (fun h0 _ => absurd h0 he) (fun h0 => absurd h0 he)

/-! ### THE ROW's STEP: WRITTEN OUT: LEAVE IT -/
set_option maxRecDepth 100000 in
theorem lifted (os : Os) (started : os.Started) (H : Type) (enc : TypeId × Value → H) :
    ReturnsInHanded {} Try.checked os 6 .any (Rows.rexBackSpec.pre6 enc Try.prog Try.f6 Rows.rexBackRow.domain false) (Rows.rexBackSpec.post enc Try.prog Try.f6 false true false false) := by
  refine returnsInHanded_of_change (C := Try.checked) own started (by kernel_rfl) Try.func6
    (ChangeSpec.witness6 (enc := enc) (C := Try.checked) false ⟨#[], #[.int .i64 0, .int .i64 0, .slice none 0 0], []⟩ 8 (by kernel_rfl) (by kernel_rfl) (by kernel_rfl) (by kernel_rfl)) ?_
  intro W base args ds gs before hval0 hW hcnd _
  have hval : ∀ (j : Nat) t v, Try.f6.params[j]? = some t → args[j]? = some v → Value.okWide Try.prog W .any base t v := hval0
  have hW' := hW
  obtain ⟨p, q, hA0, hV, rfl, hfz, hnd⟩ := hW
  have hA : DataW.TrodAll enc Try.prog W 0 (fun _ => true) true Try.f6.params.toList args.toList ds p := hA0
  rw [Try.params6] at hA hval
  obtain ⟨v0, vs0, d0, ds0, p0, q0, hargs, rfl, rfl, h0, r0⟩ := trodAll_cons hA
  obtain ⟨v1, vs1, d1, ds1, p1, q1, rfl, rfl, rfl, h1, r1⟩ := trodAll_cons r0
  obtain ⟨v2, vs2, d2, ds2, p2, q2, rfl, rfl, rfl, h2, r2⟩ := trodAll_cons r1
  obtain ⟨rfl, rfl, rfl⟩ := trodAll_nil r2
  obtain rfl : args = #[v0, v1, v2] := by cases args; simp_all
  obtain ⟨rfl, rfl⟩ := trodVars_none hV
  obtain ⟨a0, rfl, rfl, rfl, w0⟩ := open_int Try.underlying3 (hval 0 3 v0 rfl rfl) h0
  obtain ⟨a1, rfl, rfl, rfl, w1⟩ := open_int Try.underlying3 (hval 1 3 v1 rfl rfl) h1
  obtain ⟨a2, len2, cap2, rfl⟩ := okWide_slice Try.underlying22 (hval 2 22 v2 rfl rfl)
  have k2 := h2
  have lt2 : ∀ x ∈ p2, x.block < W.heap.size := by obtain ⟨m, hm⟩ := k2; exact DataW.trod_lt m _ _ _ hm
  obtain ⟨z2, w2⟩ : ∃ zs, rexReads.IsRow .u8 W a2 len2 cap2 zs := by
    obtain ⟨fuel, hf⟩ := h2
    rcases open_ints Try.underlying22 Try.underlying5 (by kernel_rfl) hf with ⟨hcs, _⟩ | ⟨x, l, c, zs, hcs, _, hl, hm, hz, _, hcell, hwz⟩
    · simp [Value.cells] at hcs
      obtain ⟨rfl, rfl, rfl⟩ := hcs
      exact ⟨[], .inl ⟨rfl, rfl, rfl, rfl⟩⟩
    · simp [Value.cells] at hcs
      obtain ⟨rfl, rfl, rfl⟩ := hcs
      exact ⟨zs, .inr ⟨_, rfl, hl, hm, by simpa using hz, hcell, hwz⟩⟩
  clear hA0 hval0
  refine (walk a0 a1 a2 len2 cap2 z2 W w0 w1 w2).mono fun e W' ⟨he, bel⟩ => ?_
  subst he
  exact ⟨_, rfl, _, _, _, [], _, [], hW', trodAll_mk1 (shut_bool Try.underlying4 _), (trodAll_cons_mk (shut_int Try.underlying3 w0) (trodAll_cons_mk (shut_int Try.underlying3 w1) (trodAll_cons_mk (Below.trod laidOut (by kernel_rfl) (of_decide_eq_true (by kernel_rfl)) k2 bel lt2) trodAll_mk0))), rfl, bel.frame _, fun h => by cases h⟩

theorem over : Rows.rexBackRow.holds Try.pinned (OpenSpec.ofChange Rows.rexBackSpec) :=
  OpenClaim.holds_of_wide 6 Try.f6 rfl rfl rfl rfl rfl rfl rfl ⟨rfl, rfl, rfl, rfl, rfl⟩ rfl rfl rfl rfl rfl (by kernel_rfl) Try.func6 (by kernel_rfl)
    (of_decide_eq_true (by kernel_rfl)) (by unfold Func.isWrapper; first | (rw [if_pos (by decide +kernel)]; kernel_rfl) | (rw [if_neg (by decide +kernel)]; exact ⟨rfl, rfl⟩))
    (fun os started H enc _ => lifted os started H enc)


end Go.Proofs.Ytcpffiihdnecjaa.rexBack
namespace Go.Proofs.Ytcpffiihdnecjaa

theorem rexBack_holds : Rows.RexBackSaid := rexBack.over
#print axioms rexBack_holds
end Go.Proofs.Ytcpffiihdnecjaa
