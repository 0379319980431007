/- The tied card of ListingKnown: the call returns true and leaves the world as it was, by the evaluator: its abstract run, beside the one table that it reads, is computed by the kernel. No condition but the row's own: the listed variables hold what the text lays. -/
import Derived.Test.YtgjffkicbajbfaaDoorRows
import Derived.Test.YtgjffkicbajbfaaDoorCards
import Derived.Test.YtgjffkicbajbfaaDoorTie
import Derived.Test.YtgjffkicbajbfaaDoorEv35
import Derived.WalkKit
import Derived.ProofKit
import Derived.OpenShut
import Derived.LaidMore
import Derived.Lay
import Derived.Stop.Joined
import Derived.SevenTiedAt
namespace Go.Proofs.YtgjffkicbajbfaaDoor.listingKnown
open Go Go.ChangeShapes Go.WideShapes Go.ChangeAt Go.RowKit Ev

theorem own : ownKnob Tryd.prog.godebug = none := by kernel_rfl

def nums : List Int := [0, 1, 56, 2, 57, 49, 28, 3, 61, 58, 42, 50, 38, 29, 17, 4, 62, 47, 59, 36, 45, 43, 51, 22, 53, 39, 33, 30, 24, 18, 12, 5, 63, 55, 48, 27, 60, 41, 37, 16, 46, 35, 44, 21, 52, 32, 23, 11, 54, 26, 40, 15, 34, 20, 31, 10, 25, 14, 19, 9, 13, 8, 7, 6]
noncomputable def tab : List AV := nums.map fun m => .int .u8 m
noncomputable def laidL : List (String × DataW Unit) := [("math/bits.deBruijn32tab", Rows.laid_math_bits_deBruijn32tab), ("math/bits.deBruijn64tab", Rows.laid_math_bits_deBruijn64tab), ("internal/strconv.uint64pow10", Rows.laid_internal_strconv_uint64pow10), ("unicode/utf8.acceptRanges", Rows.laid_unicode_utf8_acceptRanges), ("unicode/utf8.first", Rows.laid_unicode_utf8_first)]

noncomputable def extF (i : Nat) : Option (List AV → Mem → Option (AV × Mem)) := if i = 79 then some xCount else if i = 93 then some xAdd64 else if i = 107 then some xIndex else none
noncomputable def V1 : Env := { P := Tryd.prog, E := tabOf Tryd.prog, G := 6, ext := T.ofF 8 extF, sum := .nil }

theorem fits79 : Fits Tryd.prog 79 Extern.BytealgCount.count := ⟨_, Tryd.func79, by kernel_rfl, by kernel_rfl, by kernel_rfl, by kernel_rfl⟩
theorem fits93 : Fits Tryd.prog 93 add64Entry := ⟨_, Tryd.func93, by kernel_rfl, by kernel_rfl, by kernel_rfl, by kernel_rfl⟩
theorem fits107 : Fits Tryd.prog 107 Extern.BytealgIndexByte.indexByte := ⟨_, Tryd.func107, by kernel_rfl, by kernel_rfl, by kernel_rfl, by kernel_rfl⟩

theorem sure : Sure V1 := sure1 rfl rfl (by kernel_rfl) (fun f g h => by
  have h := T.ofF_some _ _ _ _ h
  unfold extF at h
  by_cases h1 : f = 79
  · rw [if_pos h1] at h; cases h; subst h1; exact .inl ⟨rfl, fits79⟩
  · rw [if_neg h1] at h
    by_cases h2 : f = 93
    · rw [if_pos h2] at h; cases h; subst h2; exact .inr (.inr ⟨rfl, fits93⟩)
    · rw [if_neg h2] at h
      by_cases h3 : f = 107
      · rw [if_pos h3] at h; cases h; subst h3; exact .inr (.inl ⟨rfl, fits107⟩)
      · rw [if_neg h3] at h; cases h)

theorem small : V1.P.globals.size ≤ V1.G := of_decide_eq_true (by kernel_rfl)
theorem run : ∀ t fr : Nat, isTrue (evA V1 100000 5 [] (tabM 6 5 (tabRow tab t fr))) = true := fun t fr => by kernel_rfl

theorem g5 : Tryd.prog.globalNamed "math/bits.deBruijn64tab" = some 5 := by kernel_rfl
theorem t5 : (Tryd.prog.globals[5]?).map (·.type) = some 130 := by kernel_rfl

/-- What the condition gives: the table's cells. -/
theorem of_laid {W : World} (h : laidMetH Tryd.prog laidL W) : ∃ c t fz, W.heap[5]? = some (.cells c t fz) ∧ tab.length ≤ c.size ∧ ∀ (i : Nat) (x : AV), tab[i]? = some x → ∃ u, c[i]? = some u ∧ ∀ φ, VRel φ x u := by
  rw [MakeChecks.laidMetH_plain _ _ _ (by kernel_rfl)] at h
  obtain ⟨ps, ⟨g0, t0, cs0, f0, p0, q0, hg0, ht0, hv0, hd0, ⟨g1, t1, cs1, f1, p1, q1, hg1, ht1, hv1, hd1, _, _⟩, _⟩, _, _⟩ := h
  obtain rfl := Option.some.inj (g5.symm.trans hg1)
  obtain rfl := Option.some.inj (t5.symm.trans ht1)
  have hd : DataW.trod (fun _ => ()) Tryd.prog W 0 (fun _ => true) false f1 130 cs1.toList = some (.agg (nums.map fun m => .lit (.int .u8 m)), p1) := hd1
  obtain ⟨h1, h2⟩ := ints_of Tryd.underlying130 Tryd.underlying5 (by kernel_rfl) (by kernel_rfl) rfl hd
  unfold World.var? at hv1
  rw [hg1, Option.bind_some] at hv1
  split at hv1
  · rename_i c t fz hc
    cases hv1
    refine ⟨_, t, fz, hc, ?_, fun i x hx => ?_⟩
    · rw [h1, tab, List.length_map]; exact Nat.le_refl _
    · rw [tab, List.getElem?_map] at hx
      cases hn : nums[i]? with
      | none => rw [hn] at hx; cases hx
      | some m =>
        rw [hn] at hx
        cases hx
        exact ⟨_, h2 i m hn, fun φ => .int _ _⟩
  · cases hv1

theorem walk {W : World} (h : laidMetH Tryd.prog laidL W) : Calls Tryd.prog 5 #[] W fun e w' => e = .returned (.bool true) ∧ Kept W.heap.size W w' := by
  obtain ⟨c, t, fz, h1, h2, h3⟩ := of_laid h
  exact closed_tab sure (g := 5) small (by decide) (by decide) run h1 h2 h3

theorem met (os : Os) (args : Array Value) : laidMetH Tryd.prog laidL ((World.laidAll Tryd.prog os laidL).forCall (fun _ _ => 0) ⟨#[], args, []⟩).memory := by
  rw [MakeChecks.laidMetH_plain _ _ _ (by kernel_rfl)]
  exact laidMet_laidAll _ (by kernel_rfl) (by kernel_rfl)

set_option maxRecDepth 100000 in
theorem lifted (os : Os) (started : os.Started) (H : Type) (enc : TypeId × Value → H) :
    ReturnsInHanded {} Tryd.checked os 5 .any (fun w args => (Rows.listingKnownSpec.pre enc Tryd.prog Tryd.f5 [] false w args ∧ laidMetH Tryd.prog laidL w) ∧ sizedMet enc Tryd.prog Tryd.f5 (OpenSpec.ofChange Rows.listingKnownSpec) false w args)
      (Rows.listingKnownSpec.post enc Tryd.prog Tryd.f5 false true false false) := by
  refine returnsInHanded_of_change_and (C := Tryd.checked) (X := fun w _ => laidMetH Tryd.prog laidL w) (fun _ _ _ hh h => h.of_heap hh) own started (by kernel_rfl) Tryd.func5
    (ChangeSpec.witness_shaped (enc := enc) (C := Tryd.checked) (os := os) (X := fun w _ => laidMetH Tryd.prog laidL w) false (World.laidAll Tryd.prog os laidL) #[] 8 (World.laidAll_os _ _ _) (World.shaped_of_ZipB (by kernel_rfl) (by kernel_rfl)) (by kernel_rfl) (by kernel_rfl) (by kernel_rfl) (met os _)) ?_
  intro W base args ds gs before hval0 hW _ _ hL _
  have hval : ∀ (j : Nat) t v, Tryd.f5.params[j]? = some t → args[j]? = some v → Value.okWide Tryd.prog W .any base t v := hval0
  have hW' := hW
  obtain ⟨p, q, hA0, hV, rfl, hfz, hnd⟩ := hW
  have hA : DataW.TrodAll enc Tryd.prog W 0 (fun _ => true) true Tryd.f5.params.toList args.toList ds p := hA0
  rw [Tryd.params5] at hA hval
  obtain ⟨rfl, rfl, rfl⟩ := trodAll_none hA
  obtain ⟨rfl, rfl⟩ := trodVars_none hV
  clear hA0 hval0
  simp only [List.append_nil] at hW'
  refine (walk hL).mono fun e W' ⟨he, hg⟩ => ?_
  subst he
  exact ⟨_, rfl, post_of_kept (pa := []) (pv := []) hW' (fun _ _ _ => (trodAll_cons_mk (shut_bool Tryd.underlying4 _) trodAll_mk0)) (fun sp _ => rfl) (fun _ _ => rfl) rfl
    hg (ok_one (by kernel_rfl) rfl (okWide_bool_mk Tryd.underlying4 _))⟩

theorem over : Rows.ListingKnownSaid :=
  OpenClaim.holds_of_wide 5 Tryd.f5 rfl rfl rfl rfl rfl rfl rfl ⟨rfl, rfl, rfl, rfl, rfl⟩ rfl rfl rfl rfl rfl (by kernel_rfl) Tryd.func5 (by kernel_rfl)
    (of_decide_eq_true (by kernel_rfl)) (by unfold Func.isWrapper; first | (rw [if_pos (by decide +kernel)]; kernel_rfl) | (rw [if_neg (by decide +kernel)]; exact ⟨rfl, rfl⟩))
    (fun os started H enc _ => lifted os started H enc)

end Go.Proofs.YtgjffkicbajbfaaDoor.listingKnown
namespace Go.Proofs.YtgjffkicbajbfaaDoor
open Go

theorem listingKnown_card : Rows.ListingKnownCardSaid :=
  Claim7.holds_tied_plain_at .later [] [.data, .data, .data, .data, .pinned] true (true, "d3e082e1bd89e079fe0c51eefc80d9d2363a11fd122e4cac9cfd4d3c3553088b") false
    listingKnown.over (fun _ h => by cases h) (by kernel_rfl) (fun _ h => by cases h) listingKnown_row_tie rfl ⟨rfl, rfl⟩ (by kernel_rfl) rfl
    (fun f fn hf hfn => by
      obtain rfl : f = 5 := Option.some.inj ((show Tryd.prog.funcNamed "linotype/linotypelaw31.ListingKnown" = some 5 by kernel_rfl).symm.trans hf) |>.symm
      obtain rfl : fn = Tryd.f5 := (Option.some.inj (Tryd.func5.symm.trans hfn)).symm
      exact ⟨by kernel_rfl, fun j t ht => by
        rw [Tryd.params5] at ht
        simp at ht⟩)
    (by kernel_rfl)
#print axioms listingKnown_card
end Go.Proofs.YtgjffkicbajbfaaDoor
