/- The tied card of PrintKnown: the call returns true and leaves the world as it was, by the evaluator: the names of registers and of mnemonics each computed by themselves, the rest beside the two tables that are read. No condition but the row's own: the listed variables hold what the text lays. -/
import Derived.Test.YtodjacllgcficaaDoorRows
import Derived.Test.YtodjacllgcficaaDoorCards
import Derived.Test.YtodjacllgcficaaDoorTie
import Derived.Test.YtodjacllgcficaaDoorEv36
import Derived.WalkKit
import Derived.ProofKit
import Derived.OpenShut
import Derived.LaidMore
import Derived.Lay
import Derived.Stop.Joined
import Derived.SevenTiedAt
namespace Go.Proofs.YtodjacllgcficaaDoor.printKnown
open Go Go.ChangeShapes Go.WideShapes Go.ChangeAt Go.RowKit Ev

theorem own : ownKnob Tryd.prog.godebug = none := by kernel_rfl

def numsA : List Int := [0, 0, 0, 0, 0, 0, 0, 0, 0, 1, 1, 1, 1, 1, 0, 0, 0, 0, 0, 0, 0, 0, 0, 0, 0, 0, 0, 0, 0, 0, 0, 0, 1, 0, 0, 0, 0, 0, 0, 0, 0, 0, 0, 0, 0, 0, 0, 0, 0, 0, 0, 0, 0, 0, 0, 0, 0, 0, 0, 0, 0, 0, 0, 0, 0, 0, 0, 0, 0, 0, 0, 0, 0, 0, 0, 0, 0, 0, 0, 0, 0, 0, 0, 0, 0, 0, 0, 0, 0, 0, 0, 0, 0, 0, 0, 0, 0, 0, 0, 0, 0, 0, 0, 0, 0, 0, 0, 0, 0, 0, 0, 0, 0, 0, 0, 0, 0, 0, 0, 0, 0, 0, 0, 0, 0, 0, 0, 0, 0, 0, 0, 0, 0, 0, 0, 0, 0, 0, 0, 0, 0, 0, 0, 0, 0, 0, 0, 0, 0, 0, 0, 0, 0, 0, 0, 0, 0, 0, 0, 0, 0, 0, 0, 0, 0, 0, 0, 0, 0, 0, 0, 0, 0, 0, 0, 0, 0, 0, 0, 0, 0, 0, 0, 0, 0, 0, 0, 0, 0, 0, 0, 0, 0, 0, 0, 0, 0, 0, 0, 0, 0, 0, 0, 0, 0, 0, 0, 0, 0, 0, 0, 0, 0, 0, 0, 0, 0, 0, 0, 0, 0, 0, 0, 0, 0, 0, 0, 0, 0, 0, 0, 0, 0, 0, 0, 0, 0, 0, 0, 0, 0, 0, 0, 0, 0, 0, 0, 0, 0, 0, 0, 0, 0, 0, 0, 0]
noncomputable def tabA : List AV := numsA.map fun m => .int .u8 m
def numsB : List Int := [0, 1, 56, 2, 57, 49, 28, 3, 61, 58, 42, 50, 38, 29, 17, 4, 62, 47, 59, 36, 45, 43, 51, 22, 53, 39, 33, 30, 24, 18, 12, 5, 63, 55, 48, 27, 60, 41, 37, 16, 46, 35, 44, 21, 52, 32, 23, 11, 54, 26, 40, 15, 34, 20, 31, 10, 25, 14, 19, 9, 13, 8, 7, 6]
noncomputable def tabB : List AV := numsB.map fun m => .int .u8 m
noncomputable def laidL : List (String × DataW Unit) := [("math/bits.deBruijn32tab", Rows.laid_math_bits_deBruijn32tab), ("math/bits.deBruijn64tab", Rows.laid_math_bits_deBruijn64tab), ("internal/strconv.uint64pow10", Rows.laid_internal_strconv_uint64pow10), ("unicode/utf8.acceptRanges", Rows.laid_unicode_utf8_acceptRanges), ("unicode.White_Space", Rows.laid_unicode_White_Space), ("strings.asciiSpace", Rows.laid_strings_asciiSpace), ("unicode/utf8.first", Rows.laid_unicode_utf8_first)]

noncomputable def xSame (args : List AV) (M : Mem) : Option (AV × Mem) := match args with
  | [x] => some (x, M)
  | _ => none
noncomputable def extF (i : Nat) : Option (List AV → Mem → Option (AV × Mem)) := if i = 60 then some xSame else if i = 87 then some xIndex else none
noncomputable def V1 : Env := { P := Tryd.prog, E := tabOf Tryd.prog, G := 9, ext := T.ofF 8 extF, sum := .nil }

theorem fits60 : Fits Tryd.prog 60 Extern.AbiNoEscape.same := ⟨_, Tryd.func60, by kernel_rfl, by kernel_rfl, by kernel_rfl, by kernel_rfl⟩
theorem fits87 : Fits Tryd.prog 87 Extern.BytealgIndexByte.indexByte := ⟨_, Tryd.func87, by kernel_rfl, by kernel_rfl, by kernel_rfl, by kernel_rfl⟩

theorem xSame_ok {P : Program} {f : FuncId} (h : Fits P f Extern.AbiNoEscape.same) {G N : Nat} {φ : Emb} {M M' : Mem} {w : World} (R : Rep P G N φ M w) {args : List AV} {us : List Value} {v : AV} (hv : VsRel φ args us)
    (he : xSame args M = some (v, M')) : Came P G N φ M w (callFunc f us.toArray) v M' := by
  unfold xSame at he
  split at he
  · cases he
    cases hv with
    | cons _ u _ us' h1 hn =>
      cases hn
      exact h.came R rfl h1
  · cases he

theorem ext_ok (f : FuncId) (g : List AV → Mem → Option (AV × Mem)) (args : List AV) (us : List Value) (φ : Emb) (M : Mem) (w : World) (v : AV) (M' : Mem) (N : Nat) (hg : (T.ofF 8 extF).get f = some g) (R : Rep Tryd.prog 9 N φ M w) (hv : VsRel φ args us)
    (he : g args M = some (v, M')) : Came Tryd.prog 9 N φ M w (callFunc f us.toArray) v M' := by
  have h := T.ofF_some _ _ _ _ hg
  unfold extF at h
  by_cases h1 : f = 60
  · rw [if_pos h1] at h; cases h; subst h1; exact xSame_ok fits60 R hv he
  · rw [if_neg h1] at h
    by_cases h2 : f = 87
    · rw [if_pos h2] at h; cases h; subst h2; exact xIndex_ok fits87 R hv he
    · rw [if_neg h2] at h; cases h

theorem num_ok (f : FuncId) (fn : Func) (hf : Tryd.prog.funcs[f]? = some fn) (hb : fn.body.isSome = true) : (fn.name == "runtime.NumGoroutine") = false := by
  have h4 : Tryd.prog.funcs.all (fun fn => fn.body.isNone || !(fn.name == "runtime.NumGoroutine")) = true := by kernel_rfl
  have := Array.all_eq_true_iff_forall_mem.1 h4 fn (Array.mem_of_getElem? hf)
  cases h : fn.body with
  | none => rw [h] at hb; cases hb
  | some c =>
    rw [h] at this
    simpa using this

theorem sure1' : Sure V1 := ⟨rfl, num_ok, ext_ok, fun f g _ _ _ _ _ _ _ _ hg => by
  have hg : (T.nil : Ans).get f = some g := hg
  rw [T.get_nil] at hg; cases hg⟩

noncomputable def isRes (x : Option (AV × Mem)) (v : AV) : Bool := match x with
  | some (y, _) => AV.same y v
  | none => false
theorem isRes_inv {x : Option (AV × Mem)} {v : AV} (h : isRes x v = true) : ∃ M', x = some (v, M') := by
  unfold isRes at h
  split at h
  · exact ⟨_, by rw [same_eq h]⟩
  · cases h

theorem reg1_1 : ∀ t fr : Nat, isRes (evA V1 100000 31 [.agg [.int .i64 1, .int .i64 1]] (tabM 9 0 (tabRow tabA t fr))) (.str 2 27747) = true := fun t fr => by kernel_rfl
theorem reg4_0 : ∀ t fr : Nat, isRes (evA V1 100000 31 [.agg [.int .i64 4, .int .i64 0]] (tabM 9 0 (tabRow tabA t fr))) (.str 3 7889253) = true := fun t fr => by kernel_rfl
theorem reg5_1 : ∀ t fr : Nat, isRes (evA V1 100000 31 [.agg [.int .i64 5, .int .i64 1]] (tabM 9 0 (tabRow tabA t fr))) (.str 3 7889778) = true := fun t fr => by kernel_rfl
theorem reg5_3 : ∀ t fr : Nat, isRes (evA V1 100000 31 [.agg [.int .i64 5, .int .i64 3]] (tabM 9 0 (tabRow tabA t fr))) (.str 3 7889522) = true := fun t fr => by kernel_rfl
theorem reg5_8 : ∀ t fr : Nat, isRes (evA V1 100000 31 [.agg [.int .i64 5, .int .i64 8]] (tabM 9 0 (tabRow tabA t fr))) (.str 2 14450) = true := fun t fr => by kernel_rfl
theorem reg8_0 : ∀ t fr : Nat, isRes (evA V1 100000 31 [.agg [.int .i64 8, .int .i64 0]] (tabM 9 0 (tabRow tabA t fr))) (.str 3 7367026) = true := fun t fr => by kernel_rfl
theorem name1 : ∀ t fr : Nat, isRes (evA V1 100000 16 [.int .i64 1] (tabM 9 0 (tabRow tabA t fr))) (.str 3 6579297) = true := fun t fr => by kernel_rfl
theorem name9 : ∀ t fr : Nat, isRes (evA V1 100000 16 [.int .i64 9] (tabM 9 0 (tabRow tabA t fr))) (.str 3 7761773) = true := fun t fr => by kernel_rfl
theorem name50 : ∀ t fr : Nat, isRes (evA V1 100000 16 [.int .i64 50] (tabM 9 0 (tabRow tabA t fr))) (.str 3 7368558) = true := fun t fr => by kernel_rfl
theorem name54 : ∀ t fr : Nat, isRes (evA V1 100000 16 [.int .i64 54] (tabM 9 0 (tabRow tabA t fr))) (.str 3 7368042) = true := fun t fr => by kernel_rfl

noncomputable def es31 : List (List AV × AV) := [([.agg [.int .i64 1, .int .i64 1]], .str 2 27747), ([.agg [.int .i64 4, .int .i64 0]], .str 3 7889253), ([.agg [.int .i64 5, .int .i64 1]], .str 3 7889778), ([.agg [.int .i64 5, .int .i64 3]], .str 3 7889522), ([.agg [.int .i64 5, .int .i64 8]], .str 2 14450), ([.agg [.int .i64 8, .int .i64 0]], .str 3 7367026)]
noncomputable def es16 : List (List AV × AV) := [([.int .i64 1], .str 3 6579297), ([.int .i64 9], .str 3 7761773), ([.int .i64 50], .str 3 7368558), ([.int .i64 54], .str 3 7368042)]
theorem es31_ok : ∀ e ∈ es31, ∀ t fr, ∃ M', evA V1 100000 31 e.1 (tabM 9 0 (tabRow tabA t fr)) = some (e.2, M') := by
  intro e he t fr
  simp only [es31, List.mem_cons, List.mem_nil_iff, or_false] at he
  rcases he with rfl | rfl | rfl | rfl | rfl | rfl
  · exact isRes_inv (reg1_1 t fr)
  · exact isRes_inv (reg4_0 t fr)
  · exact isRes_inv (reg5_1 t fr)
  · exact isRes_inv (reg5_3 t fr)
  · exact isRes_inv (reg5_8 t fr)
  · exact isRes_inv (reg8_0 t fr)
theorem es16_ok : ∀ e ∈ es16, ∀ t fr, ∃ M', evA V1 100000 16 e.1 (tabM 9 0 (tabRow tabA t fr)) = some (e.2, M') := by
  intro e he t fr
  simp only [es16, List.mem_cons, List.mem_nil_iff, or_false] at he
  rcases he with rfl | rfl | rfl | rfl
  · exact isRes_inv (name1 t fr)
  · exact isRes_inv (name9 t fr)
  · exact isRes_inv (name50 t fr)
  · exact isRes_inv (name54 t fr)

noncomputable def sumF (i : Nat) : Option (List AV → Mem → Option (AV × Mem)) := if i = 31 then some (sumG 0 tabA es31) else if i = 16 then some (sumG 0 tabA es16) else none
noncomputable def V2 : Env := { P := Tryd.prog, E := tabOf Tryd.prog, G := 9, ext := T.ofF 8 extF, sum := T.ofF 6 sumF }

theorem has0 : 0 < Tryd.prog.globals.size := of_decide_eq_true (by kernel_rfl)
theorem sure2 : Sure V2 := ⟨rfl, num_ok, ext_ok, fun f g args us φ M w v M' N hg R hv he => by
  have h := T.ofF_some _ _ _ _ hg
  unfold sumF at h
  by_cases h1 : f = 31
  · rw [if_pos h1] at h; cases h; subst h1
    exact ⟨sumG_ok (V := V2) (V0 := V1) (n := 100000) sure1' rfl rfl has0 (by decide) (by kernel_rfl) (of_decide_eq_true (by kernel_rfl)) es31_ok R hv he, _, Tryd.func31, by kernel_rfl⟩
  · rw [if_neg h1] at h
    by_cases h2 : f = 16
    · rw [if_pos h2] at h; cases h; subst h2
      exact ⟨sumG_ok (V := V2) (V0 := V1) (n := 100000) sure1' rfl rfl has0 (by decide) (by kernel_rfl) (of_decide_eq_true (by kernel_rfl)) es16_ok R hv he, _, Tryd.func16, by kernel_rfl⟩
    · rw [if_neg h2] at h; cases h⟩

theorem small : V2.P.globals.size ≤ V2.G := of_decide_eq_true (by kernel_rfl)
theorem run : ∀ t fr t' fr' : Nat, isTrue (evA V2 100000 3 [] (tabM2 9 0 7 (tabRow tabA t fr) (tabRow tabB t' fr'))) = true := fun t fr t' fr' => by kernel_rfl

theorem gA : Tryd.prog.globalNamed "strings.asciiSpace" = some 0 := by kernel_rfl
theorem gB : Tryd.prog.globalNamed "math/bits.deBruijn64tab" = some 7 := by kernel_rfl
theorem tA : (Tryd.prog.globals[0]?).map (·.type) = some 116 := by kernel_rfl
theorem tB : (Tryd.prog.globals[7]?).map (·.type) = some 157 := by kernel_rfl

/-- A table's cells. -/
theorem cells_of {W : World} {name : String} {g : Nat} {cs : Array Value} {nums : List Int} (hg : Tryd.prog.globalNamed name = some g) (hv : W.var? Tryd.prog name = some cs) (h1 : cs.size = nums.length) (h2 : ∀ (i : Nat) (m : Int), nums[i]? = some m → cs[i]? = some (.int .u8 m)) :
    ∃ t fz, W.heap[g]? = some (.cells cs t fz) ∧ (nums.map fun m => AV.int .u8 m).length ≤ cs.size ∧ ∀ (i : Nat) (x : AV), (nums.map fun m => AV.int .u8 m)[i]? = some x → ∃ u, cs[i]? = some u ∧ ∀ φ, VRel φ x u := by
  unfold World.var? at hv
  rw [hg, Option.bind_some] at hv
  split at hv
  · rename_i c t fz hc
    cases hv
    refine ⟨t, fz, hc, ?_, fun i x hx => ?_⟩
    · rw [h1, List.length_map]; exact Nat.le_refl _
    · rw [List.getElem?_map] at hx
      cases hn : nums[i]? with
      | none => rw [hn] at hx; cases hx
      | some m =>
        rw [hn] at hx
        cases hx
        exact ⟨_, h2 i m hn, fun φ => .int _ _⟩
  · cases hv

set_option maxRecDepth 100000 in
theorem walk {W : World} (h : laidMetH Tryd.prog laidL W) : Calls Tryd.prog 3 #[] W fun e w' => e = .returned (.bool true) ∧ Kept W.heap.size W w' := by
  rw [MakeChecks.laidMetH_plain _ _ _ (by kernel_rfl)] at h
  obtain ⟨ps, ⟨g0, t0, cs0, f0, p0, q0, hg0, ht0, hv0, hd0, ⟨g1, t1, cs1, f1, p1, q1, hg1, ht1, hv1, hd1, ⟨g2, t2, cs2, f2, p2, q2, hg2, ht2, hv2, hd2, ⟨g3, t3, cs3, f3, p3, q3, hg3, ht3, hv3, hd3, ⟨g4, t4, cs4, f4, p4, q4, hg4, ht4, hv4, hd4, ⟨g5, t5, cs5, f5, p5, q5, hg5, ht5, hv5, hd5, _, _⟩, _⟩, _⟩, _⟩, _⟩, _⟩, _, _⟩ := h
  obtain rfl := Option.some.inj (gB.symm.trans hg1)
  obtain rfl := Option.some.inj (tB.symm.trans ht1)
  obtain rfl := Option.some.inj (gA.symm.trans hg5)
  obtain rfl := Option.some.inj (tA.symm.trans ht5)
  have hB : DataW.trod (fun _ => ()) Tryd.prog W 0 (fun _ => true) false f1 157 cs1.toList = some (.agg (numsB.map fun m => .lit (.int .u8 m)), p1) := hd1
  have hA : DataW.trod (fun _ => ()) Tryd.prog W 0 (fun _ => true) false f5 116 cs5.toList = some (.agg (numsA.map fun m => .lit (.int .u8 m)), p5) := hd5
  obtain ⟨b1, b2⟩ := ints_of Tryd.underlying157 Tryd.underlying5 (by kernel_rfl) (by kernel_rfl) (by kernel_rfl) hB
  obtain ⟨a1, a2⟩ := ints_of Tryd.underlying116 Tryd.underlying5 (by kernel_rfl) (by kernel_rfl) (by kernel_rfl) hA
  obtain ⟨t, fz, x1, x2, x3⟩ := cells_of gA hv5 a1 a2
  obtain ⟨t', fz', y1, y2, y3⟩ := cells_of gB hv1 b1 b2
  exact closed_tab2 sure2 (g := 0) (g' := 7) small (by decide) (by decide) (by decide) (by decide) (by decide) run x1 y1 x2 y2 x3 y3

theorem met (os : Os) (args : Array Value) : laidMetH Tryd.prog laidL ((World.laidAll Tryd.prog os laidL).forCall (fun _ _ => 0) ⟨#[], args, []⟩).memory := by
  rw [MakeChecks.laidMetH_plain _ _ _ (by kernel_rfl)]
  exact laidMet_laidAll _ (by kernel_rfl) (by kernel_rfl)

set_option maxRecDepth 100000 in
theorem lifted (os : Os) (started : os.Started) (H : Type) (enc : TypeId × Value → H) :
    ReturnsInHanded {} Tryd.checked os 3 .any (fun w args => (Rows.printKnownSpec.pre enc Tryd.prog Tryd.f3 [] false w args ∧ laidMetH Tryd.prog laidL w) ∧ sizedMet enc Tryd.prog Tryd.f3 (OpenSpec.ofChange Rows.printKnownSpec) false w args)
      (Rows.printKnownSpec.post enc Tryd.prog Tryd.f3 false true false false) := by
  refine returnsInHanded_of_change_and (C := Tryd.checked) (X := fun w _ => laidMetH Tryd.prog laidL w) (fun _ _ _ hh h => h.of_heap hh) own started (by kernel_rfl) Tryd.func3
    (ChangeSpec.witness_shaped (enc := enc) (C := Tryd.checked) (os := os) (X := fun w _ => laidMetH Tryd.prog laidL w) false (World.laidAll Tryd.prog os laidL) #[] 8 (World.laidAll_os _ _ _) (World.shaped_of_ZipB (by kernel_rfl) (by kernel_rfl)) (by kernel_rfl) (by kernel_rfl) (by kernel_rfl) (met os _)) ?_
  intro W base args ds gs before hval0 hW _ _ hL _
  have hval : ∀ (j : Nat) t v, Tryd.f3.params[j]? = some t → args[j]? = some v → Value.okWide Tryd.prog W .any base t v := hval0
  have hW' := hW
  obtain ⟨p, q, hA0, hV, rfl, hfz, hnd⟩ := hW
  have hA : DataW.TrodAll enc Tryd.prog W 0 (fun _ => true) true Tryd.f3.params.toList args.toList ds p := hA0
  rw [Tryd.params3] at hA hval
  obtain ⟨rfl, rfl, rfl⟩ := trodAll_none hA
  obtain ⟨rfl, rfl⟩ := trodVars_none hV
  clear hA0 hval0
  simp only [List.append_nil] at hW'
  refine (walk hL).mono fun e W' ⟨he, hg⟩ => ?_
  subst he
  exact ⟨_, rfl, post_of_kept (pa := []) (pv := []) hW' (fun _ _ _ => (trodAll_cons_mk (shut_bool Tryd.underlying4 _) trodAll_mk0)) (fun sp _ => rfl) (fun _ _ => rfl) rfl
    hg (ok_one (by kernel_rfl) rfl (okWide_bool_mk Tryd.underlying4 _))⟩

theorem over : Rows.PrintKnownSaid :=
  OpenClaim.holds_of_wide 3 Tryd.f3 rfl rfl rfl rfl rfl rfl rfl ⟨rfl, rfl, rfl, rfl, rfl⟩ rfl rfl rfl rfl rfl (by kernel_rfl) Tryd.func3 (by kernel_rfl)
    (of_decide_eq_true (by kernel_rfl)) (by unfold Func.isWrapper; first | (rw [if_pos (by decide +kernel)]; kernel_rfl) | (rw [if_neg (by decide +kernel)]; exact ⟨rfl, rfl⟩))
    (fun os started H enc _ => lifted os started H enc)

end Go.Proofs.YtodjacllgcficaaDoor.printKnown
namespace Go.Proofs.YtodjacllgcficaaDoor
open Go

theorem printKnown_card : Rows.PrintKnownCardSaid :=
  Claim7.holds_tied_plain_at .later [] [.data, .data, .data, .data, .listed, .data, .pinned] true (true, "3ff8c79fe88f06cf9d95480af6787e9e5e26f7029ddd0180a44241eb656f1100") false
    printKnown.over (fun _ h => by cases h) (by kernel_rfl) (fun _ h => by cases h) printKnown_row_tie rfl ⟨rfl, rfl⟩ (by kernel_rfl) rfl
    (fun f fn hf hfn => by
      obtain rfl : f = 3 := Option.some.inj ((show Tryd.prog.funcNamed "linotype/linotypelaw29.PrintKnown" = some 3 by kernel_rfl).symm.trans hf) |>.symm
      obtain rfl : fn = Tryd.f3 := (Option.some.inj (Tryd.func3.symm.trans hfn)).symm
      exact ⟨by kernel_rfl, fun j t ht => by
        rw [Tryd.params3] at ht
        simp at ht⟩)
    (by kernel_rfl)
#print axioms printKnown_card
end Go.Proofs.YtodjacllgcficaaDoor
