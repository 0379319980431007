/- The evaluator: functions without a text; a table that is laid. -/
import Derived.Test.YtcpffiihdnecjaaEv33
import Derived.Lib.Bytealg
import Derived.Laws.Externs
namespace Go.Proofs.Ytcpffiihdnecjaa.Ev
set_option linter.unusedSectionVars false
set_option linter.unusedSimpArgs false
set_option linter.unusedVariables false
open Go

noncomputable def countB (c : Nat) : Nat → Nat → Nat → Nat
  | 0, _, acc => acc
  | k + 1, n, acc => countB c k (n / 256) (bif Nat.beq (n % 256) c then acc + 1 else acc)

/-- bytealg.CountString, bytealg.IndexByteString, bits.Add64. -/
noncomputable def xCount (args : List AV) (M : Mem) : Option (AV × Mem) :=
  match args with
  | [.str l n, .int .u8 (.ofNat c)] => bif Nat.blt c 256 then some (.int .i64 (.ofNat (countB c l n 0)), M) else none
  | _ => none
noncomputable def xIndex (args : List AV) (M : Mem) : Option (AV × Mem) :=
  match args with
  | [.str l n, .int .u8 (.ofNat c)] => bif Nat.blt c 256 then (match findByte c l n 0 with
    | some i => some (.int .i64 (.ofNat i), M)
    | none => some (.int .i64 (.negSucc 0), M)) else none
  | _ => none
noncomputable def xAdd64 (args : List AV) (M : Mem) : Option (AV × Mem) :=
  match args with
  | [.int .u64 (.ofNat x), .int .u64 (.ofNat y), .int .u64 (.ofNat c)] =>
    bif Nat.ble c 1 then some (.tuple [.int .u64 (.ofNat ((x + y + c) % 18446744073709551616)), .int .u64 (.ofNat ((x + y + c) / 18446744073709551616))], M) else none
  | _ => none

theorem byte_eq (b : UInt8) (c : Nat) (hc : c < 256) : Nat.beq b.toNat c = (b == c.toUInt8) := by
  have h : c.toUInt8.toNat = c := by simp [Nat.toUInt8, Nat.mod_eq_of_lt hc]
  rw [Bool.eq_iff_iff, Nat.beq_eq, beq_iff_eq]
  constructor
  · intro e
    apply UInt8.toNat_inj.1
    rw [h, e]
  · intro e
    rw [e, h]

theorem pack_head (b : UInt8) (l : List UInt8) : packL (b :: l) % 256 = b.toNat ∧ packL (b :: l) / 256 = packL l := by
  have := b.toNat_lt
  have e : packL (b :: l) = b.toNat + 256 * packL l := rfl
  constructor <;> (rw [e]; omega)

theorem countB_eq (c : Nat) (hc : c < 256) : ∀ (l : List UInt8) (acc : Nat), countB c l.length (packL l) acc = acc + Lib.countByte l c.toUInt8
  | [], acc => by simp [countB, Lib.countByte]
  | b :: l, acc => by
    obtain ⟨h1, h2⟩ := pack_head b l
    rw [List.length_cons, countB, h1, h2, countB_eq c hc l, byte_eq b c hc]
    unfold Lib.countByte
    rw [List.count_cons]
    cases h : b == c.toUInt8
    · simp
    · simp; omega

theorem findByte_eq (c : Nat) (hc : c < 256) : ∀ (l : List UInt8) (i : Nat), match findByte c l.length (packL l) i with
    | some j => i ≤ j ∧ Lib.indexByte l c.toUInt8 = ((j - i : Nat) : Int)
    | none => Lib.indexByte l c.toUInt8 = -1
  | [], i => rfl
  | b :: l, i => by
    obtain ⟨h1, h2⟩ := pack_head b l
    rw [List.length_cons, findByte, h1, h2, byte_eq b c hc]
    unfold Lib.indexByte
    cases h : b == c.toUInt8
    · rw [cond_false]
      have ih := findByte_eq c hc l (i + 1)
      split at ih
      · rename_i j hj
        obtain ⟨a, e⟩ := ih
        refine ⟨by omega, ?_⟩
        rw [e]
        have : ¬ (((j - (i + 1) : Nat) : Int) == -1) = true := by simp
        rw [if_neg (by simp), if_neg this]
        omega
      · rename_i hj
        rw [ih]
        simp
    · rw [cond_true]
      simp

/-- A function without a text, by the model's own entry. -/
structure Fits (P : Program) (f : FuncId) (e : Array Value → Sem Value) : Prop where
  fits : ∃ fn, P.funcs[f]? = some fn ∧ (fn.name == "runtime.NumGoroutine") = false ∧ fn.body.isNone = true ∧ Extern.findNext fn = none ∧ Extern.find fn = some e

theorem Fits.came {P : Program} {f : FuncId} {e : Array Value → Sem Value} (h : Fits P f e) {G N : Nat} {φ : Emb} {M : Mem} {w : World} (R : Rep P G N φ M w) {us : Array Value} {u : Value} {v : AV}
    (hr : (e us).run P w = .ok u w) (hv : VRel φ v u) : Came P G N φ M w (callFunc f us) v M := by
  obtain ⟨fn, h1, h2, h3, h4, h5⟩ := h.fits
  refine .stay R ?_ hv
  rw [run_callFunc_extern h1 h2 h3 h4 h5, hr]
  rfl

theorem list_two {φ : Emb} {x y : AV} {us : List Value} (h : VsRel φ [x, y] us) : ∃ u v, us = [u, v] ∧ VRel φ x u ∧ VRel φ y v := by
  cases h with
  | cons _ u _ us' h1 h => cases h with
    | cons _ v _ us'' h2 h => cases h; exact ⟨u, v, rfl, h1, h2⟩

theorem list_three {φ : Emb} {x y z : AV} {us : List Value} (h : VsRel φ [x, y, z] us) : ∃ u v w, us = [u, v, w] ∧ VRel φ x u ∧ VRel φ y v ∧ VRel φ z w := by
  cases h with
  | cons _ u _ us' h1 h =>
    obtain ⟨v, w, rfl, h2, h3⟩ := list_two h
    exact ⟨u, v, w, rfl, h1, h2, h3⟩

theorem xCount_ok {P : Program} {f : FuncId} (h : Fits P f Extern.BytealgCount.count) {G N : Nat} {φ : Emb} {M M' : Mem} {w : World} (R : Rep P G N φ M w) {args : List AV} {us : List Value} {v : AV} (hv : VsRel φ args us)
    (he : xCount args M = some (v, M')) : Came P G N φ M w (callFunc f us.toArray) v M' := by
  unfold xCount at he
  split at he
  · rename_i l n c
    cases hc : Nat.blt c 256
    · rw [hc] at he; cases he
    · rw [hc, cond_true] at he
      cases he
      obtain ⟨u, v, rfl, h1, h2⟩ := list_two hv
      cases h1 with
      | str s =>
        cases h2
        refine h.came R (Lib.run_countString s (Int.ofNat c) w) ?_
        have h3 : s.data.toList.length = s.size := by simp
        have := countB_eq c (blt_true hc) s.data.toList 0
        rw [h3, Nat.zero_add] at this
        rw [this]
        exact .int _ _
  · cases he

theorem xIndex_ok {P : Program} {f : FuncId} (h : Fits P f Extern.BytealgIndexByte.indexByte) {G N : Nat} {φ : Emb} {M M' : Mem} {w : World} (R : Rep P G N φ M w) {args : List AV} {us : List Value} {v : AV} (hv : VsRel φ args us)
    (he : xIndex args M = some (v, M')) : Came P G N φ M w (callFunc f us.toArray) v M' := by
  unfold xIndex at he
  split at he
  · rename_i l n c
    cases hc : Nat.blt c 256
    · rw [hc] at he; cases he
    · rw [hc, cond_true] at he
      obtain ⟨u, v', rfl, h1, h2⟩ := list_two hv
      cases h1 with
      | str s =>
        cases h2
        have h3 : s.data.toList.length = s.size := by simp
        have hf := findByte_eq c (blt_true hc) s.data.toList 0
        rw [h3] at hf
        have hrun := Lib.run_indexByteString (P := P) s (Int.ofNat c) w
        split at he
        · rename_i i hi
          cases he
          rw [hi] at hf
          obtain ⟨_, e⟩ := hf
          refine h.came R hrun ?_
          have : Lib.indexByte s.data.toList (Int.ofNat c).toNat.toUInt8 = Int.ofNat i := by
            show Lib.indexByte s.data.toList c.toUInt8 = _
            rw [e]; rfl
          rw [this]
          exact .int _ _
        · rename_i hi
          cases he
          rw [hi] at hf
          refine h.came R hrun ?_
          have : Lib.indexByte s.data.toList (Int.ofNat c).toNat.toUInt8 = Int.negSucc 0 := hf
          rw [this]
          exact .int _ _
  · cases he

theorem xAdd64_ok {P : Program} {f : FuncId} (h : Fits P f add64Entry) {G N : Nat} {φ : Emb} {M M' : Mem} {w : World} (R : Rep P G N φ M w) {args : List AV} {us : List Value} {v : AV} (hv : VsRel φ args us)
    (he : xAdd64 args M = some (v, M')) : Came P G N φ M w (callFunc f us.toArray) v M' := by
  unfold xAdd64 at he
  split at he
  · rename_i x y c
    cases hc : Nat.ble c 1
    · rw [hc] at he; cases he
    · rw [hc, cond_true] at he
      cases he
      obtain ⟨u1, u2, u3, rfl, h1, h2, h3⟩ := list_three hv
      cases h1; cases h2; cases h3
      have hc := Nat.le_of_ble_eq_true hc
      refine h.came R (run_add64 (Int.ofNat x) (Int.ofNat y) (Int.ofNat c) (Int.natCast_nonneg _) (Int.natCast_nonneg _) (Int.natCast_nonneg _) (by simp only [Int.ofNat_eq_natCast]; omega) w) ?_
      exact .tuple _ _ (.cons _ _ _ _ (.int _ _) (.cons _ _ _ _ (.int _ _) .nil))
  · cases he

/-- What is known besides: these functions. -/
theorem sure1 {V : Env} (h1 : V.E = tabOf V.P) (h3 : V.sum = .nil) (h4 : V.P.funcs.all (fun fn => fn.body.isNone || !(fn.name == "runtime.NumGoroutine")) = true)
    (h2 : ∀ f g, V.ext.get f = some g → (g = xCount ∧ Fits V.P f Extern.BytealgCount.count) ∨ (g = xIndex ∧ Fits V.P f Extern.BytealgIndexByte.indexByte) ∨ (g = xAdd64 ∧ Fits V.P f add64Entry)) : Sure V := by
  refine ⟨h1, fun f fn hf hb => ?_, fun f g args us φ M w v M' N hg R hv he => ?_, fun f g _ _ _ _ _ _ _ _ hg => ?_⟩
  · have := Array.all_eq_true_iff_forall_mem.1 h4 fn (Array.mem_of_getElem? hf)
    cases h : fn.body with
    | none => rw [h] at hb; cases hb
    | some c =>
      rw [h] at this
      simpa using this
  · rcases h2 f g hg with ⟨rfl, hf⟩ | ⟨rfl, hf⟩ | ⟨rfl, hf⟩
    · exact xCount_ok hf R hv he
    · exact xIndex_ok hf R hv he
    · exact xAdd64_ok hf R hv he
  · rw [h3, T.get_nil] at hg; cases hg

end Go.Proofs.Ytcpffiihdnecjaa.Ev
