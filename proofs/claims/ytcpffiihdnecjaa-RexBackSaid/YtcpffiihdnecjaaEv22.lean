/- The evaluator: an anchored operation. -/
import Derived.Test.YtcpffiihdnecjaaEv21
namespace Go.Proofs.Ytcpffiihdnecjaa.Ev
set_option linter.unusedSectionVars false
set_option linter.unusedSimpArgs false
set_option linter.unusedVariables false
open Go

/-- A call's end, as it is known. -/
noncomputable def Ends (P : Program) (G N : Nat) (φ : Emb) (M : Mem) (w : World) (v : AV) (M' : Mem) (e : Ending) (w' : World) : Prop :=
  ∃ φ' u, e = .returned u ∧ VRel φ' v u ∧ Rep P G N φ' M' w' ∧ Ext φ M φ' ∧ Kept N w w' ∧ Unm φ M M'

/-- A piece comes to a value at once, or through a call. -/
noncomputable def Goes (P : Program) (G N : Nat) (φ : Emb) (M : Mem) (w : World) (s : Sem Next) (v : AV) (M' : Mem) : Prop :=
  Came P G N φ M w s v M' ∨ ∃ f us, s.run P w = .ok (.enter f us) w ∧ Calls P f us w (Ends P G N φ M w v M')

/-- What is known besides is so. -/
structure Sure (V : Env) : Prop where
  env : EnvOk V
  num : ∀ (f : FuncId) (fn : Func), V.P.funcs[f]? = some fn → fn.body.isSome = true → (fn.name == "runtime.NumGoroutine") = false
  ext : ∀ (f : FuncId) (g : List AV → Mem → Option (AV × Mem)) (args : List AV) (us : List Value) (φ : Emb) (M : Mem) (w : World) (v : AV) (M' : Mem) (N : Nat), V.ext.get f = some g → Rep V.P V.G N φ M w → VsRel φ args us → g args M = some (v, M') → Came V.P V.G N φ M w (callFunc f us.toArray) v M'
  sum : ∀ (f : FuncId) (g : List AV → Mem → Option (AV × Mem)) (args : List AV) (us : List Value) (φ : Emb) (M : Mem) (w : World) (v : AV) (M' : Mem) (N : Nat), V.sum.get f = some g → Rep V.P V.G N φ M w → VsRel φ args us → g args M = some (v, M') →
    Calls V.P f us.toArray w (Ends V.P V.G N φ M w v M') ∧ ∃ fn, V.P.funcs[f]? = some fn ∧ fn.body.isSome = true

theorem callFunc_run {P : Program} {f : FuncId} {fn : Func} {us : Array Value} {w : World} (h : P.funcs[f]? = some fn) (hb : fn.body.isSome = true) (hn : (fn.name == "runtime.NumGoroutine") = false) :
    (callFunc f us).run P w = .ok (.enter f us) w := by
  have hb' : fn.body.isNone = false := by cases h' : fn.body <;> simp_all
  have hp : (program : Sem Program).run P w = .ok P w := rfl
  simp only [callFunc, Sem.run_bind, hp, Result.andThen_ok, h, hn, hb', Bool.false_eq_true, if_false]
  rfl

section
variable {V : Env} (hS : Sure V) {N : Nat} {φ : Emb} {M : Mem} {w : World} (R : Rep V.P V.G N φ M w)
include hS R

theorem fnCall_val {f : FuncId} {args : List AV} {us : List Value} {v : AV} {M' : Mem} (hv : VsRel φ args us) (h : fnCall V M f args = .val v M') : Goes V.P V.G N φ M w (callFunc f us.toArray) v M' := by
  unfold fnCall at h
  split at h
  · rename_i g hg
    exact .inl (hS.ext f g args us φ M w v M' N hg R hv (rVal_inv h))
  · unfold sumCall at h
    split at h
    · rename_i g hg
      split at h
      · rename_i v' M1 hgv
        cases h
        obtain ⟨h1, fn, h2, h3⟩ := hS.sum f g args us φ M w _ _ N hg R hv hgv
        exact .inr ⟨f, us.toArray, callFunc_run h2 h3 (hS.num f fn h2 h3), h1⟩
      · cases h
    · cases h

theorem fnCall_enter {f f' : FuncId} {args args' : List AV} {M' : Mem} (h : fnCall V M f args = .enter f' args' M') : f' = f ∧ args' = args ∧ M' = M := by
  unfold fnCall at h
  split at h
  · unfold rVal at h
    split at h <;> cases h
  · unfold sumCall at h
    split at h
    · split at h
      · cases h
      · cases h; exact ⟨rfl, rfl, rfl⟩
    · cases h; exact ⟨rfl, rfl, rfl⟩

end

/-- A function's text, as the program has it. -/
theorem fns_of {V : Env} (hV : EnvOk V) {f : FuncId} {fn : Func} (h : V.E.fns.get f = some fn) : V.P.funcs[f]? = some fn := by
  rw [hV] at h
  have := T.ofL_get _ _ _ _ h
  rwa [Array.getElem?_toList] at this

section
variable {V : Env} (hS : Sure V) {N : Nat} {φ : Emb} {M : Mem} {w : World} (R : Rep V.P V.G N φ M w) {tm : T AV} {ρ : Operand → Value} (ho : OpRel φ tm ρ)
include hS R ho

theorem oAppend_ok {o : Oper} {c : Call} (hop : o.op = .call c) (hc : c.callee = .builtin .append) {v : AV} {M' : Mem} (h : oAppend V tm M c.args.toList c.argTypes = .val v M') : Came V.P V.G N φ M w (execOp ρ o) v M' := by
  unfold oAppend at h
  split at h
  · rename_i s x hsx
    obtain ⟨a, b, hab, ha, hb⟩ := two2_inv hsx
    split at h
    · rename_i t t' ht ht'
      split at h
      · rename_i e d hu hu'
        split at h
        · cases h
        · rename_i hd
          obtain ⟨φ', q, w', h1, h2, h3, h4, h5, h6⟩ := appendA_ok (ty := o.type) hS.env R ht ht' hu hu' (fun k e => hd k e) (ho _ _ ha) (ho _ _ hb) (rVal_inv h)
          refine ⟨φ', q, w', _, ?_, .inl rfl, h2, h3, h4, h5, h6⟩
          simp only [execOp, hop, resolve, hc, Sem.run_bind, Sem.run_pure, Result.andThen_ok, invoke, hab, builtin]
          rw [show (#[a, b] : Array Operand).map ρ = #[ρ a, ρ b] by simp]
          simp only [h1, Result.andThen_ok]
      · cases h
    · cases h
  · cases h

theorem oCopy_ok {o : Oper} {c : Call} (hop : o.op = .call c) (hc : c.callee = .builtin .copy) {v : AV} {M' : Mem} (h : oCopy V tm M c.args.toList c.argTypes = .val v M') : Came V.P V.G N φ M w (execOp ρ o) v M' := by
  unfold oCopy at h
  split at h
  · rename_i s x hsx
    obtain ⟨a, b, hab, ha, hb⟩ := two2_inv hsx
    split at h
    · rename_i t ht
      split at h
      · rename_i e hu
        obtain ⟨q, w', h1, h2, h3, h5, h6⟩ := copyA_ok (t' := o.type) hS.env R ht hu (ho _ _ ha) (ho _ _ hb) (rVal_inv h)
        refine ⟨φ, q, w', _, ?_, .inl rfl, h2, h3, .refl _ _, h5, h6⟩
        simp only [execOp, hop, resolve, hc, Sem.run_bind, Sem.run_pure, Result.andThen_ok, invoke, hab, builtin]
        rw [show (#[a, b] : Array Operand).map ρ = #[ρ a, ρ b] by simp]
        simp only [h1, Result.andThen_ok]
      · cases h
    · cases h
  · cases h

theorem oLen_ok {o : Oper} {c : Call} (hop : o.op = .call c) (hc : c.callee = .builtin .len) {v : AV} {M' : Mem} (h : oLen V tm M c.args c.argTypes = .val v M') : Came V.P V.G N φ M w (execOp ρ o) v M' := by
  unfold oLen at h
  split at h
  · rename_i t ht
    split at h
    · rename_i k e hu
      unfold oLenMap at h
      split at h
      · rename_i ha
        obtain ⟨x, hx, hv⟩ := one1_inv ha
        cases h
        refine .stay R (u := .int .i64 0) ?_ (.int _ _)
        have hr := ho _ _ hv
        cases hr' : ρ x with
        | map b =>
          rw [hr'] at hr
          cases hr
          simp only [execOp, hop, resolve, hc, Sem.run_bind, Sem.run_pure, Result.andThen_ok, invoke, hx, builtin]
          rw [show (#[x] : Array Operand).map ρ = #[.map none] by simp [hr']]
          simp [Builtin.len_, ht, run_underlying (und_of hS.env hu)]
          rfl
        | _ => rw [hr'] at hr; cases hr
      · rename_i b ha
        obtain ⟨x, hx, hv⟩ := one1_inv ha
        split at h
        · rename_i es clock hb
          cases h
          have hr := ho _ _ hv
          generalize hr' : ρ x = u at hr
          cases hr with
          | map _ l hl =>
            obtain ⟨o', ho', hor⟩ := R.blk b l hl
            rw [hb] at ho'; cases ho'
            obtain ⟨fs, hf1, hf2⟩ := hor
            refine .stay R (u := .int .i64 (.ofNat es.length)) ?_ (.int _ _)
            simp only [execOp, hop, resolve, hc, Sem.run_bind, Sem.run_pure, Result.andThen_ok, invoke, hx, builtin]
            rw [show (#[x] : Array Operand).map ρ = #[.map (some l.blk)] by simp [hr']]
            have hlen : fs.size = es.length := by
              rw [← Array.length_toList]
              exact hf2.length.symm
            simp [Builtin.len_, ht, run_underlying (und_of hS.env hu), run_getMap hf1, hlen]
            rfl
        · cases h
      · cases h
    · exact viaF_ok (o := o) hS.env R ho (by
        simp only [fA, hop, fCall, hc]
        exact h)
  · cases h


theorem oSliceData_ok {o : Oper} {c : Call} (hop : o.op = .call c) (hc : c.callee = .builtin .unsafeSliceData) {v : AV} {M' : Mem} (h : oSliceData tm M c.args.toList = .val v M') : Came V.P V.G N φ M w (execOp ρ o) v M' := by
  have go : ∀ (x : Operand) (r : Result Value), c.args = #[x] → (Builtin.unsafeSliceData_ c.argTypes o.type #[ρ x]).run V.P w = r → ∀ q, r = .ok q w → (execOp ρ o).run V.P w = .ok (.value q) w := by
    intro x r hx hr q hq
    simp only [execOp, hop, resolve, hc, Sem.run_bind, Sem.run_pure, Result.andThen_ok, invoke, hx, builtin]
    rw [show (#[x] : Array Operand).map ρ = #[ρ x] by simp]
    rw [hr, hq]
    rfl
  unfold oSliceData at h
  split at h
  · rename_i ha
    obtain ⟨x, hx, hv⟩ := one1_inv ha
    cases h
    have hr := ho _ _ hv
    generalize hu : ρ x = u at hr
    cases hr
    exact .stay R (go x (.ok (.pointer none) w) hx (by rw [hu]; rfl) _ rfl) .pnil
  · rename_i b i len cap ha
    obtain ⟨x, hx, hv⟩ := one1_inv ha
    cases hcap : (bif Nat.blt cap unk then Nat.beq cap 0 else Nat.beq cap unk)
    · rw [hcap, cond_false] at h
      cases h
      have hr := ho _ _ hv
      generalize hu : ρ x = u at hr
      cases hr with
      | slice _ _ _ _ l cap' hl q0 q1 q2 =>
        have hne : cap' ≠ 0 := by
          intro e
          cases hb : Nat.blt cap unk
          · rw [hb, cond_false] at hcap
            have h1 := blt_false hb
            obtain ⟨h2, _⟩ := q2 h1
            have : cap = unk := by omega
            rw [this] at hcap
            cases hcap
          · rw [hb, cond_true] at hcap
            have h1 := q1 (blt_true hb)
            rw [← h1, e] at hcap
            cases hcap
        refine .stay R (go x (.ok (.pointer (some (l.addr i))) w) hx ?_ _ rfl) (.ptr b i l hl)
        rw [hu]
        change Sem.run V.P (if cap' ≠ 0 then _ else _) w = _
        rw [if_pos hne]
        rfl
      | sliceE => cases hcap
    · rw [hcap] at h; cases h
  · cases h

omit hS R ho in
theorem loadBytes_run {P : Program} {w : World} {B : Nat} {c : Array Value} {e : TypeId} {fz : Nat × Nat} (h : w.heap[B]? = some (.cells c e fz)) : ∀ (bs : List UInt8) (o k : Nat) (acc : ByteArray), (∀ j b, bs[j]? = some b → c[o + k + j]? = some (byteV b)) →
    (loadBytes ⟨B, o + k, none⟩ acc bs.length).run P w = .ok ⟨acc.data ++ bs.toArray⟩ w
  | [], o, k, acc, _ => by simp [loadBytes, Sem.run_pure]
  | b :: bs, o, k, acc, hc => by
    have h0 := hc 0 b rfl
    rw [Nat.add_zero] at h0
    rw [List.length_cons, loadBytes, bind_ok (load_run h h0)]
    simp only [byteV]
    rw [Ev.addr_add, loadBytes_run h bs o (k + 1) _ (fun j b' hj => by
      have := hc (j + 1) b' (by simpa using hj)
      rw [← this]; congr 1; omega)]
    congr 1
    have : ((b.toNat : Int)).toNat.toUInt8 = b := by simp
    rw [this]
    simp [ByteArray.push]

theorem oUnsafeString_ok {o : Oper} {c : Call} (hop : o.op = .call c) (hc : c.callee = .builtin .unsafeString) {v : AV} {M' : Mem} (h : oUnsafeString V tm M c.args.toList c.argTypes = .val v M') : Came V.P V.G N φ M w (execOp ρ o) v M' := by
  have hV := hS.env
  have go : ∀ (x y : Operand) (q : Value) (w' : World), c.args = #[x, y] → (Builtin.unsafeString_ c.argTypes o.type #[ρ x, ρ y]).run V.P w = .ok q w' → (execOp ρ o).run V.P w = .ok (.value q) w' := by
    intro x y q w' hx hr
    simp only [execOp, hop, resolve, hc, Sem.run_bind, Sem.run_pure, Result.andThen_ok, invoke, hx, builtin]
    rw [show (#[x, y] : Array Operand).map ρ = #[ρ x, ρ y] by simp]
    rw [hr]
    rfl
  have empty : VRel φ (.str 0 0) (.string .empty) := .str .empty
  unfold oUnsafeString at h
  split at h
  · rename_i p nv hpn
    obtain ⟨x, y, hxy, hx, hy⟩ := two2_inv hpn
    split at h
    · rename_i n hn
      obtain ⟨kd, hn'⟩ := natOf_inv (φ := φ) hn
      cases hn'
      have hry := ho _ _ hy
      have hrx := ho _ _ hx
      simp only at hrx hry
      generalize huy : ρ y = uy at hry
      cases hry
      have nonneg : ¬ ((Int.ofNat n) < 0) := by simp
      split at h
      · cases hn0 : (Nat.beq n 0 && c.argTypes[0]?.isSome)
        · rw [hn0] at h; cases h
        · rw [hn0, cond_true] at h
          cases h
          rw [Bool.and_eq_true] at hn0
          generalize hux : ρ x = ux at hrx
          cases hrx
          have := Nat.eq_of_beq_eq_true hn0.1
          subst this
          cases ht : c.argTypes[0]? with
          | none => have := hn0.2; rw [ht] at this; cases this
          | some t =>
            refine .stay R (go x y _ w hxy ?_) empty
            rw [hux, huy]
            refine (bind_ok (P := V.P) (w := w) (s := asInt (.int kd (Int.ofNat 0))) (a := Int.ofNat 0) (w' := w) rfl).trans ?_
            rw [ht]
            rfl
      · rename_i b i
        cases hn0 : (Nat.beq n 0 && c.argTypes[0]?.isSome)
        · rw [hn0, cond_false] at h
          split at h
          · rename_i t ht
            have hnz : n ≠ 0 := fun e => by rw [e, ht] at hn0; cases hn0
            split at h
            · rename_i u hu
              unfold oUnsafeString1 at h
              split at h
              · rename_i r hr hs1
                cases hcond : (Nat.beq r.elem u && Nat.ble (i + n) r.len && !Nat.blt b V.G && !r.sh && Nat.blt n 9223372036854775808)
                · rw [hcond] at h; cases h
                · rw [hcond, cond_true] at h
                  simp only [Bool.and_eq_true, Bool.not_eq_true'] at hcond
                  obtain ⟨⟨⟨⟨c1, c2⟩, c3⟩, c4⟩, c5⟩ := hcond
                  have c1 := Nat.eq_of_beq_eq_true c1
                  have c2 := Nat.le_of_ble_eq_true c2
                  have c3 := blt_false c3
                  have c5 := blt_true c5
                  unfold oUnsafeString2 at h
                  split at h
                  · rename_i cs hcs
                    split at h
                    · rename_i m hm
                      obtain ⟨rfl, hput⟩ := rMem_inv h
                      generalize hux : ρ x = ux at hrx
                      obtain ⟨l, hl, rfl⟩ := hrx.ptr_inv
                      obtain ⟨⟨cc, fz, hw, hsz, hes, hwh, hlv⟩, hlive⟩ := R.rowAt hr hl
                      obtain ⟨hsp, hlen, hfz, hcell⟩ := hlv hlive
                      obtain ⟨g1, g2⟩ := getsFrom_get hcs
                      obtain ⟨us, hus, hrel⟩ : ∃ us : List Value, VsRel φ cs us ∧ ∀ j, j < n → cc[l.off + i + j]? = us[j]? := by
                        have key : ∀ (k : Nat) (cs : List AV), (∀ j, j < cs.length → r.cells.get (i + k + j) = cs[j]?) → ∃ us : List Value, VsRel φ cs us ∧ ∀ j, j < cs.length → cc[l.off + i + (k + j)]? = us[j]? := by
                          intro k cs
                          induction cs generalizing k with
                          | nil => intro _; exact ⟨[], .nil, fun j hj => by simp at hj⟩
                          | cons x cs ih =>
                            intro hg
                            have h0 := hg 0 (by simp)
                            simp only [Nat.add_zero, List.getElem?_cons_zero] at h0
                            obtain ⟨_, u, hu1, hu2⟩ := hcell _ _ h0
                            obtain ⟨us, h1, h2⟩ := ih (k + 1) (fun j hj => by
                              have := hg (j + 1) (by simp; omega)
                              rw [List.getElem?_cons_succ] at this
                              rw [← this]; congr 1; omega)
                            refine ⟨u :: us, .cons _ _ _ _ hu2 h1, fun j hj => ?_⟩
                            cases j with
                            | zero => rw [List.getElem?_cons_zero, ← hu1]; congr 1; omega
                            | succ j =>
                              rw [List.getElem?_cons_succ, ← h2 j (by simp at hj; omega)]
                              congr 1; omega
                        obtain ⟨us, h1, h2⟩ := key 0 cs (fun j hj => by rw [Nat.add_zero]; exact g2 j (by omega))
                        exact ⟨us, h1, fun j hj => by have := h2 j (by omega); rwa [Nat.zero_add] at this⟩
                      obtain ⟨bs, rfl, hpk, hbl⟩ := packA_rel hus hm
                      have hbn : bs.length = n := by rw [hbl, g1]
                      have hcu : V.P.cellsOf u = 1 := (size_of' hV w hs1).1
                      have hload : (loadBytes (l.addr i) .empty n).run V.P w = .ok ⟨bs.toArray⟩ w := by
                        have := loadBytes_run (P := V.P) hw bs l.off i .empty (fun j b' hj => by
                          have hjn : j < n := by rw [← hbn]; exact (List.getElem?_eq_some_iff.1 hj).1
                          rw [hrel j hjn, List.getElem?_map, hj]; rfl)
                        rw [hbn] at this
                        simpa [Loc.addr] using this
                      have hsh : (shape (l.addr i).block).run V.P w = .ok (some (u, cc.size)) w := by
                        have : w.shape? l.blk = some (r.elem, cc.size) := by simp [World.shape?, hw]
                        simp [shape, Sem.run, Loc.addr, this, c1]
                      have hdep : ∃ d, V.P.depth = d + 1 := ⟨_, rfl⟩
                      obtain ⟨d, hd⟩ := hdep
                      have hrow : rowAt V.P (fun x => sameLayout V.P V.P.depth x u) V.P.depth u cc.size (l.addr i).off n = true := by
                        rw [hd]
                        unfold rowAt
                        rw [hcu]
                        have h1 : (l.addr i).off + n ≤ cc.size := by show l.off + i + n ≤ cc.size; omega
                        have h2 : sameLayout V.P (d + 1) u u = true := by unfold sameLayout; simp
                        simp [h1, h2, Nat.mod_one, Nat.div_one]
                      have hva : (variablesAt (l.addr i) u n).run V.P w = .ok true w := by
                        simp only [variablesAt, Sem.run_bind, run_program, Result.andThen_ok, hsh, hcu, Nat.div_one]
                        have : liesAt V.P V.P.depth u cc.size (l.addr i).off u n = true := by
                          unfold liesAt
                          rw [hd] at hrow ⊢
                          simp [hrow]
                        rw [this]
                        rfl
                      have hel : (elemOf t).run V.P w = .ok u w := by
                        simp only [elemOf, Sem.run_bind, run_underlying (und_of hV hu), Result.andThen_ok, Sem.run_pure]
                      have hmax : ¬ (Int.ofNat n > IntKind.i64.max) := by
                        have : IntKind.i64.max = 9223372036854775807 := by decide
                        rw [this, Int.ofNat_eq_natCast]; omega
                      have hfrz : ∃ fz', Upd w (w.freeze (l.addr i) n) l.blk (.cells cc r.elem fz') ∧ (fz'.1 = fz'.2 ∨ fz'.2 ≤ l.off + Nat.max r.fr (i + n) ∨ (r.sh = true ∧ cc.size ≤ fz'.1)) := by
                        obtain ⟨lo, hi⟩ := fz
                        refine ⟨if lo == hi then ((l.addr i).off, (l.addr i).off + n) else (min lo (l.addr i).off, max hi ((l.addr i).off + n)), ⟨?_, ?_, ?_, ?_, fun k hk => ?_, ?_⟩, ?_⟩
                        · unfold World.freeze; rw [if_neg hnz]
                        · unfold World.freeze; rw [if_neg hnz]
                        · unfold World.freeze; rw [if_neg hnz]
                        · unfold World.freeze; rw [if_neg hnz]; simp
                        · unfold World.freeze; rw [if_neg hnz]
                          simp only [Array.getElem?_modify]
                          rw [if_neg (fun e => hk e.symm)]
                        · unfold World.freeze; rw [if_neg hnz]
                          simp only [Array.getElem?_modify, Loc.addr, if_true, hw, Option.map_some]
                        · right; left
                          have hm1 : Nat.max r.fr (i + n) = max r.fr (i + n) := rfl
                          have ha : (l.addr i).off = l.off + i := rfl
                          rw [hm1, ha]
                          by_cases e : lo = hi
                          · rw [if_pos (by simpa using e)]
                            show l.off + i + n ≤ _
                            omega
                          · rw [if_neg (by simpa using e)]
                            simp only at hfz
                            rcases hfz with hfz | hfz | ⟨hfz, _⟩
                            · exact absurd hfz e
                            · show max hi (l.off + i + n) ≤ _
                              omega
                            · rw [c4] at hfz; cases hfz
                      obtain ⟨fz', hupd, hfz'⟩ := hfrz
                      unfold Mem.put at hput
                      split at hput
                      · rename_i heap hheap
                        cases hput
                        have hhg := T.set_get _ _ _ _ hheap
                        have hR' := R.turnRow (r' := { r with fr := Nat.max r.fr (i + n) }) (M' := { M with heap }) hl hr rfl rfl hhg rfl rfl hw hupd rfl
                          ⟨cc, fz', hupd.here, hsz, hes, hwh, fun _ => ⟨hsp, hlen, hfz', hcell⟩⟩
                        refine ⟨φ, .string ⟨bs.toArray⟩, w.freeze (l.addr i) n, _, go x y _ _ hxy ?_, .inl rfl, ?_, hR', .refl _ _, hupd.kept ((R.dom b l hl).2.2 c3), ⟨Nat.le_refl _, fun k _ hk => ?_⟩⟩
                        · rw [hux, huy]
                          refine (bind_ok (P := V.P) (w := w) (s := asInt (.int kd (Int.ofNat n))) (a := Int.ofNat n) (w' := w) rfl).trans ?_
                          rw [ht]
                          simp only []
                          have h0 : ¬ (Int.ofNat n = 0) := by simp; exact hnz
                          rw [if_neg nonneg, if_neg hmax, if_neg h0]
                          simp only [Sem.run_bind, hel, Result.andThen_ok]
                          have hnn : (Int.ofNat n).toNat = n := rfl
                          rw [hnn]
                          simp only [hva, Result.andThen_ok, if_true, Sem.run_bind, hload]
                          rfl
                        · have := VRel.str (φ := φ) (⟨bs.toArray⟩ : ByteArray)
                          have h1 : (⟨bs.toArray⟩ : ByteArray).size = n := by rw [← hbn]; simp [ByteArray.size]
                          rw [h1] at this
                          simpa [hpk] using this
                        · show T.get heap k = _
                          rw [hhg, if_neg (fun e => by subst e; rw [hl] at hk; cases hk)]
                      · cases hput
                    · cases h
                  · cases h
              · cases h
            · cases h
          · cases h
        · rw [hn0, cond_true] at h
          cases h
          rw [Bool.and_eq_true] at hn0
          have := Nat.eq_of_beq_eq_true hn0.1
          subst this
          generalize hux : ρ x = ux at hrx
          obtain ⟨l, hl, rfl⟩ := hrx.ptr_inv
          cases ht : c.argTypes[0]? with
          | none => have := hn0.2; rw [ht] at this; cases this
          | some t =>
            refine .stay R (go x y _ w hxy ?_) empty
            rw [hux, huy]
            refine (bind_ok (P := V.P) (w := w) (s := asInt (.int kd (Int.ofNat 0))) (a := Int.ofNat 0) (w' := w) rfl).trans ?_
            rw [ht]
            rfl
      · cases h
    · cases h
  · cases h

end
end Go.Proofs.Ytcpffiihdnecjaa.Ev
