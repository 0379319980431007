/- rex.Read and the document's Read, of any bytes: what they answer. -/
import Derived.Test.YtcpffiihdnecjaaRead1
import Derived.Test.YtcpffiihdnecjaaRead2
import Derived.Test.YtcpffiihdnecjaaRead3
namespace Go.Proofs.Ytcpffiihdnecjaa
open Go Go.RowKit Ev
set_option linter.unusedVariables false
set_option linter.unusedSimpArgs false
set_option linter.unusedSectionVars false

/-- Bytes came in: what of them is read. -/
def ARow (w : World) (p : Option Addr) (n c : Nat) (zs : List Int) : Prop :=
  zs.length = n ∧ n ≤ c ∧ c ≤ 9223372036854775807 ∧ (∀ x ∈ zs, 0 ≤ x ∧ x ≤ 255) ∧
  ((n = 0 ∧ c = 0 ∧ zs = []) ∨ ∃ B off cs t fz, p = some ⟨B, off, none⟩ ∧ w.heap[B]? = some (.cells cs t fz) ∧ off ≤ cs.size ∧ ∀ (j : Nat) (x : Int), zs[j]? = some x → cs[off + j]? = some (.int .u8 x))

theorem rep_arg {P : Program} {B off : Nat} {l : List AV} {c : Array Value} {t : TypeId} {fz : Nat × Nat} {W : World} (hP : P.globals.size ≤ 1) (hW : W.heap[B]? = some (.cells c t fz)) (hoff : off ≤ c.size) (hlen : l.length ≤ c.size - off)
    (hcells : ∀ (i : Nat) (x : AV), l[i]? = some x → ∃ u, c[off + i]? = some u ∧ ∀ φ, VRel φ x u) : Rep P 2 W.heap.size (fun b => if b = 1 then some ⟨B, off, c.size - off, P.cellsOf t⟩ else none) (tabM 2 1 (argRow l t fz.2)) W := by
  have hget : (tabM 2 1 (argRow l t fz.2)).heap.get 1 = some (.row (argRow l t fz.2)) := by
    unfold tabM
    simp only []
    rw [T.ofF_get 6 _ 1 (by omega), if_pos rfl]
  have hlt := (Array.getElem?_eq_some_iff.1 hW).1
  have inv : ∀ b (q : Ev.Loc), (if b = 1 then some (⟨B, off, c.size - off, P.cellsOf t⟩ : Ev.Loc) else none) = some q → b = 1 ∧ q = ⟨B, off, c.size - off, P.cellsOf t⟩ := by
    intro b q h
    by_cases e : b = 1
    · rw [if_pos e] at h; cases h; exact ⟨e, rfl⟩
    · rw [if_neg e] at h; cases h
  refine ⟨fun b q h => ?_, fun b q h => ?_, fun b b' q q' h h' hne _ => ?_, fun b r h => ?_, fun b o h => ?_, Nat.le_refl _, Nat.le_refl _, by omega, fun k o hk h => ?_⟩
  · obtain ⟨rfl, rfl⟩ := inv b q h
    exact ⟨Nat.lt_of_sub_pos (by decide : 0 < 2 - 1), hlt, fun h' => absurd h' (by omega)⟩
  · obtain ⟨rfl, rfl⟩ := inv b q h
    refine ⟨_, hget, c, fz, hW, by simp; omega, rfl, fun h => (by cases h), fun _ => ⟨fun h => (by cases h), hlen, .inr (.inl (by simp [argRow])), fun i v hv => ?_⟩⟩
    have hv' := T.ofF_some _ _ _ _ hv
    obtain ⟨u, h1, h2⟩ := hcells i v hv'
    refine ⟨?_, u, by simpa using h1, h2 _⟩
    exact (List.getElem?_eq_some_iff.1 hv').1
  · exact absurd ((inv b q h).1.trans (inv b' q' h').1.symm) hne
  · obtain ⟨_, e⟩ := tabM_get h
    cases e
    exact .inl rfl
  · obtain ⟨rfl, _⟩ := tabM_get h
    exact Nat.lt_of_sub_pos (by decide : 0 < 2 - 1)
  · obtain ⟨rfl, _⟩ := tabM_get h
    exact absurd hk (by omega)

/-- Every list of bytes. -/
theorem both_all (l : List Int) (hl : ∀ x ∈ l, 0 ≤ x ∧ x ≤ 255) (t fr cap : Nat) : bothB l t fr cap = true := by
  have nat : ∀ x : Int, 0 ≤ x ∧ x ≤ 255 → ∃ k : Nat, x = .ofNat k ∧ k < 256 := fun x h => ⟨x.toNat, (Int.toNat_of_nonneg h.1).symm, by omega⟩
  cases l with
  | nil => exact r_empty t fr cap
  | cons x r =>
    obtain ⟨k, rfl, hk⟩ := nat x (hl _ (by simp))
    cases h0 : (Nat.beq k 102 || Nat.beq k 242 || Nat.beq k 243)
    · exact r_n r t fr cap k hk h0
    · simp only [Bool.or_eq_true] at h0
      rcases h0 with (h0 | h0) | h0
      · have := Nat.eq_of_beq_eq_true h0
        subst this
        cases r with
        | nil => exact r_a0 t fr cap
        | cons y r =>
          obtain ⟨k, rfl, hk⟩ := nat y (hl _ (by simp))
          cases h1 : (Nat.beq k 242 || Nat.beq k 243)
          · exact r_a r t fr cap k hk h1
          · simp only [Bool.or_eq_true] at h1
            rcases h1 with h1 | h1
            · have := Nat.eq_of_beq_eq_true h1
              subst this
              cases r with
              | nil => exact r_b0 t fr cap
              | cons z r =>
                obtain ⟨k, rfl, hk⟩ := nat z (hl _ (by simp))
                exact r_b r t fr cap k hk rfl
            · have := Nat.eq_of_beq_eq_true h1
              subst this
              cases r with
              | nil => exact r_c0 t fr cap
              | cons z r =>
                obtain ⟨k, rfl, hk⟩ := nat z (hl _ (by simp))
                exact r_c r t fr cap k hk rfl
      · have := Nat.eq_of_beq_eq_true h0
        subst this
        cases r with
        | nil => exact r_d0 t fr cap
        | cons z r =>
          obtain ⟨k, rfl, hk⟩ := nat z (hl _ (by simp))
          exact r_d r t fr cap k hk rfl
      · have := Nat.eq_of_beq_eq_true h0
        subst this
        cases r with
        | nil => exact r_e0 t fr cap
        | cons z r =>
          obtain ⟨k, rfl, hk⟩ := nat z (hl _ (by simp))
          exact r_e r t fr cap k hk rfl

theorem three {φ : Emb} {a b c : Int} {u : Value} (h : VRel φ (.tuple [.int .i64 a, .int .i64 b, .int .i64 c]) u) : u = .tuple #[.int .i64 a, .int .i64 b, .int .i64 c] := by
  cases h with
  | tuple _ us hus =>
    obtain ⟨l⟩ := us
    cases hus with
    | cons _ _ _ _ h1 hus => cases hus with
      | cons _ _ _ _ h2 hus => cases hus with
        | cons _ _ _ _ h3 hus =>
          cases hus; cases h1; cases h2; cases h3; rfl

noncomputable def runE (f : FuncId) (s : AV) : Bool :=
  match evA V2 100000 f [s] (M0 2) with
  | some (.tuple [.int .i64 a, .int .i64 b, .int .i64 c], _) => a == 0 && b == -1 && c == 0
  | _ => false
theorem e1 : runE 9 .snil = true := by kernel_rfl
theorem e2 : runE 10 .snil = true := by kernel_rfl
theorem e3 : runE 9 (.slice 1 0 0 unk) = true := by kernel_rfl
theorem e4 : runE 10 (.slice 1 0 0 unk) = true := by kernel_rfl

def Tri (x : Int × Int × Int) : Value := .tuple #[.int .i64 x.1, .int .i64 x.2.1, .int .i64 x.2.2]

theorem kept_below {w w' : World} (h : Kept w.heap.size w w') : Below w.heap.size w w' := ⟨h.os, h.tape, h.output, h.size, h.block⟩

theorem read_run {f : FuncId} {w : World} {p : Option Addr} {n c : Nat} {zs : List Int} (h : ARow w p n c zs) (hr : ∀ t fr cap, runB f zs t fr cap = true) (he1 : runE f .snil = true) (he2 : runE f (.slice 1 0 0 unk) = true) (hp : p = none → c = 0) :
    Calls Try.prog f #[.slice p n c] w fun e w' => e = .returned (Tri (readL zs)) ∧ Below w.heap.size w w' := by
  obtain ⟨h1, h2, h3, h4, h5⟩ := h
  rcases h5 with ⟨rfl, rfl, rfl⟩ | ⟨B, off, cs, t, fz, rfl, hB, hoff, hcells⟩
  · have key : ∀ s : AV, runE f s = true → VRel (fun _ => none) s (.slice p 0 0) → Calls Try.prog f #[.slice p 0 0] w fun e w' => e = .returned (Tri (readL [])) ∧ Below w.heap.size w w' := by
      intro s hs hv
      unfold runE at hs
      split at hs
      · rename_i a b c M hM
        simp only [Bool.and_eq_true, beq_iff_eq] at hs
        obtain ⟨⟨rfl, rfl⟩, rfl⟩ := hs
        refine (ev_ok sure2 (us := #[.slice p 0 0]) (rep0 w (Nat.le_trans small2 (by decide : 1 ≤ 2)) (Nat.le_refl _)) (.cons _ _ _ _ hv .nil) hM).mono ?_
        rintro e w1 ⟨φ1, u1, rfl, v1, _, _, k1, _⟩
        exact ⟨by rw [three v1]; rfl, kept_below k1⟩
      · cases hs
    cases p with
    | none => exact key _ he1 .snil
    | some a => exact key _ he2 (.sliceE _ _ _)
  · have hr := hr t fz.2 c
    unfold runB at hr
    split at hr
    · rename_i a b d M hM
      simp only [Bool.and_eq_true, beq_iff_eq] at hr
      obtain ⟨⟨rfl, rfl⟩, rfl⟩ := hr
      have hlen : (zs.map (AV.int .u8)).length ≤ cs.size - off := by
        rw [List.length_map]
        rcases Nat.eq_zero_or_pos zs.length with h0 | h0
        · omega
        · have := hcells (zs.length - 1) (zs[zs.length - 1]) (List.getElem?_eq_getElem (by omega))
          have := (Array.getElem?_eq_some_iff.1 this).1
          omega
      have R := rep_arg (P := Try.prog) (l := zs.map (AV.int .u8)) small2 hB hoff hlen (fun i x hx => by
        rw [List.getElem?_map] at hx
        cases hz : zs[i]? with
        | none => rw [hz] at hx; cases hx
        | some z =>
          rw [hz] at hx
          cases hx
          exact ⟨_, hcells i z hz, fun φ => .int _ _⟩)
      have hv : VRel (fun b => if b = 1 then some (⟨B, off, cs.size - off, Try.prog.cellsOf t⟩ : Ev.Loc) else none) (.slice 1 0 zs.length c) (.slice (some ⟨B, off, none⟩) n c) := by
        rw [h1]
        exact VRel.slice 1 0 n c ⟨B, off, cs.size - off, Try.prog.cellsOf t⟩ c (if_pos rfl) h2 (fun _ => rfl) (fun hx => absurd hx (by show ¬ unk ≤ c; have : unk = 18446744073709551616 := rfl; omega))
      refine (ev_ok sure2 (us := #[.slice (some ⟨B, off, none⟩) n c]) R (.cons _ _ _ _ hv .nil) hM).mono ?_
      rintro e w1 ⟨φ1, u1, rfl, v1, _, _, k1, _⟩
      exact ⟨by rw [three v1]; rfl, kept_below k1⟩
    · cases hr

theorem read_any {w : World} {p : Option Addr} {n c : Nat} {zs : List Int} (h : ARow w p n c zs) : Calls Try.prog 9 #[.slice p n c] w fun e w' => e = .returned (Tri (readL zs)) ∧ Below w.heap.size w w' :=
  read_run h (fun t fr cap => by have := both_all zs h.2.2.2.1 t fr cap; unfold bothB at this; exact (Bool.and_eq_true _ _ ▸ this).1) e1 e3 (fun hp => by subst hp; rcases h.2.2.2.2 with h | ⟨_, _, _, _, _, h, _⟩; exact h.2.1; cases h)
theorem ref_any {w : World} {p : Option Addr} {n c : Nat} {zs : List Int} (h : ARow w p n c zs) : Calls Try.prog 10 #[.slice p n c] w fun e w' => e = .returned (Tri (readL zs)) ∧ Below w.heap.size w w' :=
  read_run h (fun t fr cap => by have := both_all zs h.2.2.2.1 t fr cap; unfold bothB at this; exact (Bool.and_eq_true _ _ ▸ this).2) e2 e4 (fun hp => by subst hp; rcases h.2.2.2.2 with h | ⟨_, _, _, _, _, h, _⟩; exact h.2.1; cases h)
theorem run7 : isTrue (evA V2 100000 7 [] (M0 2)) = true := by kernel_rfl
theorem run5 : isTrue (evA V2 100000 5 [] (M0 2)) = true := by kernel_rfl
theorem awake_any (w : World) : Calls Try.prog 7 #[] w fun e w' => e = .returned (.bool true) ∧ Below w.heap.size w w' :=
  (closed sure2 (Nat.le_trans small2 (by decide : 1 ≤ 2)) (Nat.le_refl _) run7 w).mono fun e w' ⟨a, b⟩ => ⟨a, kept_below b⟩
theorem known_any (w : World) : Calls Try.prog 5 #[] w fun e w' => e = .returned (.bool true) ∧ Below w.heap.size w w' :=
  (closed sure2 (Nat.le_trans small2 (by decide : 1 ≤ 2)) (Nat.le_refl _) run5 w).mono fun e w' ⟨a, b⟩ => ⟨a, kept_below b⟩
end Go.Proofs.Ytcpffiihdnecjaa
