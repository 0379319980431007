/- rex.Lay, Bits, Rex: their contracts, for RexBack. -/
import Derived.Test.YtcpffiihdnecjaaRead
namespace Go.Proofs.Ytcpffiihdnecjaa
open Go Go.RowKit Ev
set_option linter.unusedVariables false
set_option linter.unusedSimpArgs false
set_option linter.unusedSectionVars false

/-- The bytes of prefixes. -/
def layL (pre n : Int) : List Int :=
  (bif pre % 2 == 1 then [102] else []) ++ ((bif pre / 2 == 1 then [242] else []) ++ ((bif pre / 4 == 1 then [243] else []) ++ (bif decide (0 ≤ n) then [64 + n] else [])))

def isInt (v : Option AV) (x : Option Int) : Bool := match v, x with
  | some (.int .u8 a), some b => a == b && decide (0 ≤ b) && decide (b ≤ 255)
  | _, _ => false
noncomputable def rowIs (r : Option Row) (l : List Int) : Bool := match r with
  | some r => r.ub && Nat.beq r.elem 5 && (List.range l.length).all fun j => isInt (r.cells.get j) l[j]?
  | none => false
noncomputable def bytesAre (x : AV) (M : Mem) (l : List Int) : Bool :=
  match x with
  | .snil => l.isEmpty
  | .slice b i len cap => Nat.beq i 0 && Nat.ble 1 len && Nat.beq len l.length && Nat.ble unk cap && rowIs (M.row b) l
  | _ => false

theorem bytesAre_spec {N : Nat} {φ : Emb} {M : Mem} {w : World} (R : Rep Try.prog 2 N φ M w) {x : AV} {u : Value} {l : List Int} (hx : VRel φ x u) (h : bytesAre x M l = true) :
    ∃ q c, u = .slice q l.length c ∧ ARow w q l.length c l := by
  unfold bytesAre at h
  split at h
  · cases hx
    obtain rfl : l = [] := by simpa using h
    exact ⟨none, 0, rfl, rfl, Nat.le_refl _, by decide, fun x hx => by simp at hx, .inl ⟨rfl, rfl, rfl⟩⟩
  · rename_i b i len cap
    simp only [Bool.and_eq_true] at h
    obtain ⟨⟨⟨⟨h1, h2⟩, h3⟩, h4⟩, h5⟩ := h
    have h1 := Nat.eq_of_beq_eq_true h1
    have h2 := Nat.le_of_ble_eq_true h2
    have h3 := Nat.eq_of_beq_eq_true h3
    have h4 := Nat.le_of_ble_eq_true h4
    subst h1
    cases hx with
    | sliceE => omega
    | slice _ _ _ _ lc cap' hl q0 q1 q2 =>
      subst h3
      obtain ⟨q3, q4⟩ := q2 h4
      unfold rowIs at h5
      split at h5
      · rename_i r hr
        simp only [Bool.and_eq_true] at h5
        obtain ⟨⟨g1, g4⟩, g5⟩ := h5
        have g4 := Nat.eq_of_beq_eq_true g4
        obtain ⟨⟨c, fz, hw, hs, hes, hwh, hlv⟩, hlive⟩ := R.rowAt hr hl
        obtain ⟨hsp, hlen, hfz, hcell⟩ := hlv hlive
        obtain ⟨s1, s2, s3⟩ := hsp g1
        have hesz : lc.esz = 1 := by rw [← hes, g4]; kernel_rfl
        rw [hesz] at q4
        have each : ∀ (j : Nat) (x : Int), l[j]? = some x → c[lc.off + j]? = some (.int .u8 x) ∧ 0 ≤ x ∧ x ≤ 255 := by
          intro j x hj
          have hj' := (List.getElem?_eq_some_iff.1 hj).1
          have := List.all_eq_true.1 g5 j (List.mem_range.2 hj')
          unfold isInt at this
          split at this
          · rename_i a b e1 e2
            simp only [Bool.and_eq_true, beq_iff_eq, decide_eq_true_eq] at this
            obtain ⟨⟨rfl, t1⟩, t2⟩ := this
            rw [hj] at e2
            cases e2
            obtain ⟨_, u, e3, e4⟩ := hcell _ _ e1
            cases e4
            exact ⟨e3, t1, t2⟩
          · cases this
        refine ⟨_, cap', rfl, rfl, q0, by omega, fun x hx => ?_, .inr ⟨lc.blk, lc.off, c, r.elem, fz, rfl, hw, by omega, fun j x hj => (each j x hj).1⟩⟩
        obtain ⟨j, hj, rfl⟩ := List.getElem_of_mem hx
        exact (each j _ (List.getElem?_eq_getElem hj)).2
      · cases h5
  · cases h

noncomputable def layB (pre n : Int) : Bool :=
  match evA V2 100000 12 [.int .i64 pre, .int .i64 n] (M0 2) with
  | some (.tuple [p, .int .i64 e], M1) => bytesAre p M1 (layL pre n) && e == 0
  | _ => false

theorem lay_run {pre n : Int} (h : layB pre n = true) (w : World) : Calls Try.prog 12 #[.int .i64 pre, .int .i64 n] w fun r w1 => ∃ q c, r = .returned (.tuple #[.slice q (layL pre n).length c, .int .i64 0]) ∧ ARow w1 q (layL pre n).length c (layL pre n) ∧ Below w.heap.size w w1 := by
  unfold layB at h
  split at h
  · rename_i p e M1 h1
    simp only [Bool.and_eq_true, beq_iff_eq] at h
    obtain ⟨h, rfl⟩ := h
    refine (ev_ok sure2 (us := #[.int .i64 pre, .int .i64 n]) (rep0 w (Nat.le_trans small2 (by decide : 1 ≤ 2)) (Nat.le_refl _)) (.cons _ _ _ _ (.int _ _) (.cons _ _ _ _ (.int _ _) .nil)) h1).mono ?_
    rintro r w1 ⟨φ1, u1, rfl, v1, R1, x1, k1, y1⟩
    cases v1 with
    | tuple _ us hus =>
      obtain ⟨l⟩ := us
      cases hus with
      | cons _ pu _ us' hp hus' =>
        cases hus' with
        | cons _ eu _ us'' he hn =>
          cases hn
          cases he
          obtain ⟨q, c, rfl, ha⟩ := bytesAre_spec R1 hp h
          exact ⟨q, c, rfl, ha, kept_below k1⟩
  · cases h

theorem lay_runs : ((List.range 6).all fun p => layB (.ofNat p) (.negSucc 0) && (List.range 16).all fun n => layB (.ofNat p) (.ofNat n)) = true := by kernel_rfl

theorem lay_all {pre n : Int} (h1 : 0 ≤ pre) (h2 : pre ≤ 5) (h3 : -1 ≤ n) (h4 : n ≤ 15) : layB pre n = true := by
  obtain ⟨p, rfl⟩ : ∃ p : Nat, pre = .ofNat p := ⟨pre.toNat, (Int.toNat_of_nonneg h1).symm⟩
  have hp : p < 6 := by have : (p : Int) ≤ 5 := h2; omega
  have := List.all_eq_true.1 lay_runs p (List.mem_range.2 hp)
  rw [Bool.and_eq_true] at this
  cases n with
  | negSucc m =>
    obtain rfl : m = 0 := by omega
    exact this.1
  | ofNat q =>
    have hq : q < 16 := by have : (q : Int) ≤ 15 := h4; omega
    exact List.all_eq_true.1 this.2 q (List.mem_range.2 hq)

theorem lay_ok {pre n : Int} (h1 : 0 ≤ pre) (h2 : pre ≤ 5) (h3 : -1 ≤ n) (h4 : n ≤ 15) (w : World) : Calls Try.prog 12 #[.int .i64 pre, .int .i64 n] w fun r w1 => ∃ q c, r = .returned (.tuple #[.slice q (layL pre n).length c, .int .i64 0]) ∧ ARow w1 q (layL pre n).length c (layL pre n) ∧ Below w.heap.size w w1 :=
  lay_run (lay_all h1 h2 h3 h4) w

noncomputable def badB (pre n : Int) : Bool :=
  match evA V2 100000 12 [.int .i64 pre, .int .i64 n] (M0 2) with
  | some (.tuple [p, .int .i64 e], M1) => !eqI e 0
  | _ => false

theorem bad_neg : ∀ (m : Nat) (n : Int), badB (.negSucc m) n = true := fun m n => by kernel_rfl
theorem bad_six : ∀ n : Int, badB 6 n = true := fun n => by kernel_rfl
theorem bad_seven : ∀ n : Int, badB 7 n = true := fun n => by kernel_rfl
theorem bad_big : ∀ (m : Nat) (n : Int), badB (.ofNat (m + 8)) n = true := fun m n => by kernel_rfl
theorem bad_low : ∀ m : Nat, ((List.range 6).all fun p => badB (.ofNat p) (.negSucc (m + 1))) = true := fun m => by kernel_rfl
theorem bad_high : ∀ m : Nat, ((List.range 6).all fun p => badB (.ofNat p) (.ofNat (m + 16))) = true := fun m => by kernel_rfl

theorem bad_all {pre n : Int} (h : ¬ (0 ≤ pre ∧ pre ≤ 5 ∧ -1 ≤ n ∧ n ≤ 15)) : badB pre n = true := by
  cases pre with
  | negSucc m => exact bad_neg m n
  | ofNat p =>
    rcases Nat.lt_or_ge p 6 with hp | hp
    · have hpi : (0 : Int) ≤ .ofNat p ∧ (.ofNat p : Int) ≤ 5 := ⟨Int.natCast_nonneg _, by show (p : Int) ≤ 5; omega⟩
      cases n with
      | negSucc m =>
        cases m with
        | zero => exact absurd ⟨hpi.1, hpi.2, by decide, by decide⟩ h
        | succ m => exact List.all_eq_true.1 (bad_low m) p (List.mem_range.2 hp)
      | ofNat q =>
        rcases Nat.lt_or_ge q 16 with hq | hq
        · exact absurd ⟨hpi.1, hpi.2, by have : (0 : Int) ≤ .ofNat q := Int.natCast_nonneg _; omega, by show (q : Int) ≤ 15; omega⟩ h
        · obtain ⟨m, rfl⟩ : ∃ m, q = m + 16 := ⟨q - 16, by omega⟩
          exact List.all_eq_true.1 (bad_high m) p (List.mem_range.2 hp)
    · rcases Nat.lt_or_ge p 8 with h8 | h8
      · rcases (by omega : p = 6 ∨ p = 7) with rfl | rfl
        · exact bad_six n
        · exact bad_seven n
      · obtain ⟨m, rfl⟩ : ∃ m, p = m + 8 := ⟨p - 8, by omega⟩
        exact bad_big m n

theorem lay_bad {pre n : Int} (h : ¬ (0 ≤ pre ∧ pre ≤ 5 ∧ -1 ≤ n ∧ n ≤ 15)) : ∃ e : Int, e ≠ 0 ∧ ∀ w, Calls Try.prog 12 #[.int .i64 pre, .int .i64 n] w fun r w1 => ∃ p, r = .returned (.tuple #[p, .int .i64 e]) ∧ Below w.heap.size w w1 := by
  have h := bad_all h
  unfold badB at h
  split at h
  · rename_i p e M1 h1
    refine ⟨e, by rw [eqI_eq] at h; simpa using h, fun w => (ev_ok sure2 (us := #[.int .i64 pre, .int .i64 n]) (rep0 w (Nat.le_trans small2 (by decide : 1 ≤ 2)) (Nat.le_refl _)) (.cons _ _ _ _ (.int _ _) (.cons _ _ _ _ (.int _ _) .nil)) h1).mono ?_⟩
    rintro r w1 ⟨φ1, u1, rfl, v1, R1, x1, k1, y1⟩
    cases v1 with
    | tuple _ us hus =>
      obtain ⟨l⟩ := us
      cases hus with
      | cons _ pu _ us' hp hus' =>
        cases hus' with
        | cons _ eu _ us'' he hn =>
          cases hn
          cases he
          exact ⟨pu, rfl, kept_below k1⟩
  · cases h

noncomputable def bitsX (n : Int) : Bool :=
  match evA V2 100000 16 [.int .i64 n] (M0 2) with
  | some (.tuple [.int .i64 a, .int .i64 b, .int .i64 c, .int .i64 d], _) => true
  | _ => false
noncomputable def bitsB (n : Int) : Bool :=
  match evA V2 100000 16 [.int .i64 n] (M0 2) with
  | some (.tuple [.int .i64 a, .int .i64 b, .int .i64 c, .int .i64 d], _) => (match evA V2 100000 18 [.int .i64 a, .int .i64 b, .int .i64 c, .int .i64 d] (M0 2) with
    | some (.int .i64 m, _) => m == n
    | _ => false)
  | _ => false

theorem four {φ : Emb} {a b c d : Int} {u : Value} (h : VRel φ (.tuple [.int .i64 a, .int .i64 b, .int .i64 c, .int .i64 d]) u) : u = .tuple #[.int .i64 a, .int .i64 b, .int .i64 c, .int .i64 d] := by
  cases h with
  | tuple _ us hus =>
    obtain ⟨l⟩ := us
    cases hus with
    | cons _ _ _ _ h1 hus => cases hus with
      | cons _ _ _ _ h2 hus => cases hus with
        | cons _ _ _ _ h3 hus => cases hus with
          | cons _ _ _ _ h4 hus =>
            cases hus; cases h1; cases h2; cases h3; cases h4; rfl

theorem bits_neg : ∀ m : Nat, bitsX (.negSucc m) = true := fun m => by kernel_rfl
theorem bits_high : ∀ m : Nat, bitsX (.ofNat (m + 16)) = true := fun m => by kernel_rfl
theorem bits_mid : ((List.range 16).all fun n => bitsB (.ofNat n)) = true := by kernel_rfl

theorem bits_out {n : Int} (h : n < 0 ∨ 15 < n) : ∃ a b c d : Int, ∀ w, Calls Try.prog 16 #[.int .i64 n] w fun r w1 => r = .returned (.tuple #[.int .i64 a, .int .i64 b, .int .i64 c, .int .i64 d]) ∧ Below w.heap.size w w1 := by
  have h : bitsX n = true := by
    cases n with
    | negSucc m => exact bits_neg m
    | ofNat q =>
      have : 15 < q := by rcases h with h | h; exact absurd h (by have : (0 : Int) ≤ .ofNat q := Int.natCast_nonneg _; omega); have : (15 : Int) < (q : Int) := h; omega
      obtain ⟨m, rfl⟩ : ∃ m, q = m + 16 := ⟨q - 16, by omega⟩
      exact bits_high m
  unfold bitsX at h
  split at h
  · rename_i a b c d M1 h1
    refine ⟨a, b, c, d, fun w => (ev_ok sure2 (us := #[.int .i64 n]) (rep0 w (Nat.le_trans small2 (by decide : 1 ≤ 2)) (Nat.le_refl _)) (.cons _ _ _ _ (.int _ _) .nil) h1).mono ?_⟩
    rintro r w1 ⟨φ1, u1, rfl, v1, _, _, k1, _⟩
    exact ⟨by rw [four v1], kept_below k1⟩
  · cases h

theorem bits_in {n : Int} (h0 : 0 ≤ n) (h1 : n ≤ 15) : ∃ a b c d : Int, (∀ w, Calls Try.prog 16 #[.int .i64 n] w fun r w1 => r = .returned (.tuple #[.int .i64 a, .int .i64 b, .int .i64 c, .int .i64 d]) ∧ Below w.heap.size w w1) ∧
    (∀ w, Calls Try.prog 18 #[.int .i64 a, .int .i64 b, .int .i64 c, .int .i64 d] w fun r w1 => r = .returned (.int .i64 n) ∧ Below w.heap.size w w1) := by
  obtain ⟨q, rfl⟩ : ∃ q : Nat, n = .ofNat q := ⟨n.toNat, (Int.toNat_of_nonneg h0).symm⟩
  have hq : q < 16 := by have : (q : Int) ≤ 15 := h1; omega
  have h := List.all_eq_true.1 bits_mid q (List.mem_range.2 hq)
  unfold bitsB at h
  split at h
  · rename_i a b c d M1 h1
    split at h
    · rename_i m M2 h2
      simp only [beq_iff_eq] at h
      subst h
      refine ⟨a, b, c, d, fun w => ?_, fun w => ?_⟩
      · refine (ev_ok sure2 (us := #[.int .i64 (.ofNat q)]) (rep0 w (Nat.le_trans small2 (by decide : 1 ≤ 2)) (Nat.le_refl _)) (.cons _ _ _ _ (.int _ _) .nil) h1).mono ?_
        rintro r w1 ⟨φ1, u1, rfl, v1, _, _, k1, _⟩
        exact ⟨by rw [four v1], kept_below k1⟩
      · refine (ev_ok sure2 (us := #[.int .i64 a, .int .i64 b, .int .i64 c, .int .i64 d]) (rep0 w (Nat.le_trans small2 (by decide : 1 ≤ 2)) (Nat.le_refl _)) (.cons _ _ _ _ (.int _ _) (.cons _ _ _ _ (.int _ _) (.cons _ _ _ _ (.int _ _) (.cons _ _ _ _ (.int _ _) .nil)))) h2).mono ?_
        rintro r w1 ⟨φ1, u1, rfl, v1, _, _, k1, _⟩
        cases v1
        exact ⟨rfl, kept_below k1⟩
    · cases h
  · cases h
end Go.Proofs.Ytcpffiihdnecjaa
