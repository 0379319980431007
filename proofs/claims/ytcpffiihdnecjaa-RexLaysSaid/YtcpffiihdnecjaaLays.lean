/- RexLays returns true at whatever integers and leaves the world as it was: its callees by the evaluator, each at every case; its own text walked. No condition. -/
import Derived.Test.YtcpffiihdnecjaaRows
import Derived.Test.YtcpffiihdnecjaaEv33
import Derived.Test.YtcpffiihdnecjaaOver
import Derived.WalkKit
import Derived.ProofKit
import Derived.OpenShut
namespace Go.Proofs.Ytcpffiihdnecjaa.rexLays
open Go Go.ChangeShapes Go.WideShapes Go.ChangeAt Go.RowKit Ev
set_option linter.unusedVariables false
set_option linter.unusedSimpArgs false
set_option linter.unusedSectionVars false

theorem own : ownKnob Try.prog.godebug = none := by kernel_rfl

theorem kept_mono {N N' : Nat} {w w' : World} (h : Kept N w w') (hn : N' ≤ N) : Kept N' w w' := ⟨h.os, h.tape, h.output, h.size, fun k hk => h.block k (Nat.lt_of_lt_of_le hk hn)⟩

noncomputable def V0 : Env := { P := Try.prog, E := tabOf Try.prog, G := 1, ext := .nil, sum := .nil }
theorem sure : Sure V0 := sure0 rfl rfl rfl (by kernel_rfl)
theorem small : V0.P.globals.size ≤ V0.G := of_decide_eq_true (by kernel_rfl)
theorem run7 : isTrue (evA V0 100000 7 [] (M0 1)) = true := by kernel_rfl
theorem awake (w : World) : Calls Try.prog 7 #[] w fun e w' => e = .returned (.bool true) ∧ Kept w.heap.size w w' := closed sure small (Nat.le_refl _) run7 w

/-- Is it a slice of bytes of the call's own, its room known? -/
def isByte (v : Option AV) : Bool := match v with
  | some (.int .u8 _) => true
  | _ => false
noncomputable def okRow (r : Row) : Bool := r.ub && Nat.beq r.fr 0 && !r.sh && Nat.beq r.elem 5 && (List.range r.len).all fun j => isByte (r.cells.get j)
noncomputable def okRowO (r : Option Row) : Bool := match r with
  | some r => okRow r
  | none => false
noncomputable def okBytes (x : AV) (M : Mem) : Bool :=
  match x with
  | .snil => true
  | .slice b i len cap => Nat.beq i 0 && Nat.ble 1 len && Nat.ble 1 b && Nat.ble unk cap && okRowO (M.row b)
  | _ => false

theorem okBytes_spec {N : Nat} {φ : Emb} {M : Mem} {w : World} (R : Rep Try.prog 1 N φ M w) {x : AV} {u : Value} (hx : VRel φ x u) (h : okBytes x M = true) :
    u = .slice none 0 0 ∨ ∃ B off n cap, u = .slice (some ⟨B, off, none⟩) n cap ∧ N ≤ B ∧ n ≤ cap ∧ cap ≤ 9223372036854775807 ∧ ByteRow w B off cap := by
  unfold okBytes at h
  split at h
  · cases hx; exact .inl rfl
  · rename_i b i len cap
    simp only [Bool.and_eq_true] at h
    obtain ⟨⟨⟨⟨h1, h2⟩, h3⟩, h4⟩, h5⟩ := h
    have h1 := Nat.eq_of_beq_eq_true h1
    have h2 := Nat.le_of_ble_eq_true h2
    have h3 := Nat.le_of_ble_eq_true h3
    have h4 := Nat.le_of_ble_eq_true h4
    subst h1
    cases hx with
    | sliceE => omega
    | slice _ _ _ _ l cap' hl q0 q1 q2 =>
      obtain ⟨q3, q4⟩ := q2 h4
      unfold okRowO at h5
      split at h5
      · rename_i r hr
        unfold okRow at h5
        simp only [Bool.and_eq_true, Bool.not_eq_true'] at h5
        obtain ⟨⟨⟨⟨g1, g2⟩, g3⟩, g4⟩, g5⟩ := h5
        have g2 := Nat.eq_of_beq_eq_true g2
        have g4 := Nat.eq_of_beq_eq_true g4
        obtain ⟨⟨c, fz, hw, hs, hes, hwh, hlv⟩, hlive⟩ := R.rowAt hr hl
        obtain ⟨hsp, hlen, hfz, hcell⟩ := hlv hlive
        obtain ⟨s1, s2, s3⟩ := hsp g1
        have hesz : l.esz = 1 := by rw [← hes, g4]; kernel_rfl
        rw [hesz] at q4
        refine .inr ⟨l.blk, l.off, len, cap', rfl, (R.dom b l hl).2.2 h3, q0, by omega, fun j hj => ⟨?_, ?_⟩⟩
        · simp only [World.cell?, hw]
          rcases Nat.lt_or_ge j r.len with hj' | hj'
          · have := List.all_eq_true.1 g5 j (List.mem_range.2 hj')
            unfold isByte at this
            split at this
            · rename_i m hm
              obtain ⟨_, u, e1, e2⟩ := hcell _ _ hm
              cases e2
              exact ⟨m, by simpa using e1⟩
            · cases this
          · exact ⟨0, by simpa using s3 j hj' (by omega)⟩
        · simp only [World.frozen?, hw]
          rcases hfz with f | f | f
          · rw [f]; simp <;> omega
          · rw [g2] at f; simp <;> omega
          · rw [g3] at f; exact absurd f.1 (by simp)
      · cases h5
  · cases h

/-- The two answers, their bytes alike, the first one's written over. -/
noncomputable def chainB (pre n : Int) : Bool :=
  match evA V0 100000 12 [.int .i64 pre, .int .i64 n] (M0 1) with
  | some (.tuple [p, .int .i64 e], M1) => (match evA V0 100000 13 [.int .i64 pre, .int .i64 n] M1 with
    | some (.tuple [q, .int .i64 e'], M2) => bif eqI e e' then (match evA V0 100000 14 [p, q] M2 with
      | some (.bool true, M3) => okBytes p M3
      | _ => false) else false
    | _ => false)
  | _ => false

theorem chain_ok {pre n : Int} (h : chainB pre n = true) : ∃ e : Int, ∀ w, Calls Try.prog 12 #[.int .i64 pre, .int .i64 n] w fun r w1 => ∃ p, r = .returned (.tuple #[p, .int .i64 e]) ∧ Kept w.heap.size w w1 ∧
    Calls Try.prog 13 #[.int .i64 pre, .int .i64 n] w1 fun r w2 => ∃ q, r = .returned (.tuple #[q, .int .i64 e]) ∧ Kept w.heap.size w w2 ∧
    Calls Try.prog 14 #[p, q] w2 fun r w3 => r = .returned (.bool true) ∧ Kept w.heap.size w w3 ∧
    Calls Try.prog 15 #[p] w3 fun r w4 => r = .returned (.tuple #[]) ∧ Kept w.heap.size w w4 := by
  unfold chainB at h
  split at h
  · rename_i p e M1 h1
    split at h
    · rename_i q e' M2 h2
      cases he : eqI e e'
      · rw [he] at h; cases h
      · rw [he, cond_true] at h
        rw [eqI_eq] at he
        have he : e = e' := by simpa using he
        subst he
        split at h
        · rename_i M3 h3
          refine ⟨e, fun w => (ev_ok sure (us := #[.int .i64 pre, .int .i64 n]) (rep0 w small (Nat.le_refl _)) (.cons _ _ _ _ (.int _ _) (.cons _ _ _ _ (.int _ _) .nil)) h1).mono ?_⟩
          rintro r w1 ⟨φ1, u1, rfl, v1, R1, x1, k1, y1⟩
          cases v1 with
          | tuple _ us hus =>
            obtain ⟨l⟩ := us
            cases hus with
            | cons _ pu _ us' hp hus' =>
              cases hus' with
              | cons _ eu _ us'' he hn =>
                cases hn
                cases he
                refine ⟨pu, rfl, k1, (ev_ok sure (us := #[.int .i64 pre, .int .i64 n]) R1 (.cons _ _ _ _ (.int _ _) (.cons _ _ _ _ (.int _ _) .nil)) h2).mono ?_⟩
                rintro r w2 ⟨φ2, u2, rfl, v2, R2, x2, k2, y2⟩
                cases v2 with
                | tuple _ us hus =>
                  obtain ⟨l⟩ := us
                  cases hus with
                  | cons _ qu _ us' hq hus' =>
                    cases hus' with
                    | cons _ eu _ us'' he hn =>
                      cases hn
                      cases he
                      refine ⟨qu, rfl, k1.trans k2, (ev_ok sure (us := #[pu, qu]) R2 (.cons _ _ _ _ (hp.mono x2.1) (.cons _ _ _ _ hq .nil)) h3).mono ?_⟩
                      rintro r w3 ⟨φ3, u3, rfl, v3, R3, x3, k3, y3⟩
                      cases v3
                      refine ⟨rfl, (k1.trans k2).trans k3, ?_⟩
                      have bk : ∀ w4, Go.RowKit.Below w.heap.size w3 w4 → Kept w.heap.size w w4 := fun w4 b => ((k1.trans k2).trans k3).trans ⟨b.os, b.tape, b.output, b.size, b.block⟩
                      rcases okBytes_spec R3 ((hp.mono x2.1).mono x3.1) h with rfl | ⟨B, off, m, cap, rfl, b1, b2, b3, b4⟩
                      · exact (over_nil w.heap.size w3).mono fun e w4 ⟨a, b⟩ => ⟨a, bk w4 b⟩
                      · exact (over_any w.heap.size B off m cap w3 b1 b2 b3 b4).mono fun e w4 ⟨a, b⟩ => ⟨a, bk w4 b⟩
        · cases h
    · cases h
  · cases h

noncomputable def bitsB (n : Int) : Bool :=
  match evA V0 100000 16 [.int .i64 n] (M0 1) with
  | some (.tuple [.int .i64 a, .int .i64 b, .int .i64 c, .int .i64 d], _) => (match evA V0 100000 17 [.int .i64 n] (M0 1) with
    | some (.tuple [.int .i64 a', .int .i64 b', .int .i64 c', .int .i64 d'], _) => eqI a a' && eqI b b' && eqI c c' && eqI d d'
    | _ => false)
  | _ => false

theorem four {φ : Emb} {a b c d : Int} {u : Value} (h : VRel φ (.tuple [.int .i64 a, .int .i64 b, .int .i64 c, .int .i64 d]) u) : u = .tuple #[.int .i64 a, .int .i64 b, .int .i64 c, .int .i64 d] := by
  cases h with
  | tuple _ us hus =>
    obtain ⟨l⟩ := us
    cases hus with
    | cons _ _ _ _ h1 hus => cases hus with
      | cons _ _ _ _ h2 hus => cases hus with
        | cons _ _ _ _ h3 hus => cases hus with
          | cons _ _ _ _ h4 hus =>
            cases hus; cases h1; cases h2; cases h3; cases h4; rfl

theorem bits_ok {n : Int} (h : bitsB n = true) : ∃ a b c d : Int, (∀ w, Calls Try.prog 16 #[.int .i64 n] w fun r w1 => r = .returned (.tuple #[.int .i64 a, .int .i64 b, .int .i64 c, .int .i64 d]) ∧ Kept w.heap.size w w1) ∧
    (∀ w, Calls Try.prog 17 #[.int .i64 n] w fun r w1 => r = .returned (.tuple #[.int .i64 a, .int .i64 b, .int .i64 c, .int .i64 d]) ∧ Kept w.heap.size w w1) := by
  unfold bitsB at h
  split at h
  · rename_i a b c d M1 h1
    split at h
    · rename_i a' b' c' d' M2 h2
      simp only [Bool.and_eq_true, eqI_eq, beq_iff_eq] at h
      obtain ⟨⟨⟨rfl, rfl⟩, rfl⟩, rfl⟩ := h
      refine ⟨a, b, c, d, fun w => ?_, fun w => ?_⟩
      · refine (ev_ok sure (us := #[.int .i64 n]) (rep0 w small (Nat.le_refl _)) (.cons _ _ _ _ (.int _ _) .nil) h1).mono ?_
        rintro r w1 ⟨φ1, u1, rfl, v1, _, _, k1, _⟩
        exact ⟨by rw [four v1], k1⟩
      · refine (ev_ok sure (us := #[.int .i64 n]) (rep0 w small (Nat.le_refl _)) (.cons _ _ _ _ (.int _ _) .nil) h2).mono ?_
        rintro r w1 ⟨φ1, u1, rfl, v1, _, _, k1, _⟩
        exact ⟨by rw [four v1], k1⟩
    · cases h
  · cases h

noncomputable def rexB (w r x b : Int) : Bool :=
  match evA V0 100000 18 [.int .i64 w, .int .i64 r, .int .i64 x, .int .i64 b] (M0 1) with
  | some (.int .i64 a, _) => (match evA V0 100000 19 [.int .i64 w, .int .i64 r, .int .i64 x, .int .i64 b] (M0 1) with
    | some (.int .i64 a', _) => eqI a a'
    | _ => false)
  | _ => false

theorem rex_ok {x1 x2 x3 x4 : Int} (h : rexB x1 x2 x3 x4 = true) : ∃ a : Int, (∀ w, Calls Try.prog 18 #[.int .i64 x1, .int .i64 x2, .int .i64 x3, .int .i64 x4] w fun r w1 => r = .returned (.int .i64 a) ∧ Kept w.heap.size w w1) ∧
    (∀ w, Calls Try.prog 19 #[.int .i64 x1, .int .i64 x2, .int .i64 x3, .int .i64 x4] w fun r w1 => r = .returned (.int .i64 a) ∧ Kept w.heap.size w w1) := by
  unfold rexB at h
  split at h
  · rename_i a M1 h1
    split at h
    · rename_i a' M2 h2
      rw [eqI_eq, beq_iff_eq] at h
      subst h
      refine ⟨a, fun w => ?_, fun w => ?_⟩
      · refine (ev_ok sure (us := #[.int .i64 x1, .int .i64 x2, .int .i64 x3, .int .i64 x4]) (rep0 w small (Nat.le_refl _)) (.cons _ _ _ _ (.int _ _) (.cons _ _ _ _ (.int _ _) (.cons _ _ _ _ (.int _ _) (.cons _ _ _ _ (.int _ _) .nil)))) h1).mono ?_
        rintro r w1 ⟨φ1, u1, rfl, v1, _, _, k1, _⟩
        cases v1
        exact ⟨rfl, k1⟩
      · refine (ev_ok sure (us := #[.int .i64 x1, .int .i64 x2, .int .i64 x3, .int .i64 x4]) (rep0 w small (Nat.le_refl _)) (.cons _ _ _ _ (.int _ _) (.cons _ _ _ _ (.int _ _) (.cons _ _ _ _ (.int _ _) (.cons _ _ _ _ (.int _ _) .nil)))) h2).mono ?_
        rintro r w1 ⟨φ1, u1, rfl, v1, _, _, k1, _⟩
        cases v1
        exact ⟨rfl, k1⟩
    · cases h
  · cases h

-- every case

theorem c_neg : ∀ (m : Nat) (n : Int), chainB (.negSucc m) n = true := fun m n => by kernel_rfl
theorem c_six : ∀ n : Int, chainB 6 n = true := fun n => by kernel_rfl
theorem c_seven : ∀ n : Int, chainB 7 n = true := fun n => by kernel_rfl
theorem c_big : ∀ (m : Nat) (n : Int), chainB (.ofNat (m + 8)) n = true := fun m n => by kernel_rfl
theorem c_low0 : ∀ m : Nat, chainB 0 (.negSucc (m + 1)) = true := fun m => by kernel_rfl
theorem c_low1 : ∀ m : Nat, chainB 1 (.negSucc (m + 1)) = true := fun m => by kernel_rfl
theorem c_low2 : ∀ m : Nat, chainB 2 (.negSucc (m + 1)) = true := fun m => by kernel_rfl
theorem c_low3 : ∀ m : Nat, chainB 3 (.negSucc (m + 1)) = true := fun m => by kernel_rfl
theorem c_low4 : ∀ m : Nat, chainB 4 (.negSucc (m + 1)) = true := fun m => by kernel_rfl
theorem c_low5 : ∀ m : Nat, chainB 5 (.negSucc (m + 1)) = true := fun m => by kernel_rfl
theorem c_low (p : Nat) (hp : p < 6) (m : Nat) : chainB (.ofNat p) (.negSucc (m + 1)) = true := by
  rcases (by omega : p = 0 ∨ p = 1 ∨ p = 2 ∨ p = 3 ∨ p = 4 ∨ p = 5) with rfl | rfl | rfl | rfl | rfl | rfl
  · exact c_low0 m
  · exact c_low1 m
  · exact c_low2 m
  · exact c_low3 m
  · exact c_low4 m
  · exact c_low5 m
theorem c_high0 : ∀ m : Nat, chainB 0 (.ofNat (m + 16)) = true := fun m => by kernel_rfl
theorem c_high1 : ∀ m : Nat, chainB 1 (.ofNat (m + 16)) = true := fun m => by kernel_rfl
theorem c_high2 : ∀ m : Nat, chainB 2 (.ofNat (m + 16)) = true := fun m => by kernel_rfl
theorem c_high3 : ∀ m : Nat, chainB 3 (.ofNat (m + 16)) = true := fun m => by kernel_rfl
theorem c_high4 : ∀ m : Nat, chainB 4 (.ofNat (m + 16)) = true := fun m => by kernel_rfl
theorem c_high5 : ∀ m : Nat, chainB 5 (.ofNat (m + 16)) = true := fun m => by kernel_rfl
theorem c_high (p : Nat) (hp : p < 6) (m : Nat) : chainB (.ofNat p) (.ofNat (m + 16)) = true := by
  rcases (by omega : p = 0 ∨ p = 1 ∨ p = 2 ∨ p = 3 ∨ p = 4 ∨ p = 5) with rfl | rfl | rfl | rfl | rfl | rfl
  · exact c_high0 m
  · exact c_high1 m
  · exact c_high2 m
  · exact c_high3 m
  · exact c_high4 m
  · exact c_high5 m
theorem c_none : ((List.range 6).all fun p => chainB (.ofNat p) (.negSucc 0)) = true := by kernel_rfl
theorem c_mid : ((List.range 6).all fun p => (List.range 16).all fun n => chainB (.ofNat p) (.ofNat n)) = true := by kernel_rfl

theorem chain_all (pre n : Int) : chainB pre n = true := by
  cases pre with
  | negSucc m => exact c_neg m n
  | ofNat p =>
    rcases Nat.lt_or_ge p 6 with hp | hp
    · cases n with
      | negSucc m =>
        cases m with
        | zero => exact List.all_eq_true.1 c_none p (List.mem_range.2 hp)
        | succ m => exact c_low p hp m
      | ofNat q =>
        rcases Nat.lt_or_ge q 16 with hq | hq
        · exact List.all_eq_true.1 (List.all_eq_true.1 c_mid p (List.mem_range.2 hp)) q (List.mem_range.2 hq)
        · obtain ⟨m, rfl⟩ : ∃ m, q = m + 16 := ⟨q - 16, by omega⟩
          exact c_high p hp m
    · rcases Nat.lt_or_ge p 8 with h8 | h8
      · rcases (by omega : p = 6 ∨ p = 7) with rfl | rfl
        · exact c_six n
        · exact c_seven n
      · obtain ⟨m, rfl⟩ : ∃ m, p = m + 8 := ⟨p - 8, by omega⟩
        exact c_big m n

theorem b_neg : ∀ m : Nat, bitsB (.negSucc m) = true := fun m => by kernel_rfl
theorem b_high : ∀ m : Nat, bitsB (.ofNat (m + 16)) = true := fun m => by kernel_rfl
theorem b_mid : ((List.range 16).all fun n => bitsB (.ofNat n)) = true := by kernel_rfl
theorem bits_all (n : Int) : bitsB n = true := by
  cases n with
  | negSucc m => exact b_neg m
  | ofNat q =>
    rcases Nat.lt_or_ge q 16 with hq | hq
    · exact List.all_eq_true.1 b_mid q (List.mem_range.2 hq)
    · obtain ⟨m, rfl⟩ : ∃ m, q = m + 16 := ⟨q - 16, by omega⟩
      exact b_high m

/-- A number: below 0; 0; 1; above. -/
theorem parts {C : Int → Prop} (h1 : ∀ m : Nat, C (.negSucc m)) (h2 : C 0) (h3 : C 1) (h4 : ∀ m : Nat, C (.ofNat (m + 2))) (x : Int) : C x := by
  cases x with
  | negSucc m => exact h1 m
  | ofNat q =>
    match q with
    | 0 => exact h2
    | 1 => exact h3
    | m + 2 => exact h4 m

theorem r_n : ∀ (m : Nat) (x2 x3 x4 : Int), rexB (.negSucc m) x2 x3 x4 = true := fun m x2 x3 x4 => by kernel_rfl
theorem r_b : ∀ (m : Nat) (x2 x3 x4 : Int), rexB (.ofNat (m + 2)) x2 x3 x4 = true := fun m x2 x3 x4 => by kernel_rfl
theorem r_0n : ∀ (m : Nat) (x3 x4 : Int), rexB 0 (.negSucc m) x3 x4 = true := fun m x3 x4 => by kernel_rfl
theorem r_0b : ∀ (m : Nat) (x3 x4 : Int), rexB 0 (.ofNat (m + 2)) x3 x4 = true := fun m x3 x4 => by kernel_rfl
theorem r_00n : ∀ (m : Nat) (x4 : Int), rexB 0 0 (.negSucc m) x4 = true := fun m x4 => by kernel_rfl
theorem r_00b : ∀ (m : Nat) (x4 : Int), rexB 0 0 (.ofNat (m + 2)) x4 = true := fun m x4 => by kernel_rfl
theorem r_000n : ∀ (m : Nat), rexB 0 0 0 (.negSucc m) = true := fun m => by kernel_rfl
theorem r_000b : ∀ (m : Nat), rexB 0 0 0 (.ofNat (m + 2)) = true := fun m => by kernel_rfl
theorem r_0000 : rexB 0 0 0 0 = true := by kernel_rfl
theorem r_0001 : rexB 0 0 0 1 = true := by kernel_rfl
theorem r_001n : ∀ (m : Nat), rexB 0 0 1 (.negSucc m) = true := fun m => by kernel_rfl
theorem r_001b : ∀ (m : Nat), rexB 0 0 1 (.ofNat (m + 2)) = true := fun m => by kernel_rfl
theorem r_0010 : rexB 0 0 1 0 = true := by kernel_rfl
theorem r_0011 : rexB 0 0 1 1 = true := by kernel_rfl
theorem r_01n : ∀ (m : Nat) (x4 : Int), rexB 0 1 (.negSucc m) x4 = true := fun m x4 => by kernel_rfl
theorem r_01b : ∀ (m : Nat) (x4 : Int), rexB 0 1 (.ofNat (m + 2)) x4 = true := fun m x4 => by kernel_rfl
theorem r_010n : ∀ (m : Nat), rexB 0 1 0 (.negSucc m) = true := fun m => by kernel_rfl
theorem r_010b : ∀ (m : Nat), rexB 0 1 0 (.ofNat (m + 2)) = true := fun m => by kernel_rfl
theorem r_0100 : rexB 0 1 0 0 = true := by kernel_rfl
theorem r_0101 : rexB 0 1 0 1 = true := by kernel_rfl
theorem r_011n : ∀ (m : Nat), rexB 0 1 1 (.negSucc m) = true := fun m => by kernel_rfl
theorem r_011b : ∀ (m : Nat), rexB 0 1 1 (.ofNat (m + 2)) = true := fun m => by kernel_rfl
theorem r_0110 : rexB 0 1 1 0 = true := by kernel_rfl
theorem r_0111 : rexB 0 1 1 1 = true := by kernel_rfl
theorem r_1n : ∀ (m : Nat) (x3 x4 : Int), rexB 1 (.negSucc m) x3 x4 = true := fun m x3 x4 => by kernel_rfl
theorem r_1b : ∀ (m : Nat) (x3 x4 : Int), rexB 1 (.ofNat (m + 2)) x3 x4 = true := fun m x3 x4 => by kernel_rfl
theorem r_10n : ∀ (m : Nat) (x4 : Int), rexB 1 0 (.negSucc m) x4 = true := fun m x4 => by kernel_rfl
theorem r_10b : ∀ (m : Nat) (x4 : Int), rexB 1 0 (.ofNat (m + 2)) x4 = true := fun m x4 => by kernel_rfl
theorem r_100n : ∀ (m : Nat), rexB 1 0 0 (.negSucc m) = true := fun m => by kernel_rfl
theorem r_100b : ∀ (m : Nat), rexB 1 0 0 (.ofNat (m + 2)) = true := fun m => by kernel_rfl
theorem r_1000 : rexB 1 0 0 0 = true := by kernel_rfl
theorem r_1001 : rexB 1 0 0 1 = true := by kernel_rfl
theorem r_101n : ∀ (m : Nat), rexB 1 0 1 (.negSucc m) = true := fun m => by kernel_rfl
theorem r_101b : ∀ (m : Nat), rexB 1 0 1 (.ofNat (m + 2)) = true := fun m => by kernel_rfl
theorem r_1010 : rexB 1 0 1 0 = true := by kernel_rfl
theorem r_1011 : rexB 1 0 1 1 = true := by kernel_rfl
theorem r_11n : ∀ (m : Nat) (x4 : Int), rexB 1 1 (.negSucc m) x4 = true := fun m x4 => by kernel_rfl
theorem r_11b : ∀ (m : Nat) (x4 : Int), rexB 1 1 (.ofNat (m + 2)) x4 = true := fun m x4 => by kernel_rfl
theorem r_110n : ∀ (m : Nat), rexB 1 1 0 (.negSucc m) = true := fun m => by kernel_rfl
theorem r_110b : ∀ (m : Nat), rexB 1 1 0 (.ofNat (m + 2)) = true := fun m => by kernel_rfl
theorem r_1100 : rexB 1 1 0 0 = true := by kernel_rfl
theorem r_1101 : rexB 1 1 0 1 = true := by kernel_rfl
theorem r_111n : ∀ (m : Nat), rexB 1 1 1 (.negSucc m) = true := fun m => by kernel_rfl
theorem r_111b : ∀ (m : Nat), rexB 1 1 1 (.ofNat (m + 2)) = true := fun m => by kernel_rfl
theorem r_1110 : rexB 1 1 1 0 = true := by kernel_rfl
theorem r_1111 : rexB 1 1 1 1 = true := by kernel_rfl

theorem rex_all (x1 x2 x3 x4 : Int) : rexB x1 x2 x3 x4 = true := by
  refine parts (C := fun y => rexB y x2 x3 x4 = true) (fun m => r_n m x2 x3 x4) ?_ ?_ (fun m => r_b m x2 x3 x4) x1
  · refine parts (C := fun y => rexB 0 y x3 x4 = true) (fun m => r_0n m x3 x4) ?_ ?_ (fun m => r_0b m x3 x4) x2
    · refine parts (C := fun y => rexB 0 0 y x4 = true) (fun m => r_00n m x4) ?_ ?_ (fun m => r_00b m x4) x3
      · refine parts (C := fun y => rexB 0 0 0 y = true) (fun m => r_000n m) ?_ ?_ (fun m => r_000b m) x4
        · exact r_0000
        · exact r_0001
      · refine parts (C := fun y => rexB 0 0 1 y = true) (fun m => r_001n m) ?_ ?_ (fun m => r_001b m) x4
        · exact r_0010
        · exact r_0011
    · refine parts (C := fun y => rexB 0 1 y x4 = true) (fun m => r_01n m x4) ?_ ?_ (fun m => r_01b m x4) x3
      · refine parts (C := fun y => rexB 0 1 0 y = true) (fun m => r_010n m) ?_ ?_ (fun m => r_010b m) x4
        · exact r_0100
        · exact r_0101
      · refine parts (C := fun y => rexB 0 1 1 y = true) (fun m => r_011n m) ?_ ?_ (fun m => r_011b m) x4
        · exact r_0110
        · exact r_0111
  · refine parts (C := fun y => rexB 1 y x3 x4 = true) (fun m => r_1n m x3 x4) ?_ ?_ (fun m => r_1b m x3 x4) x2
    · refine parts (C := fun y => rexB 1 0 y x4 = true) (fun m => r_10n m x4) ?_ ?_ (fun m => r_10b m x4) x3
      · refine parts (C := fun y => rexB 1 0 0 y = true) (fun m => r_100n m) ?_ ?_ (fun m => r_100b m) x4
        · exact r_1000
        · exact r_1001
      · refine parts (C := fun y => rexB 1 0 1 y = true) (fun m => r_101n m) ?_ ?_ (fun m => r_101b m) x4
        · exact r_1010
        · exact r_1011
    · refine parts (C := fun y => rexB 1 1 y x4 = true) (fun m => r_11n m x4) ?_ ?_ (fun m => r_11b m x4) x3
      · refine parts (C := fun y => rexB 1 1 0 y = true) (fun m => r_110n m) ?_ ?_ (fun m => r_110b m) x4
        · exact r_1100
        · exact r_1101
      · refine parts (C := fun y => rexB 1 1 1 y = true) (fun m => r_111n m) ?_ ?_ (fun m => r_111b m) x4
        · exact r_1110
        · exact r_1111


theorem walk (a0 a1 a2 a3 a4 a5 : Int) (w : World) :
    Calls Try.prog 4 #[.int .i64 a0, .int .i64 a1, .int .i64 a2, .int .i64 a3, .int .i64 a4, .int .i64 a5] w fun e w' => e = .returned (.bool true) ∧ Kept w.heap.size w w' := by
  obtain ⟨e0, hc⟩ := chain_ok (chain_all a0 a1)
  obtain ⟨b3, b2, b1, b0, hb, hb'⟩ := bits_ok (bits_all a1)
  obtain ⟨r0, hr, hr'⟩ := rex_ok (rex_all a2 a3 a4 a5)
  go_enter Try.func4, Try.ntmps4
  go_wp2_with (first
    | (go_at_call 12; refine (hc _).mono ?_; rintro e w1 ⟨p, rfl, k1, h13⟩)
    | (go_at_call 13; refine h13.mono ?_; rintro e w2 ⟨q, rfl, k2, h14⟩)
    | (go_at_call 14; refine h14.mono ?_; rintro e w3 ⟨rfl, k3, h15⟩)
    | (go_at_call 15; refine h15.mono ?_; rintro e w4 ⟨rfl, k4⟩)
    | (go_at_call 16; refine (hb _).mono ?_; rintro e w5 ⟨rfl, k5⟩)
    | (go_at_call 17; refine (hb' _).mono ?_; rintro e w6 ⟨rfl, k6⟩)
    | (go_at_call 18; refine (hr _).mono ?_; rintro e w7 ⟨rfl, k7⟩)
    | (go_at_call 19; refine (hr' _).mono ?_; rintro e w8 ⟨rfl, k8⟩)
    | (go_at_call 7; refine (awake _).mono ?_; rintro e w9 ⟨rfl, k9⟩))
  all_goals go_ret
  have s5 := Nat.le_trans k4.size k5.size
  have s6 := Nat.le_trans s5 k6.size
  have s7 := Nat.le_trans s6 k7.size
  have s8 := Nat.le_trans s7 k8.size
  exact ⟨rfl, ((((k4.trans (kept_mono k5 (k4.size))).trans (kept_mono k6 (s5))).trans (kept_mono k7 (s6))).trans (kept_mono k8 (s7))).trans (kept_mono k9 (s8))⟩

set_option maxRecDepth 100000 in
theorem lifted (os : Os) (started : os.Started) (H : Type) (enc : TypeId × Value → H) :
    ReturnsInHanded {} Try.checked os 4 .any (Rows.rexLaysSpec.pre6 enc Try.prog Try.f4 Rows.rexLaysRow.domain false) (Rows.rexLaysSpec.post enc Try.prog Try.f4 false true false false) := by
  refine returnsInHanded_of_change (C := Try.checked) own started (by kernel_rfl) Try.func4
    (ChangeSpec.witness6 (enc := enc) (C := Try.checked) false ⟨#[], #[.int .i64 0, .int .i64 0, .int .i64 0, .int .i64 0, .int .i64 0, .int .i64 0], []⟩ 8 (by kernel_rfl) (by kernel_rfl) (by kernel_rfl) (by kernel_rfl)) ?_
  intro W base args ds gs before hval0 hW hcnd _
  have hval : ∀ (j : Nat) t v, Try.f4.params[j]? = some t → args[j]? = some v → Value.okWide Try.prog W .any base t v := hval0
  have hW' := hW
  obtain ⟨p, q, hA0, hV, rfl, hfz, hnd⟩ := hW
  have hA : DataW.TrodAll enc Try.prog W 0 (fun _ => true) true Try.f4.params.toList args.toList ds p := hA0
  rw [Try.params4] at hA hval
  obtain ⟨v0, vs0, d0, ds0, p0, q0, hargs, rfl, rfl, h0, r0⟩ := trodAll_cons hA
  obtain ⟨v1, vs1, d1, ds1, p1, q1, rfl, rfl, rfl, h1, r1⟩ := trodAll_cons r0
  obtain ⟨v2, vs2, d2, ds2, p2, q2, rfl, rfl, rfl, h2, r2⟩ := trodAll_cons r1
  obtain ⟨v3, vs3, d3, ds3, p3, q3, rfl, rfl, rfl, h3, r3⟩ := trodAll_cons r2
  obtain ⟨v4, vs4, d4, ds4, p4, q4, rfl, rfl, rfl, h4, r4⟩ := trodAll_cons r3
  obtain ⟨v5, vs5, d5, ds5, p5, q5, rfl, rfl, rfl, h5, r5⟩ := trodAll_cons r4
  obtain ⟨rfl, rfl, rfl⟩ := trodAll_nil r5
  obtain rfl : args = #[v0, v1, v2, v3, v4, v5] := by cases args; simp_all
  obtain ⟨rfl, rfl⟩ := trodVars_none hV
  obtain ⟨a0, rfl, rfl, rfl, w0⟩ := open_int Try.underlying3 (hval 0 3 v0 rfl rfl) h0
  obtain ⟨a1, rfl, rfl, rfl, w1⟩ := open_int Try.underlying3 (hval 1 3 v1 rfl rfl) h1
  obtain ⟨a2, rfl, rfl, rfl, w2⟩ := open_int Try.underlying3 (hval 2 3 v2 rfl rfl) h2
  obtain ⟨a3, rfl, rfl, rfl, w3⟩ := open_int Try.underlying3 (hval 3 3 v3 rfl rfl) h3
  obtain ⟨a4, rfl, rfl, rfl, w4⟩ := open_int Try.underlying3 (hval 4 3 v4 rfl rfl) h4
  obtain ⟨a5, rfl, rfl, rfl, w5⟩ := open_int Try.underlying3 (hval 5 3 v5 rfl rfl) h5
  clear hA0 hval0
  simp only [List.append_nil] at hW'
  refine (walk a0 a1 a2 a3 a4 a5 W).mono fun e W' ⟨he, hg⟩ => ?_
  subst he
  exact ⟨_, rfl, post_of_kept (pa := []) (pv := []) hW' (fun _ _ _ => (trodAll_cons_mk (shut_bool Try.underlying4 _) trodAll_mk0)) (fun sp _ => (trodAll_cons_mk (shut_int Try.underlying3 w0) (trodAll_cons_mk (shut_int Try.underlying3 w1) (trodAll_cons_mk (shut_int Try.underlying3 w2) (trodAll_cons_mk (shut_int Try.underlying3 w3) (trodAll_cons_mk (shut_int Try.underlying3 w4) (trodAll_cons_mk (shut_int Try.underlying3 w5) trodAll_mk0))))))) (fun _ _ => rfl) rfl
    hg (ok_one (by kernel_rfl) rfl (okWide_bool_mk Try.underlying4 _))⟩

theorem over : Rows.rexLaysRow.holds Try.pinned (OpenSpec.ofChange Rows.rexLaysSpec) :=
  OpenClaim.holds_of_wide 4 Try.f4 rfl rfl rfl rfl rfl rfl rfl ⟨rfl, rfl, rfl, rfl, rfl⟩ rfl rfl rfl rfl rfl (by kernel_rfl) Try.func4 (by kernel_rfl)
    (of_decide_eq_true (by kernel_rfl)) (by unfold Func.isWrapper; first | (rw [if_pos (by decide +kernel)]; kernel_rfl) | (rw [if_neg (by decide +kernel)]; exact ⟨rfl, rfl⟩))
    (fun os started H enc _ => lifted os started H enc)

end Go.Proofs.Ytcpffiihdnecjaa.rexLays
namespace Go.Proofs.Ytcpffiihdnecjaa

theorem rexLays_holds : Rows.RexLaysSaid := rexLays.over
#print axioms rexLays_holds
end Go.Proofs.Ytcpffiihdnecjaa
