/- RexBack's text, walked. -/
import Derived.Test.YtcpffiihdnecjaaBack2
import Derived.Deep.DeepCutAuto
namespace Go.Proofs.Ytcpffiihdnecjaa
open Go Go.RowKit Ev
set_option linter.unusedVariables false
set_option linter.unusedSimpArgs false
set_option linter.unusedSectionVars false

theorem ar_below {w w1 : World} {B : Nat} {p : Option Addr} {n c : Nat} {zs : List Int} (hb : Below B w w1) (hB : w.heap.size ≤ B) (h : ARow w p n c zs) : ARow w1 p n c zs :=
  rexReads.abelow hb h fun B off cs t fz _ h => Nat.lt_of_lt_of_le (rexReads.lt_heap h) hB

theorem trans_b {w w1 w2 : World} {N : Nat} (a : Below N w w1) (hN : N ≤ w1.heap.size) (b : Below w1.heap.size w1 w2) : Below N w w2 := a.trans (b.mono hN)

theorem back_long (a0 a1 : Int) (a2 : Option Addr) (len cap : Nat) (w : World) (hm : len ≤ 9223372036854775807) (hl : 20 < len) :
    Calls Try.prog 6 #[.int .i64 a0, .int .i64 a1, .slice a2 len cap] w fun e w' => e = .returned (.bool true) ∧ Below w.heap.size w w' := by
  go_enter Try.func6, Try.ntmps6
  go_wp2_with (go_at_call 5; refine (known_any _).mono ?_; rintro e w1 ⟨rfl, hb1⟩)
  go_ret
  exact ⟨rfl, hb1⟩

theorem ar_none {w : World} {n c : Nat} {zs : List Int} (h : ARow w none n c zs) : c = 0 := by
  rcases h.2.2.2.2 with h | ⟨_, _, _, _, _, h, _⟩
  · exact h.2.1
  · cases h

def Laid (l : List Int) (v : Value) (w : World) : Prop := ∃ q c, v = .slice q l.length c ∧ ARow w q l.length c l

theorem Laid.below {l : List Int} {v : Value} {w w1 : World} {B : Nat} (h : Laid l v w) (hb : Below B w w1) (hB : w.heap.size ≤ B) : Laid l v w1 := by
  obtain ⟨q, c, e, ha⟩ := h
  exact ⟨q, c, e, ar_below hb hB ha⟩

/-- The first byte's cell. -/
theorem first_cell {w w1 : World} {p : Option Addr} {n c : Nat} {x : Int} {r : List Int} (hb : Below w.heap.size w w1) (h : ARow w p n c (x :: r)) : 0 < n ∧ ∃ B off, p = some ⟨B, off, none⟩ ∧ w1.cell? ⟨B, off, none⟩ = some (.int .u8 x) := by
  have h' := ar_below hb (Nat.le_refl _) h
  have hn : 0 < n := by rw [← h.1]; simp
  obtain ⟨B, off, e, hc⟩ := (rexReads.brow h').2.2 hn
  exact ⟨hn, B, off, e, by simpa using hc 0 hn⟩

set_option maxHeartbeats 6400000 in
set_option maxRecDepth 100000 in
theorem back_walk (a0 a1 e0 : Int) (a2 : Option Addr) (len cap : Nat) (zs l : List Int) (w : World) (h : ARow w a2 len cap zs) (hl : len ≤ 20) (hll : l.length ≤ 4)
    (c12 : ∀ w, Calls Try.prog 12 #[.int .i64 a0, .int .i64 a1] w fun r w1 => ∃ v, r = .returned (.tuple #[v, .int .i64 e0]) ∧ (e0 = 0 → Laid l v w1) ∧ Below w.heap.size w w1)
    (b3 b2 b1 b0 : Int) (c16 : ∀ w, Calls Try.prog 16 #[.int .i64 a1] w fun r w1 => r = .returned (.tuple #[.int .i64 b3, .int .i64 b2, .int .i64 b1, .int .i64 b0]) ∧ Below w.heap.size w w1)
    (c18 : 0 ≤ a1 → a1 ≤ 15 → ∀ w, Calls Try.prog 18 #[.int .i64 b3, .int .i64 b2, .int .i64 b1, .int .i64 b0] w fun r w1 => r = .returned (.int .i64 a1) ∧ Below w.heap.size w w1)
    (hR : e0 = 0 → (freeB zs = true ∨ 0 ≤ a1) → readL (l ++ zs) = (a0, a1, (l.length : Int))) (hlb : e0 = 0 → ∀ x ∈ l, 0 ≤ x ∧ x ≤ 255) :
    Calls Try.prog 6 #[.int .i64 a0, .int .i64 a1, .slice a2 len cap] w fun e w' => e = .returned (.bool true) ∧ Below w.heap.size w w' := by
  obtain ⟨q, m, k, hq⟩ : ∃ q m k, readL zs = (q, m, k) := ⟨_, _, _, rfl⟩
  obtain ⟨j, rfl, j1, j2, j3, j4, j5, j6, j7⟩ := back2 zs q m k hq
  have H : Hid (ARow w a2 len cap zs) := h
  have HQ : Hid (readL zs = (q, m, (j : Int))) := hq
  have HR : Hid (e0 = 0 → (freeB zs = true ∨ 0 ≤ a1) → readL (l ++ zs) = (a0, a1, (l.length : Int))) := hR
  have HLB : Hid (e0 = 0 → ∀ x ∈ l, 0 ≤ x ∧ x ≤ 255) := hlb
  have H7 : Hid (zs.take j = layL q m) := j7
  have HJ : j ≤ len := by rw [← h.1]; exact j2
  have HC : len ≤ cap ∧ cap ≤ 9223372036854775807 := ⟨h.2.1, h.2.2.1⟩
  obtain ⟨hc1, hc2⟩ := HC
  clear hq hR hlb j7 j2 h
  go_enter Try.func6, Try.ntmps6
  go_upto_region 6 with (first
    | (go_at_call 5; refine (known_any _).mono ?_; rintro e w1 ⟨rfl, k1⟩)
    | (go_at_call 12; refine (c12 _).mono ?_; rintro e w2 ⟨v, rfl, hv, k2⟩; have HV : Hid (e0 = 0 → Laid l v w2) := hv; clear hv; have B2 := trans_b k1 k1.size k2)
    | (go_at_call 16; refine (c16 _).mono ?_; rintro e w3 ⟨rfl, k3⟩; have B3 := trans_b B2 B2.size k3))
  have HV3 : Hid (e0 = 0 → Laid l v w3) := fun e => (HV.out e).below k3 (Nat.le_refl _)
  clear k1 k2 k3 HV c12 c16 B2
  go_cut [50] (fun s wx => s = .bool false ∧ Below w.heap.size w wx ∧ Hid (e0 = 0 → Laid l v wx))
  case first =>
    rcases (by omega : a1 < 0 ∨ (0 ≤ a1 ∧ a1 ≤ 15) ∨ 15 < a1) with hn | ⟨hn, hn'⟩ | hn
    · go_wp2_with fail
      go_meet
      exact ⟨rfl, B3, HV3⟩
    · have c18 := c18 hn hn'
      go_wp2_with (go_at_call 18; refine (c18 _).mono ?_; rintro e w4 ⟨rfl, k4⟩)
      go_meet
      exact ⟨rfl, trans_b B3 B3.size k4, fun e => (HV3.out e).below k4 (Nat.le_refl _)⟩
    · have hn2 : 0 ≤ a1 := by omega
      go_wp2_with fail
      go_meet
      exact ⟨rfl, B3, HV3⟩
  case rest =>
    obtain ⟨rfl, B4, HV4⟩ := hcut
    clear B3 HV3 c18
    go_upto_region 8 with fail
    have hcases : zs = [] ∨ ∃ x r, zs = x :: r := by
      cases zs with
      | nil => exact .inl rfl
      | cons x r => exact .inr ⟨x, r, rfl⟩
    go_cut [14] (fun s wx => s = .bool (freeB zs) ∧ wx = wc)
    case first =>
      rcases hcases with hz | ⟨x, r, hz⟩
      · have hF : Hid (freeB zs = true) := by rw [hz]; exact rfl
        have h0 : len = 0 := by have := H.out.1; rw [hz] at this; simpa using this.symm
        subst h0
        clear hz H HQ HR H7
        go_wp2_with fail
        go_meet
        exact ⟨by rw [hF.out], rfl⟩
      · have hx' : ARow w a2 len cap (x :: r) := by have := H.out; rwa [hz] at this
        obtain ⟨hn, B, off, rfl, hcell⟩ := first_cell B4 hx'
        have hF : Hid (freeB zs = freeB (x :: r)) := by rw [hz]; exact rfl
        have hne : ((len : Int) == 0) = false := beq_eq_false_iff_ne.2 (by omega)
        clear hz H HQ HR H7 hx'
        by_cases e1 : x = 102
        · subst e1
          go_wp2_with fail
          go_meet
          exact ⟨by rw [hF.out]; rfl, rfl⟩
        by_cases e2 : x = 242
        · subst e2
          clear e1
          go_wp2_with fail
          go_meet
          exact ⟨by rw [hF.out]; rfl, rfl⟩
        by_cases e3 : x = 243
        · subst e3
          clear e1 e2
          go_wp2_with fail
          go_meet
          exact ⟨by rw [hF.out]; rfl, rfl⟩
        have f1 : (x == 102) = false := beq_eq_false_iff_ne.2 e1
        have f2 : (x == 242) = false := beq_eq_false_iff_ne.2 e2
        have f3 : (x == 243) = false := beq_eq_false_iff_ne.2 e3
        by_cases e4 : x < 64
        · have hF2 : Hid (freeB (x :: r) = true) := by
            show freeB (x :: r) = true
            simp only [freeB, f1, f2, f3, decide_eq_true e4]; rfl
          go_wp2_with fail
          go_meet
          exact ⟨by rw [hF.out, hF2.out]; simp [bne, f1, f2, f3], rfl⟩
        by_cases e5 : 79 < x
        · have hF2 : Hid (freeB (x :: r) = true) := by
            show freeB (x :: r) = true
            simp only [freeB, f1, f2, f3, decide_eq_true e5]; simp
          go_wp2_with fail
          go_meet
          exact ⟨by rw [hF.out, hF2.out]; simp [bne, f1, f2, f3], rfl⟩
        · have hF2 : Hid (freeB (x :: r) = false) := by
            show freeB (x :: r) = false
            simp only [freeB, f1, f2, f3, decide_eq_false e4, decide_eq_false e5]; rfl
          go_wp2_with fail
          go_meet
          exact ⟨by rw [hF.out, hF2.out], rfl⟩
    case rest =>
      obtain ⟨rfl, rfl⟩ := hcut
      clear hcases
      go_upto_region 9 with fail
      go_cut [14, 104] (fun s14 s wx => s = .bool false ∧ Below w.heap.size w wx)
      case first =>
        by_cases he : e0 = 0
        · subst he
          have HL0 : Hid (∀ x ∈ l, 0 ≤ x ∧ x ≤ 255) := HLB.out rfl
          obtain ⟨qq, cc, rfl, hla⟩ := HV4.out rfl
          have hmain : (freeB zs = true ∨ 0 ≤ a1) ∨ (freeB zs = false ∧ a1 < 0) := by
            cases hf : freeB zs
            · rcases Int.lt_or_le a1 0 with h | h
              · exact .inr ⟨rfl, h⟩
              · exact .inl (.inr h)
            · exact .inl (.inl rfl)
          rcases hmain with hor | ⟨hf, hneg⟩
          · have hrd := HR.out rfl hor
            have HRD : Hid (readL (l ++ zs) = (a0, a1, (l.length : Int))) := hrd
            have HLA : Hid (ARow wc qq l.length cc l) := hla
            have c22 := copy_any hla (by omega) (fun e => by subst e; exact ar_none hla)
            have HZB : Hid (∀ x ∈ l ++ zs, 0 ≤ x ∧ x ≤ 255) := fun x hx => by
              rcases List.mem_append.1 hx with h | h
              · exact HL0.out x h
              · exact H.out.2.2.2.1 x h
            have hcap2 : a2 = none → cap = 0 := fun e => by subst e; exact ar_none H.out
            clear hrd hla HR HLB HQ H7 HV4
            rcases (by cases hf : freeB zs; exact .inr ⟨rfl, by rcases hor with h | h; rw [hf] at h; cases h; exact h⟩; exact .inl rfl : freeB zs = true ∨ (freeB zs = false ∧ 0 ≤ a1)) with hf | ⟨hf, hpos⟩
            all_goals
              clear hor
              rw [hf]
              clear hf
              go_wp2_with (first
                | (go_at_call 22; refine c22.mono ?_; rintro e w5 ⟨v1, rfl, hown, k5⟩; have HO : Hid (w5.ownsRow wc.heap.size 5 1 v1 l.length (l.map (Value.int .u8))) := hown; clear hown; have B5 := trans_b B4 B4.size k5; have HB5 : Hid (BRow w5 a2 len cap zs) := rexReads.brow (ar_below B5 (Nat.le_refl _) H.out); have hsz5 : wc.heap.size ≤ w5.heap.size := k5.size)
                | (refine BigFrame.wpList_want (by rfl) fun _ hK => wp_append_row (.tmp 95) (.tmp 96) rfl wc.heap.size _ l.length (l.map (Value.int .u8)) rfl HO.out a2 len cap zs rfl HB5.out hcap2 (by omega) hsz5 (fun v2 w6 hown6 hgrow6 => hK _ _ ?_); obtain ⟨q2, c2, rfl, ha2⟩ := own_arow (zs := l ++ zs) (by rw [List.map_append]; exact hown6) HZB.out; have HA2 : Hid (ARow w6 q2 (l.length + len) c2 (l ++ zs)) := ha2; have B6 : Below w.heap.size w w6 := B5.grown hgrow6 B5.size (fun k hk => Nat.le_trans B4.size ((World.ownsRow.lt HO.out) k hk).1); clear ha2 hown6 hgrow6)
                | (go_at_call 21; refine (reads_true HA2.out HRD.out).mono ?_; rintro e w7 ⟨rfl, k7⟩; have B7 := trans_b B6 B6.size k7))
            all_goals go_meet
            all_goals exact ⟨rfl, B7⟩
          · rw [hf]
            have hdec : decide (0 ≤ a1) = false := decide_eq_false (by omega)
            clear hf H HQ HR H7 HLB
            go_wp2_with fail
            go_meet
            exact ⟨rfl, B4⟩
        · have hdec : (e0 == 0) = false := beq_eq_false_iff_ne.2 he
          clear H HQ HR H7 HLB HV4
          go_wp2_with fail
          go_meet
          exact ⟨rfl, B4⟩
      case rest =>
        obtain ⟨rfl, B7⟩ := hcut
        clear B4 HV4 HR HLB
        have hla : ARow wc a2 j cap (zs.take j) := by
          have h := ar_below B7 (Nat.le_refl _) H.out
          refine ⟨by rw [List.length_take, h.1]; omega, by omega, hc2, fun x hx => h.2.2.2.1 x (List.mem_of_mem_take hx), ?_⟩
          rcases h.2.2.2.2 with ⟨h0, h1, h2⟩ | ⟨B, off, cs, t, fz, e1, e2, e3, e4⟩
          · exact .inl ⟨by omega, h1, by rw [h2]; simp⟩
          · exact .inr ⟨B, off, cs, t, fz, e1, e2, e3, fun i x hx => e4 i x ((rexReads.take_get hx).2)⟩
        rw [H7.out] at hla
        have HLA : Hid (ARow wc a2 j cap (layL q m)) := hla
        have c9 : Calls Try.prog 9 #[.slice a2 len cap] wc fun e w' => e = .returned (.tuple #[.int .i64 q, .int .i64 m, .int .i64 (j : Int)]) ∧ Below wc.heap.size wc w' := by
          have := read_any (ar_below B7 (Nat.le_refl _) H.out)
          rw [HQ.out] at this
          exact this
        have c20 : ∀ w8 : World, Below wc.heap.size wc w8 → Calls Try.prog 20 #[.int .i64 q, .int .i64 m, .slice a2 j cap] w8 fun e w' => e = .returned (.bool true) ∧ Below w8.heap.size w8 w' := fun w8 hb => lays_true j3 j4 j5 j6 (ar_below hb (Nat.le_refl _) HLA.out)
        have hlc : len ≤ cap := hc1
        have hjc : (j : Int) ≤ (cap : Int) := by omega
        clear hla H HQ H7
        cases a2 with
        | none =>
          have hc0 : cap = 0 := ar_none HLA.out
          subst hc0
          obtain rfl : j = 0 := by omega
          obtain rfl : len = 0 := by omega
          go_wp2_with (first
            | (go_at_call 9; refine c9.mono ?_; rintro e w8 ⟨rfl, k8⟩; have B8 := trans_b B7 B7.size k8)
            | (go_at_call 20; refine (c20 _ k8).mono ?_; rintro e w9 ⟨rfl, k9⟩; have B9 := trans_b B8 B8.size k9))
          all_goals go_ret
          all_goals exact ⟨rfl, B9⟩
        | some ad =>
          go_wp2_with (first
            | (go_at_call 9; refine c9.mono ?_; rintro e w8 ⟨rfl, k8⟩; have B8 := trans_b B7 B7.size k8)
            | (go_at_call 20; refine (c20 _ k8).mono ?_; rintro e w9 ⟨rfl, k9⟩; have B9 := trans_b B8 B8.size k9))
          all_goals go_ret
          all_goals exact ⟨rfl, B9⟩
end Go.Proofs.Ytcpffiihdnecjaa
