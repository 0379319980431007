/- CopyBytes, append, reads, lays: their contracts, for RexBack; the plain laws. -/
import Derived.Test.YtcpffiihdnecjaaBack1
import Derived.Test.YtcpffiihdnecjaaReads
import Derived.Laws.OwnMore
import Derived.BigFrame
namespace Go.Proofs.Ytcpffiihdnecjaa
open Go Go.RowKit Ev
set_option linter.unusedVariables false
set_option linter.unusedSimpArgs false
set_option linter.unusedSectionVars false

-- the plain laws

def freeB : List Int → Bool
  | [] => true
  | x :: _ => !(x == 102) && (!(x == 242) && (!(x == 243) && (decide (x < 64) || decide (79 < x))))

/-- No prefix ahead. -/
def noPfx : List Int → Bool
  | [] => true
  | x :: _ => !(x == 102) && (!(x == 242) && !(x == 243))

theorem mid_no (pre n : Int) (t : List Int) (h : noPfx t = true) : midL pre n t = tailL pre n t := by
  cases t with
  | nil => rfl
  | cons x r =>
    simp only [noPfx, Bool.and_eq_true, Bool.not_eq_true'] at h
    dsimp only [midL]
    rw [h.2.1, h.2.2]
    rfl

theorem read_no (pre : Int) (t : List Int) (h1 : 0 ≤ pre) (h2 : pre ≤ 5) (h : noPfx t = true) : readL (layL pre (-1) ++ t) = tailL pre ((layL pre (-1)).length) t := by
  have hp : pre = 0 ∨ pre = 1 ∨ pre = 2 ∨ pre = 3 ∨ pre = 4 ∨ pre = 5 := by omega
  rcases hp with rfl | rfl | rfl | rfl | rfl | rfl
  · show readL t = tailL 0 0 t
    cases t with
    | nil => rfl
    | cons x r =>
      have h' := h
      simp only [noPfx, Bool.and_eq_true, Bool.not_eq_true'] at h'
      dsimp only [readL]
      rw [h'.1]
      exact mid_no 0 0 _ h
  · exact mid_no 1 1 t h
  · rfl
  · rfl
  · rfl
  · rfl

theorem lay_split (pre n : Int) : layL pre n = layL pre (-1) ++ (bif decide (0 ≤ n) then [64 + n] else []) := by
  have g' : decide ((0 : Int) ≤ -1) = false := rfl
  unfold layL
  rw [g']
  simp only [cond_false, List.append_nil, List.append_assoc]

theorem back1 (pre n : Int) (zs : List Int) (h1 : 0 ≤ pre) (h2 : pre ≤ 5) (h3 : -1 ≤ n) (h4 : n ≤ 15) (h : freeB zs = true ∨ 0 ≤ n) : readL (layL pre n ++ zs) = (pre, n, ((layL pre n).length : Int)) := by
  rw [lay_split pre n]
  by_cases hn : n = -1
  · subst hn
    have hf : freeB zs = true := by rcases h with h | h; exact h; omega
    have g' : decide ((0 : Int) ≤ -1) = false := rfl
    rw [g', cond_false, List.append_nil]
    cases zs with
    | nil => rw [read_no pre [] h1 h2 rfl]; rfl
    | cons x r =>
      simp only [freeB, Bool.and_eq_true, Bool.not_eq_true', Bool.or_eq_true, decide_eq_true_eq] at hf
      obtain ⟨f1, f2, f3, f4⟩ := hf
      have f5 : (decide (64 ≤ x) && decide (x ≤ 79)) = false := by
        rw [Bool.and_eq_false_iff]
        rcases f4 with f | f
        · exact .inl (decide_eq_false (by omega))
        · exact .inr (decide_eq_false (by omega))
      rw [read_no pre (x :: r) h1 h2 (by simp only [noPfx, f1, f2, f3]; rfl)]
      dsimp only [tailL]
      rw [f5]
      rfl
  · have h0 : 0 ≤ n := by omega
    rw [decide_eq_true h0, cond_true, List.append_assoc]
    have g1 : (64 + n == 102) = false := beq_eq_false_iff_ne.2 (by omega)
    have g2 : (64 + n == 242) = false := beq_eq_false_iff_ne.2 (by omega)
    have g3 : (64 + n == 243) = false := beq_eq_false_iff_ne.2 (by omega)
    have g4 : (decide (64 ≤ 64 + n) && decide (64 + n ≤ 79)) = true := by
      rw [Bool.and_eq_true]; exact ⟨decide_eq_true (by omega), decide_eq_true (by omega)⟩
    rw [read_no pre _ h1 h2 (by show noPfx ((64 + n) :: zs) = true; simp only [noPfx, g1, g2, g3]; rfl)]
    show tailL pre _ ((64 + n) :: zs) = _
    dsimp only [tailL]
    rw [g4, cond_true, List.length_append]
    simp
    omega

theorem back2 (zs : List Int) (q m : Int) (k : Int) (h : readL zs = (q, m, k)) : ∃ j : Nat, k = j ∧ j ≤ 3 ∧ j ≤ zs.length ∧ 0 ≤ q ∧ q ≤ 5 ∧ -1 ≤ m ∧ m ≤ 15 ∧ zs.take j = layL q m := by
  have tail : ∀ (pre : Int) (j : Nat) (hd r : List Int), hd.length = j → j ≤ 2 → 0 ≤ pre → pre ≤ 5 → layL pre (-1) = hd → tailL pre j r = (q, m, k) →
      ∃ j : Nat, k = j ∧ j ≤ 3 ∧ j ≤ (hd ++ r).length ∧ 0 ≤ q ∧ q ≤ 5 ∧ -1 ≤ m ∧ m ≤ 15 ∧ (hd ++ r).take j = layL q m := by
    intro pre j hd r e1 e2 e3 e4 e5 e6
    have none_ : (pre, (-1 : Int), (j : Int)) = (q, m, k) → ∃ j : Nat, k = j ∧ j ≤ 3 ∧ j ≤ (hd ++ r).length ∧ 0 ≤ q ∧ q ≤ 5 ∧ -1 ≤ m ∧ m ≤ 15 ∧ (hd ++ r).take j = layL q m := by
      intro e
      simp only [Prod.mk.injEq] at e
      obtain ⟨rfl, rfl, rfl⟩ := e
      exact ⟨j, rfl, by omega, by simp; omega, e3, e4, by omega, by omega, by rw [List.take_append_of_le_length (by omega), List.take_of_length_le (by omega), e5]⟩
    cases r with
    | nil => exact none_ e6
    | cons x r =>
      dsimp only [tailL] at e6
      cases hx : (decide (64 ≤ x) && decide (x ≤ 79))
      · rw [hx, cond_false] at e6; exact none_ e6
      · rw [hx, cond_true] at e6
        simp only [Bool.and_eq_true, decide_eq_true_eq] at hx
        simp only [Prod.mk.injEq] at e6
        obtain ⟨rfl, rfl, rfl⟩ := e6
        refine ⟨j + 1, by omega, by omega, by simp; omega, e3, e4, by omega, by omega, ?_⟩
        have g : decide (0 ≤ x - 64) = true := decide_eq_true (by omega)
        have g' : decide ((0 : Int) ≤ -1) = false := rfl
        have e7 : 64 + (x - 64) = x := by omega
        have : layL pre (x - 64) = layL pre (-1) ++ [x] := by
          unfold layL
          rw [g, g', e7]
          simp only [cond_true, cond_false, List.append_nil, List.append_assoc]
        rw [this, e5, ← e1]
        simp [List.take_append]
        exact List.take_of_length_le (by omega)
  cases zs with
  | nil => 
    have : ((0 : Int), (-1 : Int), (0 : Int)) = (q, m, k) := h
    simp only [Prod.mk.injEq] at this
    obtain ⟨rfl, rfl, rfl⟩ := this
    exact ⟨0, rfl, by omega, by omega, by omega, by omega, by omega, by omega, rfl⟩
  | cons x r =>
    have mid : ∀ (pre : Int) (j : Nat) (hd r : List Int), hd.length = j → j ≤ 1 → 0 ≤ pre → pre ≤ 1 → layL pre (-1) = hd → layL (pre + 2) (-1) = hd ++ [242] → layL (pre + 4) (-1) = hd ++ [243] → midL pre j r = (q, m, k) →
        ∃ j : Nat, k = j ∧ j ≤ 3 ∧ j ≤ (hd ++ r).length ∧ 0 ≤ q ∧ q ≤ 5 ∧ -1 ≤ m ∧ m ≤ 15 ∧ (hd ++ r).take j = layL q m := by
      intro pre j hd r e1 e2 e3 e4 e5 e6 e7 e8
      cases r with
      | nil => exact tail pre j hd [] e1 (by omega) e3 (by omega) e5 e8
      | cons x r =>
        dsimp only [midL] at e8
        cases h1 : (x == 242)
        · rw [h1, cond_false] at e8
          cases h2 : (x == 243)
          · rw [h2, cond_false] at e8
            exact tail pre j hd (x :: r) e1 (by omega) e3 (by omega) e5 e8
          · rw [h2, cond_true] at e8
            obtain rfl : x = 243 := by simpa using h2
            have := tail (pre + 4) (j + 1) (hd ++ [243]) r (by simp [e1]) (by omega) (by omega) (by omega) e7 e8
            simpa using this
        · rw [h1, cond_true] at e8
          obtain rfl : x = 242 := by simpa using h1
          have := tail (pre + 2) (j + 1) (hd ++ [242]) r (by simp [e1]) (by omega) (by omega) (by omega) e6 e8
          simpa using this
    dsimp only [readL] at h
    cases h1 : (x == 102)
    · rw [h1, cond_false] at h
      exact mid 0 0 [] (x :: r) rfl (by omega) (by omega) (by omega) rfl rfl rfl h
    · rw [h1, cond_true] at h
      obtain rfl : x = 102 := by simpa using h1
      exact mid 1 1 [102] r rfl (by omega) (by omega) (by omega) rfl rfl rfl h

theorem layL_len (q m : Int) : (layL q m).length ≤ 4 := by
  unfold layL
  simp only [List.length_append]
  have : ∀ (b : Bool) (x : Int), (bif b then [x] else []).length ≤ 1 := by intro b x; cases b <;> simp
  have a := this (q % 2 == 1) 102
  have b := this (q / 2 == 1) 242
  have c := this (q / 4 == 1) 243
  have d := this (decide (0 ≤ m)) (64 + m)
  omega

-- append

theorem wp_append_row {o : Oper} {a : Act} {w : World} {K : Act → World → Prop} {Q : Exit → Act → World → Prop} (s x : Operand)
    (ho : o.op = .call { callee := .builtin .append, args := #[s, x], argTypes := #[22, 22] }) (base : Nat)
    (v : Value) (n : Nat) (xs : List Value) (hs : a.eval s = v) (hown : w.ownsRow base 5 1 v n xs)
    (p : Option Addr) (m c : Nat) (zs : List Int) (hx : a.eval x = .slice p m c) (hb : BRow w p m c zs) (hc : p = none → c = 0)
    (h63 : n + m ≤ 1000) (hbase : base ≤ w.heap.size)
    (h : ∀ v' w', w'.ownsRow base 5 1 v' (n + m) (xs ++ zs.map (Value.int .u8)) → w.grownBy w' v.ownBlock → K (a.put o.dst v') w') : o.wp Try.prog a w K Q := by
  obtain ⟨i0, hi, hz0, hz1, hz2⟩ := info_parts info5
  have hl : (zs.map (Value.int .u8)).length = m * 1 := by rw [List.length_map, hb.1, Nat.mul_one]
  have h1 : ∀ u ∈ zs.map (Value.int .u8), u.oneCell' = true := by intro v hv; obtain ⟨z, _, rfl⟩ := List.mem_map.1 hv; rfl
  cases p with
  | none =>
    have := hc rfl
    subst this
    have hm : m = 0 := by have := hb.2.1; omega
    subst hm
    obtain rfl : zs = [] := List.eq_nil_of_length_eq_zero hb.1
    have hrun := run_append_owned_none (P := Try.prog) (w := w) base 22 o.type 5 i0 1 Try.underlying22 hi v n xs hown
    unfold Oper.wp
    simp [execOp, ho, resolve, invoke, builtin, hs, hx, hrun, Result.andThen]
    refine h v w (by simpa using hown) ?_
    exact ⟨rfl, rfl, rfl, Nat.le_refl _, fun _ _ _ => rfl⟩
  | some ad =>
    refine wp_append_own w s x 22 ho base 5 i0 (.int .u8 0) 1 1 Try.underlying22 hi hz0 hz1 hz2 rfl (by decide) v n xs hs hown ad m c (zs.map (Value.int .u8)) hx hl (fun j u hj => ?_) h1 (by unfold maxLen; omega) (by omega) hbase (fun v' w' a b _ => h v' w' a b)
    have hjm : j < m := by have := (List.getElem?_eq_some_iff.1 hj).1; omega
    obtain ⟨B, off, e1, e2⟩ := hb.2.2 (by omega)
    cases e1
    have hz : j < zs.length := by rw [hb.1]; exact hjm
    have e : (⟨B, off, none⟩ : Addr).add j = ⟨B, off + j, none⟩ := by unfold Addr.add; split <;> simp_all
    rw [e, e2 j hjm]
    rw [List.getElem?_map, List.getElem?_eq_getElem hz] at hj
    cases hj
    simp [List.getD, List.getElem?_eq_getElem hz]

/-- What a slice of the call's own reads as. -/
theorem own_arow {w : World} {base : Nat} {v : Value} {n : Nat} {zs : List Int} (h : w.ownsRow base 5 1 v n (zs.map (Value.int .u8))) (hz : ∀ x ∈ zs, 0 ≤ x ∧ x ≤ 255) : ∃ q c, v = .slice q n c ∧ ARow w q n c zs := by
  obtain ⟨h1, h2⟩ := h
  rw [List.length_map, Nat.mul_one] at h1
  rcases h2 with ⟨rfl, rfl⟩ | ⟨g, cap, cur, rfl, h3, h4, h5, h6, h7, h8⟩
  · exact ⟨none, 0, rfl, h1, Nat.le_refl _, by decide, hz, .inl ⟨rfl, rfl, List.eq_nil_of_length_eq_zero h1⟩⟩
  · refine ⟨_, _, rfl, h1, h5, h6, hz, .inr ⟨g, 0, cur, 5, (0, 0), rfl, h4, Nat.zero_le _, fun j x hj => ?_⟩⟩
    have hjz := (List.getElem?_eq_some_iff.1 hj).1
    have : (cur.toList.take (n * 1))[j]? = some (.int .u8 x) := by rw [h8, List.getElem?_map, hj]; rfl
    rw [List.getElem?_take, if_pos (by omega)] at this
    rw [Nat.zero_add, ← Array.getElem?_toList]
    exact this

def CopyPost (zs : List Int) (w : World) (e : Ending) (w' : World) : Prop := ∃ v, e = .returned v ∧ w'.ownsRow w.heap.size 5 1 v zs.length (zs.map (Value.int .u8)) ∧ Below w.heap.size w w'

theorem ownsRow_empty (w : World) : (w.alloc (.cells #[] 5)).ownsRow w.heap.size 5 1 (.slice (some ⟨w.heap.size, 0, none⟩) 0 0) 0 [] :=
  World.ownsRow_lit (size := 1) w #[] 0 (Nat.le_refl _) (by decide) rfl

set_option maxHeartbeats 800000 in
theorem copy_any {w : World} {p : Option Addr} {n c : Nat} {zs : List Int} (h : ARow w p n c zs) (hn : n ≤ 500) (hp : p = none → c = 0) : Calls Try.prog 22 #[.slice p n c] w (CopyPost zs w) := by
  have HB : Hid (BRow (w.alloc (.cells #[] 5)) p n c zs) :=
    rexReads.brow (rexReads.abelow (B0 := w.heap.size) ((Below.refl _ _).alloc (Nat.le_refl _) _) h (fun B off cs t fz _ hB => rexReads.lt_heap hB))
  have HZ : Hid (zs.length = n) := h.1
  have HO : Hid ((w.alloc (.cells #[] 5)).ownsRow w.heap.size 5 1 (.slice (some ⟨w.heap.size, 0, none⟩) 0 0) 0 []) := ownsRow_empty w
  clear h
  go_enter Try.func22, Try.ntmps22
  go_wp2_with (refine wpList_plain rfl fun _ hK => wp_append_row (.tmp 3) (.tmp 4) rfl w.heap.size _ 0 [] rfl HO.out p n c zs rfl HB.out hp (by omega) (by simp) (fun v' w' hown hgrow => hK _ _ ?_))
  go_ret
  exact ⟨v', rfl, by rw [HZ.out]; simpa using hown, (((Below.refl w.heap.size w).alloc (Nat.le_refl _) _).grown hgrow (by simp) (fun k hk => by cases hk; exact Nat.le_refl _))⟩

theorem reads_true {w : World} {p : Option Addr} {n c : Nat} {zs : List Int} {a b k : Int} (h : ARow w p n c zs) (hR : readL zs = (a, b, k)) :
    Calls Try.prog 21 #[.slice p n c, .int .i64 a, .int .i64 b, .int .i64 k] w fun e w' => e = .returned (.bool true) ∧ Below w.heap.size w w' := by
  have c9 : Calls Try.prog 9 #[.slice p n c] w fun e w' => e = .returned (.tuple #[.int .i64 a, .int .i64 b, .int .i64 k]) ∧ Below w.heap.size w w' := by
    have := read_any h
    rw [hR] at this
    exact this
  clear h hR
  go_enter Try.func21, Try.ntmps21
  go_wp2_with (go_at_call 9; refine c9.mono ?_; rintro e w1 ⟨rfl, b1⟩)
  go_ret
  exact ⟨rfl, b1⟩

theorem lays_true {q m : Int} (h1 : 0 ≤ q) (h2 : q ≤ 5) (h3 : -1 ≤ m) (h4 : m ≤ 15) {w : World} {p : Option Addr} {c n : Nat} (h : ARow w p n c (layL q m)) :
    Calls Try.prog 20 #[.int .i64 q, .int .i64 m, .slice p n c] w fun e w' => e = .returned (.bool true) ∧ Below w.heap.size w w' := by
  have c12 := lay_ok h1 h2 h3 h4 w
  have hn := h.1
  generalize layL q m = l at h c12 hn
  rw [hn] at c12
  have HN : Hid (l.length = n) := hn
  have c14 : ∀ (w1 : World) (r : Option Addr) (d : Nat), Below w.heap.size w w1 → ARow w1 r n d l → Calls Try.prog 14 #[.slice r n d, .slice p n c] w1 fun e w' => e = .returned (.bool true) ∧ w' = w1 :=
    fun w1 r d hb hr => same_any r p n d c l w1 (rexReads.brow hr) (rexReads.brow (rexReads.abelow hb h fun B off cs t fz _ hB => rexReads.lt_heap hB))
  clear h hn h1 h2 h3 h4
  go_enter Try.func20, Try.ntmps20
  go_wp2_with (first
    | (go_at_call 12; refine c12.mono ?_; rintro e w1 ⟨r, d, rfl, ha, b1⟩; have HA : Hid (ARow w1 r n d l) := ha; clear ha)
    | (go_at_call 14; refine (c14 _ _ _ b1 HA.out).mono ?_; rintro e w2 ⟨rfl, rfl⟩))
  go_ret
  exact ⟨rfl, b1⟩
end Go.Proofs.Ytcpffiihdnecjaa
