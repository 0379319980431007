/- The evaluator: a drawn region, all of it. -/
import Derived.Test.YtcpffiihdnecjaaEv28
namespace Go.Proofs.Ytcpffiihdnecjaa.Ev
set_option linter.unusedSectionVars false
set_option linter.unusedSimpArgs false
set_option linter.unusedVariables false
open Go

theorem putT_spec {nt : Nat} {tm tm' : T AV} {d : Option Tmp} {v : AV} (h : putT nt tm d v = some tm') : (∀ t, tm'.get t = if d = some t then some v else tm.get t) ∧ ∀ e, d = some e → e < nt := by
  unfold putT at h
  cases d with
  | none => cases h; exact ⟨fun t => by rw [if_neg (by simp)], fun e he => by cases he⟩
  | some d =>
    simp only at h
    cases hb : Nat.blt d nt
    · rw [hb] at h; cases h
    · rw [hb, cond_true] at h
      refine ⟨fun t => ?_, fun e he => by cases he; exact blt_true hb⟩
      rw [T.set_get _ _ _ _ h]
      by_cases e : t = d
      · rw [if_pos e, if_pos (by rw [e])]
      · rw [if_neg e, if_neg (fun h => e (Option.some.inj h).symm)]

section
variable {V : Env} (hV : EnvOk V) {ops : Array Oper} {L : List Ent} (hL : Plan ops L) {N : Nat} {φ : Emb} {w : World} {nt : Nat} {tmps : Array Value}
include hV hL

theorem addP {pre post : List Ent} {x : Ent} (hsp : L = pre ++ x :: post) (hf : ∀ y ∈ pre, y.2.2.1 = true) (hxf : x.2.2.1 = true) {M M' : Mem} {tm tm' : T AV} {kd : Nat → Option Nat} (R : Rep V.P V.G N φ M w)
    (pr : PR V ops pre φ M nt tm tmps [] kd) {va : AV} (hput : putT nt tm x.1.dst va = some tm') (kx : Option Nat)
    (hM : (M' = M ∧ kx = none) ∨ (∃ r, M.push (.row r) = some M' ∧ kx = some M.next)) (hx : sees ops.toList tm tm' x.1 → Pend V ops.toList φ M' nt tm' x.1 kx) :
    PR V ops (pre ++ [x]) φ M' nt tm' tmps [] (fun i => if i = x.2.1 then kx else kd i) := by
  obtain ⟨hget, hdlt⟩ := putT_spec hput
  have hxL : x ∈ L := by rw [hsp]; simp
  have hpw := hL.pair
  have hne := hL.ne
  rw [hsp, List.pairwise_append] at hpw hne
  have hself := hL.self x hxL hxf
  have hbeh : ∀ y ∈ pre, Behind ops.toList y.1 x.1 ∧ y.2.1 ≠ x.2.1 := by
    intro y hy
    refine ⟨?_, hne.2.2 y hy x (by simp)⟩
    rcases hpw.2.2 y hy x (by simp) (hf y hy) with ⟨_, h⟩ | h
    · exact h hxf
    · exact h.1
  have hsees : ∀ y : Oper, (∀ d, x.1.dst = some d → d ∉ looks ops.toList y) → sees ops.toList tm tm' y := by
    intro y hy t ht
    rw [hget, if_neg (fun e => hy t e ht)]
  have hbn : ∀ y ∈ pre, ∀ b, kd y.2.1 = some b → b < M.next := by
    intro y hy b hb
    rcases pr.pend y hy (by simp) with ⟨_, h, _⟩ | ⟨_, h, _⟩ | ⟨_, b', M0, v, r, h2, _, _, _, h6, _⟩
    · rw [hb] at h; cases h
    · rw [hb] at h; cases h
    · rw [hb] at h2; cases h2
      exact R.top _ _ h6
  refine ⟨fun i hi => (by cases hi), pr.size, fun t v hv hn => ?_, fun y hy _ => ?_, fun y hy z hz _ _ hyz b hb => ?_⟩
  · rw [hget] at hv
    have : x.1.dst ≠ some t := hn x (by simp) (by simp)
    rw [if_neg this] at hv
    exact pr.slots t v hv (fun y hy hyD => hn y (by simp [hy]) hyD)
  · rcases List.mem_append.1 hy with hy | hy
    · obtain ⟨h1, h2⟩ := hbeh y hy
      simp only [if_neg h2]
      have hs := hsees y.1 (fun d hd => (h1 d hd).1)
      have hd : ∀ (v : AV), (∀ d, y.1.dst = some d → d < nt ∧ tm.get d = some v) → ∀ d, y.1.dst = some d → d < nt ∧ tm'.get d = some v := by
        intro v h d hd
        obtain ⟨a, b⟩ := h d hd
        refine ⟨a, ?_⟩
        rw [hget, if_neg (fun e => (h1 d e).2 hd)]
        exact b
      rcases pr.pend y hy (by simp) with ⟨k1, k2, k3⟩ | ⟨k1, k2, v, k3, k4⟩ | ⟨k1, b, M0, v, r, k2, k3, k4, k5, k6, k7⟩
      · exact .inl ⟨by rw [sees_wanted hs]; exact k1, k2, hd _ k3⟩
      · refine .inr (.inl ⟨by rw [sees_wanted hs]; exact k1, k2, v, ?_, hd _ k4⟩)
        rw [fA_congr (sees_eval hs)]
        rcases hM with ⟨rfl, _⟩ | ⟨r, hp, _⟩
        · exact k3
        · exact fA_push hV R hp k3
      · refine .inr (.inr ⟨by rw [sees_wanted hs]; exact k1, b, M0, v, r, k2, ?_, k4, k5, ?_, hd _ k7⟩)
        · rw [fA_congr (sees_eval hs)]; exact k3
        · rcases hM with ⟨rfl, _⟩ | ⟨r', hp, _⟩
          · exact k6
          · rw [(push_spec hp).2.2, if_neg (by have := R.top _ _ k6; omega)]; exact k6
    · rw [List.mem_singleton.1 hy]
      simp only [if_true]
      exact hx (hsees x.1 hself)
  · have hkx : ∀ b, kx = some b → b = M.next := by
      intro b hb
      rcases hM with ⟨_, h⟩ | ⟨_, _, h⟩
      · rw [hb] at h; cases h
      · rw [hb] at h; exact Option.some.inj h
    rcases List.mem_append.1 hy with hy | hy
    · rw [if_neg (hbeh y hy).2] at hb
      rcases List.mem_append.1 hz with hz | hz
      · rw [if_neg (hbeh z hz).2]
        exact pr.inj y hy z hz (by simp) (by simp) hyz b hb
      · rw [List.mem_singleton.1 hz, if_pos rfl]
        intro e
        have := hbn y hy b hb
        have := hkx b e
        omega
    · rw [List.mem_singleton.1 hy] at hb hyz
      rw [if_pos rfl] at hb
      rcases List.mem_append.1 hz with hz | hz
      · rw [if_neg (hbeh z hz).2]
        intro e
        have := hbn z hz b e
        have := hkx b hb
        omega
      · exact absurd (by rw [List.mem_singleton.1 hz]) hyz

theorem planA_ok {c : ACtx} (hnt : c.nt = nt) {stk : List AFrame} {k : List AItem} {s' : St} {base : Nat} : ∀ (post done pre : List Ent) (tm : T AV) (M : Mem) (kd : Nat → Option Nat), L = pre ++ post → (∀ y ∈ pre, y.2.2.1 = true) →
    planA V c stk ops.toList k (mkPlanGo done post) tm M = some s' → Rep V.P V.G N φ M w → PR V ops pre φ M nt tm tmps [] kd → (∀ x ∈ pre, ∀ b, kd x.2.1 = some b → base ≤ b) → base ≤ M.next →
    ∃ tm' M' kd', s' = ⟨⟨c, tm', k⟩, stk, M'⟩ ∧ Rep V.P V.G N φ M' w ∧ PR V ops L φ M' nt tm' tmps [] kd' ∧ (∀ y ∈ L, y.2.2.1 = true) ∧ (∀ x ∈ L, ∀ b, kd' x.2.1 = some b → base ≤ b) ∧
      M.next ≤ M'.next ∧ ∀ b, b < M.next → M'.heap.get b = M.heap.get b
  | [], done, pre, tm, M, kd, hsp, hf, h, R, pr, hb, hbase => by
    unfold mkPlanGo planA goA at h
    cases h
    rw [List.append_nil] at hsp
    subst hsp
    exact ⟨tm, M, kd, rfl, R, pr, hf, hb, Nat.le_refl _, fun b _ => rfl⟩
  | (o, i, f, bits) :: post, done, pre, tm, M, kd, hsp, hf, h, R, pr, hb, hbase => by
    unfold mkPlanGo planA at h
    simp only at h
    have hsp' : L = (pre ++ [(o, i, f, bits)]) ++ post := by rw [hsp]; simp
    cases f with
    | false => cases h
    | true =>
      have hfl : (o, i, true, bits).2.2.1 = true := rfl
      have hf' : ∀ y ∈ pre ++ [(o, i, true, bits)], y.2.2.1 = true := by
        intro y hy
        rcases List.mem_append.1 hy with hy | hy
        · exact hf y hy
        · rw [List.mem_singleton.1 hy]
      simp only at h
      -- the rest, from the state behind this one
      have go : ∀ (kx : Option Nat) (M' : Mem) (tm' : T AV) (va : AV), putT nt tm o.dst va = some tm' → ((M' = M ∧ kx = none) ∨ (∃ r, M.push (.row r) = some M' ∧ kx = some M.next)) → Rep V.P V.G N φ M' w →
          (sees ops.toList tm tm' o → Pend V ops.toList φ M' nt tm' o kx) → planA V c stk ops.toList k (mkPlanGo ((o, i, true, bits) :: done) post) tm' M' = some s' →
          ∃ tm' M' kd', s' = ⟨⟨c, tm', k⟩, stk, M'⟩ ∧ Rep V.P V.G N φ M' w ∧ PR V ops L φ M' nt tm' tmps [] kd' ∧ (∀ y ∈ L, y.2.2.1 = true) ∧ (∀ x ∈ L, ∀ b, kd' x.2.1 = some b → base ≤ b) ∧
            M.next ≤ M'.next ∧ ∀ b, b < M.next → M'.heap.get b = M.heap.get b := by
        intro kx M' tm' va hput hM R' hx hrest
        have pr' := addP (x := (o, i, true, bits)) hV hL hsp hf hfl R pr hput kx hM hx
        have hnx : M.next ≤ M'.next ∧ ∀ b, b < M.next → M'.heap.get b = M.heap.get b := by
          rcases hM with ⟨rfl, _⟩ | ⟨r, hp, _⟩
          · exact ⟨Nat.le_refl _, fun _ _ => rfl⟩
          · obtain ⟨p1, p2, p3⟩ := push_spec hp
            exact ⟨by omega, fun b hb => by rw [p3, if_neg (by omega)]⟩
        obtain ⟨tm2, M2, kd2, g1, g2, g3, g4, g5, g6, g7⟩ := planA_ok hnt post _ (pre ++ [(o, i, true, bits)]) tm' M' _ hsp' hf' hrest R' pr' (fun y hy b hb' => by
          rcases List.mem_append.1 hy with hy' | hy'
          · have hne := hL.ne
            rw [hsp, List.pairwise_append] at hne
            simp only [if_neg (hne.2.2 y hy' (o, i, true, bits) (by simp))] at hb'
            exact hb y hy' b hb'
          · rw [List.mem_singleton.1 hy'] at hb'
            simp only [if_true] at hb'
            rcases hM with ⟨_, e⟩ | ⟨_, _, e⟩
            · rw [hb'] at e; cases e
            · rw [hb'] at e; rw [Option.some.inj e]; exact hbase) (Nat.le_trans hbase hnx.1)
        exact ⟨tm2, M2, kd2, g1, g2, g3, g4, g5, Nat.le_trans hnx.1 g6, fun b hb => (g7 b (by omega)).trans (hnx.2 b hb)⟩
      split at h
      · rename_i hw
        split at h
        · rename_i v M' hv
          split at h
          · rename_i tm' hput
            rw [hnt] at hput
            obtain ⟨hget, hdlt⟩ := putT_spec hput
            have hdst : ∀ d, o.dst = some d → d < nt ∧ tm'.get d = some v := fun d hd => ⟨hdlt d hd, by rw [hget, if_pos hd]⟩
            unfold viaF at hv
            split at hv
            · rename_i v' hv'
              cases hv
              exact go none _ tm' v hput (.inl ⟨rfl, rfl⟩) R (fun hs => .inr (.inl ⟨by rw [sees_wanted hs]; exact hw, rfl, v, by rw [fA_congr (sees_eval hs)]; exact hv', hdst⟩)) h
            · rename_i v' r hv'
              obtain ⟨rfl, hp⟩ := rMem_inv hv
              have R' := R.absPush hp (fA_lone hv')
              exact go (some M.next) M' tm' v hput (.inr ⟨r, hp, rfl⟩) R' (fun hs => .inr (.inr ⟨by rw [sees_wanted hs]; exact hw, M.next, M, v, r, rfl, by rw [fA_congr (sees_eval hs)]; exact hv', rfl,
                R.fresh (Nat.le_refl _), by rw [(push_spec hp).2.2, if_pos rfl], hdst⟩)) h
            · cases hv
          · cases h
        · cases h
      · rename_i hw
        split at h
        · rename_i tm' hput
          rw [hnt] at hput
          obtain ⟨hget, hdlt⟩ := putT_spec hput
          exact go none M tm' undefA hput (.inl ⟨rfl, rfl⟩) R (fun hs => .inl ⟨by rw [sees_wanted hs]; exact hw, rfl, fun d hd => ⟨hdlt d hd, by rw [hget, if_pos hd]⟩⟩) h
        · cases h
      · cases h

end

/-- A drawn region is carried out. -/
theorem draw_ok {V : Env} (hV : EnvOk V) {ops : Array Oper} {N : Nat} {φ : Emb} {M : Mem} {w : World} {tm : T AV} {tmps : Array Value} {c : ACtx} {stk : List AFrame} {k : List AItem} {s' : St} (R : Rep V.P V.G N φ M w) (ht : TmRel φ c.nt tm tmps)
    (h : regionA V c tm stk M ops.toList true k = some s') {fr : Frame} (hm : fr.mode = .run) (cs : List Frame) (kc : List Item) (id : Nat) :
    ∃ tm' M' φ' tmps' w', s' = ⟨⟨c, tm', k⟩, stk, M'⟩ ∧ Steps V.P (Go.lone (on fr tmps (.code (.region id ops true) :: kc)) cs w) (Go.lone (on fr tmps' kc) cs w') ∧ Rep V.P V.G N φ' M' w' ∧ TmRel φ' c.nt tm' tmps' ∧
      Ext φ M φ' ∧ Kept N w w' ∧ Unm φ M M' := by
  unfold regionA at h
  simp only at h
  cases hp : planOk ops.toList
  · rw [hp] at h; cases h
  · rw [hp, cond_true] at h
    obtain ⟨hL, hall⟩ := planOk_spec hp
    obtain ⟨t, hstep⟩ := on_regionDraw (P := V.P) (cs := cs) (w := w) (k := kc) (id := id) (ops := ops) (tmps := tmps) hm
    have R' : Rep V.P V.G N φ M { w with drawn := w.drawn + 1 } := R.drawn rfl
    have pr : PR V ops [] φ M c.nt tm tmps [] (fun _ => none) := ⟨fun i hi => (by cases hi), ht.1, fun t v hv _ => ht.2 t v hv, fun x hx => (by cases hx), fun x hx => (by cases hx)⟩
    obtain ⟨tm', M', kd', h1, h2, h3, h4, h5, h6, h7⟩ := planA_ok hV hL (tmps := tmps) (base := M.next) rfl (planOf ops) [] [] tm M (fun _ => none) rfl (fun y hy => (by cases hy)) h R' pr (fun y hy => (by cases hy)) (Nat.le_refl _)
    obtain ⟨φ', tmps', w', g1, g2, g3, g4, g5, g6⟩ := catchAll hV hL (fun x hx => hx) hm cs kc h4 hL.full _ [] φ _ tmps h2 h3 (schedule_valid hL.back hall (V.P.follows .mixedOrders) t)
    refine ⟨tm', M', φ', tmps', w', h1, .head hstep g1, g2, g3, ⟨g4, fun b hb hn => g5 b hn (fun x hx e => ?_)⟩, (kept_drawn N w).trans g6, ⟨h6, fun b hb _ => h7 b hb⟩⟩
    have := h5 x hx b e
    omega

end Go.Proofs.Ytcpffiihdnecjaa.Ev
