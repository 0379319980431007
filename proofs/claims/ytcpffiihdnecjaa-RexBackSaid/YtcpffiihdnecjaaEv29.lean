/- The evaluator: a drawn region: what has been looked at ahead is carried out later. -/
import Derived.Test.YtcpffiihdnecjaaEv28
namespace Go.Proofs.Ytcpffiihdnecjaa.Ev
set_option linter.unusedSectionVars false
set_option linter.unusedSimpArgs false
set_option linter.unusedVariables false
open Go

noncomputable def Slots (φ : Emb) (tm : T AV) (tmps : Array Value) : Prop := ∀ t v, tm.get t = some v → ∃ u, tmps[t]? = some u ∧ VRel φ v u

theorem Slots.ops {φ : Emb} {tm : T AV} {tmps : Array Value} (h : Slots φ tm tmps) : OpRel φ tm (ev tmps) :=
  TmRel.ops (nt := tmps.size) (a := ⟨tmps, []⟩) ⟨rfl, h⟩

theorem wanted_ok {φ : Emb} {tm : T AV} {tmps : Array Value} (h : Slots φ tm tmps) {ops : Array Oper} {o : Oper} {b : Bool} (hw : wantedA ops.toList tm o = some b) : Region.wanted o (yielded ops tmps) = b := by
  unfold wantedA at hw
  unfold Region.wanted
  split at hw
  · rename_i hg
    rw [hg]; cases hw; rfl
  · rename_i j want hg
    rw [hg]
    split at hw
    · rename_i p hp
      rw [Array.getElem?_toList] at hp
      unfold wantedA1 at hw
      split at hw
      · rename_i d hd
        have hy : ∀ u, tmps[d]? = some u → yielded ops tmps j = (match u with | .bool b => some b | _ => none) := by
          intro u hu
          unfold yielded
          rw [hp, Option.bind_some, hd, Option.bind_some, hu]
          cases u <;> rfl
        split at hw
        · rename_i b' hb
          obtain ⟨u, hu, hr⟩ := h _ _ hb
          cases hr
          cases hw
          simp only [hy _ hu]
          cases b' <;> cases want <;> rfl
        · rename_i hb
          obtain ⟨u, hu, hr⟩ := h _ _ hb
          cases hr
          cases hw
          simp only [hy _ hu]
          cases want <;> rfl
        · cases hw
      · cases hw
    · cases hw

/-- An operation that has been looked at ahead. -/
noncomputable def Pend (V : Env) (all : List Oper) (φ : Emb) (M : Mem) (nt : Nat) (tm : T AV) (o : Oper) (kd : Option Nat) : Prop :=
  (wantedA all tm o = some false ∧ kd = none ∧ ∀ d, o.dst = some d → d < nt ∧ tm.get d = some undefA) ∨
  (wantedA all tm o = some true ∧ kd = none ∧ ∃ v, fA V tm M o.op = .val v ∧ ∀ d, o.dst = some d → d < nt ∧ tm.get d = some v) ∨
  (wantedA all tm o = some true ∧ ∃ b M0 v r, kd = some b ∧ fA V tm M0 o.op = .row v r ∧ M0.next = b ∧ φ b = none ∧ M.heap.get b = some (.row r) ∧ ∀ d, o.dst = some d → d < nt ∧ tm.get d = some v)

/-- Where a drawn region stands: what has been carried out (D), what has been looked at ahead. -/
structure PRq (ops : Array Oper) (pre : List Ent) (φ : Emb) (nt : Nat) (tm : T AV) (tmps : Array Value) (D : List Nat) (kd : Nat → Option Nat) (Q : Oper → Option Nat → Prop) : Prop where
  sub : ∀ i, i ∈ D → ∃ y ∈ pre, y.2.1 = i
  anch : ∀ y ∈ pre, y.2.1 ∉ D → y.2.2.1 = true
  closed : ∀ i, i ∈ D → ∀ b l f, (infOf ops)[i]? = some (b, l, f) → ∀ j, b.testBit j = true → j ∈ D
  size : tmps.size = nt
  slots : ∀ t v, tm.get t = some v → (∀ x ∈ pre, x.2.1 ∉ D → x.1.dst ≠ some t) → ∃ u, tmps[t]? = some u ∧ VRel φ v u
  bound : ∀ x ∈ pre, x.2.1 ∉ D → ∀ t, x.1.dst = some t → t < nt
  pend : ∀ x ∈ pre, x.2.1 ∉ D → Q x.1 (kd x.2.1)
  inj : ∀ x ∈ pre, ∀ y ∈ pre, x.2.1 ∉ D → y.2.1 ∉ D → x.2.1 ≠ y.2.1 → ∀ b, kd x.2.1 = some b → kd y.2.1 ≠ some b

abbrev PR (V : Env) (ops : Array Oper) (pre : List Ent) (φ : Emb) (M : Mem) (nt : Nat) (tm : T AV) (tmps : Array Value) (D : List Nat) (kd : Nat → Option Nat) : Prop :=
  PRq ops pre φ nt tm tmps D kd (Pend V ops.toList φ M nt tm)

section
variable {V : Env} (hV : EnvOk V) {ops : Array Oper} {L pre : List Ent} (hL : Plan ops L) (hsub : ∀ x ∈ pre, x ∈ L) {N : Nat} {φ : Emb} {M : Mem} {w : World} {nt : Nat} {tm : T AV} {tmps : Array Value} {D : List Nat} {kd : Nat → Option Nat}
include hV hL hsub

omit hV hsub in
theorem ent_eq {x y : Ent} (hx : x ∈ L) (hy : y ∈ L) (h : x.2.1 = y.2.1) : x = y := by
  obtain ⟨a, l, b⟩ := hL.here x hx
  obtain ⟨a', l', b'⟩ := hL.here y hy
  rw [h, a'] at a
  rw [h, b'] at b
  obtain ⟨o, i, f, bits⟩ := x
  obtain ⟨o', i', f', bits'⟩ := y
  cases a; cases b
  simp only at h
  rw [h]

theorem next_closed {x : Ent} (hx : x ∈ L) {l : List Nat} (hcl : ∀ i, i ∈ D → ∀ b l f, (infOf ops)[i]? = some (b, l, f) → ∀ j, b.testBit j = true → j ∈ D) (hv : Valid ops D (x.2.1 :: l)) :
    ∀ j, x.2.2.2.testBit j = true → j ∈ D := by
  obtain ⟨ho, lv, hinf⟩ := hL.here x hx
  intro j hj
  obtain ⟨e, he, hb, h⟩ := hL.dep _ _ ho _ _ _ hinf j hj
  have heD := hv.2.2.1 _ ho e he hb
  rcases h with rfl | ⟨b', l', f', h1, h2⟩
  · exact heD
  · exact hcl _ heD _ _ _ h1 j h2

/-- What the next operation looks at is there. -/
theorem pend_sees {Q : Oper → Option Nat → Prop} (pr : PRq ops pre φ nt tm tmps D kd Q) {x : Ent} (hx : x ∈ L) (hD : x.2.1 ∉ D) (hcl : ∀ j, x.2.2.2.testBit j = true → j ∈ D) (hord : ∀ y ∈ pre, PairOk ops.toList y x ∨ x ∈ pre) :
    ∃ tmc, Slots φ tmc tmps ∧ sees ops.toList tm tmc x.1 := by
  classical
  let bad : Nat → Prop := fun t => ∃ y ∈ pre, y.2.1 ∉ D ∧ y.1.dst = some t
  let f : Nat → Option AV := fun t => if bad t then none else tm.get t
  have lt : ∀ t v, tm.get t = some v → t < nt := by
    intro t v h
    by_cases hb : bad t
    · obtain ⟨y, hy, hyD, hyd⟩ := hb
      exact pr.bound y hy hyD t hyd
    · obtain ⟨u, hu, _⟩ := pr.slots t v h (fun y hy hyD hyd => hb ⟨y, hy, hyD, hyd⟩)
      have := (Array.getElem?_eq_some_iff.1 hu).1
      rw [pr.size] at this
      exact this
  have fv : ∀ t v, f t = some v → tm.get t = some v ∧ ¬ bad t := by
    intro t v h
    by_cases hb : bad t
    · simp only [f, if_pos hb] at h; cases h
    · simp only [f, if_neg hb] at h; exact ⟨h, hb⟩
  refine ⟨T.ofF nt f, fun t v h => ?_, fun t ht => ?_⟩
  · obtain ⟨h1, h2⟩ := fv t v (T.ofF_some _ _ _ _ h)
    exact pr.slots t v h1 (fun y hy hyD hyd => h2 ⟨y, hy, hyD, hyd⟩)
  · have good : ¬ bad t := by
      rintro ⟨y, hy, hyD, hyd⟩
      have hyf := pr.anch y hy hyD
      have before : PairOk ops.toList y x → False := by
        intro h
        rcases h hyf with ⟨h1, _⟩ | h2
        · exact hyD (hcl _ h1)
        · exact h2.2 t hyd ht
      rcases hord y hy with h | hxp
      · exact before h
      · have hxf := pr.anch x hxp hD
        rcases pair_cases hL.pair x hx y (hsub y hy) with rfl | h | h
        · exact hL.self x hx hxf t hyd ht
        · rcases h hxf with ⟨_, h2⟩ | h2
          · exact (h2 hyf t hyd).1 ht
          · exact (h2.1 t hyd).1 ht
        · exact before h
    have ft : f t = tm.get t := by simp only [f, if_neg good]
    cases hg : tm.get t with
    | none =>
      cases ho : (T.ofF nt f).get t with
      | none => rfl
      | some v =>
        have := (fv t v (T.ofF_some _ _ _ _ ho)).1
        rw [hg] at this; cases this
    | some v =>
      have hlt := lt t v hg
      rw [T.ofF_get, ft, hg]
      exact Nat.lt_of_le_of_lt (by omega) (Nat.lt_two_pow_self (n := nt))

theorem putV_get {d : Option Tmp} {v : Value} {t : Nat} : (putV tmps d v)[t]? = if d = some t ∧ t < tmps.size then some v else tmps[t]? := by
  cases d with
  | none => rw [putV_none, if_neg (by simp)]
  | some d =>
    rw [putV_some]
    by_cases h : d = t
    · subst h
      by_cases hlt : d < tmps.size
      · rw [if_pos ⟨rfl, hlt⟩, Array.getElem?_setIfInBounds_self_of_lt hlt]
      · have hge : tmps.size ≤ d := Nat.le_of_not_lt hlt
        rw [if_neg (fun e => hlt e.2), Array.getElem?_eq_none (by rw [Array.size_setIfInBounds]; exact hge), Array.getElem?_eq_none hge]
    · rw [if_neg (fun e => h (by simpa using e.1)), Array.getElem?_setIfInBounds_ne h]

theorem catch1 (R : Rep V.P V.G N φ M w) (pr : PR V ops pre φ M nt tm tmps D kd) {x : Ent} (hx : x ∈ pre) {l : List Nat} (hv : Valid ops D (x.2.1 :: l))
    {fr : Frame} (hm : fr.mode = .run) (cs : List Frame) (k : List Item) :
    ∃ φ' tmps' w', Steps V.P (Go.lone (on fr tmps (.inRegion ops (x.2.1 :: l) :: k)) cs w) (Go.lone (on fr tmps' (.inRegion ops l :: k)) cs w') ∧ Rep V.P V.G N φ' M w' ∧ PR V ops pre φ' M nt tm tmps' (x.2.1 :: D) kd ∧
      φ.le φ' ∧ (∀ b, φ b = none → kd x.2.1 ≠ some b → φ' b = none) ∧ Kept N w w' := by
  obtain ⟨ho, lv, hinf⟩ := hL.here x (hsub x hx)
  have hcl := next_closed hV hL hsub (hsub x hx) pr.closed hv
  obtain ⟨hlt, hD, hdep, _⟩ := hv
  obtain ⟨tmc, hs, hsee⟩ := pend_sees hV hL hsub pr (hsub x hx) hD hcl (fun _ _ => .inr hx)
  have hops := hs.ops
  -- what follows when its value has been laid
  have fin : ∀ (φ' : Emb) (q : Value) (va : AV), φ.le φ' → (∀ b, φ b = none → kd x.2.1 ≠ some b → φ' b = none) → VRel φ' va q → (∀ d, x.1.dst = some d → d < nt ∧ tm.get d = some va) →
      PR V ops pre φ' M nt tm (putV tmps x.1.dst q) (x.2.1 :: D) kd := by
    intro φ' q va hle hnone hq hd
    refine ⟨fun i hi => ?_, fun y hy hyD => pr.anch y hy (fun h => hyD (List.mem_cons_of_mem _ h)), fun i hi b l f hb j hj => ?_, by rw [putV_size]; exact pr.size, fun t v hv hn => ?_,
      fun y hy hyD => pr.bound y hy (fun h => hyD (List.mem_cons_of_mem _ h)), fun y hy hyD => ?_, fun y hy z hz hyD hzD => ?_⟩
    · rcases List.mem_cons.1 hi with rfl | hi
      · exact ⟨x, hx, rfl⟩
      · exact pr.sub i hi
    · rcases List.mem_cons.1 hi with rfl | hi
      · rw [hinf] at hb
        cases hb
        exact List.mem_cons_of_mem _ (hcl j hj)
      · exact List.mem_cons_of_mem _ (pr.closed i hi b l f hb j hj)
    · rw [putV_get hV hL hsub]
      by_cases ht : x.1.dst = some t
      · obtain ⟨h1, h2⟩ := hd t ht
        rw [if_pos ⟨ht, by rw [pr.size]; exact h1⟩]
        rw [h2] at hv
        cases hv
        exact ⟨q, rfl, hq⟩
      · rw [if_neg (fun e => ht e.1)]
        obtain ⟨u, hu, hr⟩ := pr.slots t v hv (fun y hy hyD => by
          by_cases e : y.2.1 = x.2.1
          · rw [ent_eq hL (hsub y hy) (hsub x hx) e]; exact ht
          · exact hn y hy (fun h => (List.mem_cons.1 h).elim e hyD))
        exact ⟨u, hu, hr.mono hle⟩
    · have hyD' : y.2.1 ∉ D := fun h => hyD (List.mem_cons_of_mem _ h)
      have hne : x.2.1 ≠ y.2.1 := fun h => hyD (by rw [← h]; simp)
      rcases pr.pend y hy hyD' with h | h | ⟨h1, b, M0, v, r, h2, h3, h4, h5, h6, h7⟩
      · exact .inl h
      · exact .inr (.inl h)
      · exact .inr (.inr ⟨h1, b, M0, v, r, h2, h3, h4, hnone b h5 (fun e => pr.inj x hx y hy hD hyD' hne b e h2), h6, h7⟩)
    · exact pr.inj y hy z hz (fun h => hyD (List.mem_cons_of_mem _ h)) (fun h => hzD (List.mem_cons_of_mem _ h))
  rcases pr.pend x hx hD with ⟨h1, h2, h3⟩ | ⟨h1, h2, v, h3, h4⟩ | ⟨h1, b, M0, v, r, h2, h3, h4, h5, h6, h7⟩
  · rw [← sees_wanted hsee] at h1
    exact ⟨φ, _, w, .one (step_not hm ho (wanted_ok hs h1)), R, fin φ undef undefA φ.le_refl (fun b h _ => h) (undef_rel φ) h3, φ.le_refl, fun b h _ => h, .refl _ _⟩
  · rw [← sees_wanted hsee] at h1
    rw [← fA_congr (sees_eval hsee)] at h3
    obtain ⟨q, q1, q2⟩ := fA_val hV R hops h3
    exact ⟨φ, _, w, .one (step_val hm ho (wanted_ok hs h1) q1 (.inl rfl)), R, fin φ q v φ.le_refl (fun b h _ => h) q2 h4, φ.le_refl, fun b h _ => h, .refl _ _⟩
  · rw [← sees_wanted hsee] at h1
    rw [← fA_congr (sees_eval hsee)] at h3
    subst h4
    obtain ⟨u, obj, lc, q1, q2, q3, q4, q5, q6⟩ := fA_late hV hops R h3 h5 h6
    have hnone : ∀ b, φ b = none → kd x.2.1 ≠ some b → (φ.with M0.next lc) b = none := by
      intro b hb hk
      rw [h2] at hk
      rw [Emb.with_other _ (fun e => hk (by rw [e]))]
      exact hb
    exact ⟨_, _, _, .one (step_val hm ho (wanted_ok hs h1) q1 (.inl rfl)), q2, fin _ u v q5 hnone q3 h7, q5, hnone, q6⟩


/-- All that is left, when nothing but that is left. -/
theorem catchAll {fr : Frame} (hm : fr.mode = .run) (cs : List Frame) (k : List Item) (hfull : ∀ i, i < ops.size → ∃ x ∈ pre, x.2.1 = i) :
    ∀ (l : List Nat) (D : List Nat) (φ : Emb) (w : World) (tmps : Array Value), Rep V.P V.G N φ M w → PR V ops pre φ M nt tm tmps D kd → Valid ops D l →
      ∃ φ' tmps' w', Steps V.P (Go.lone (on fr tmps (.inRegion ops l :: k)) cs w) (Go.lone (on fr tmps' k) cs w') ∧ Rep V.P V.G N φ' M w' ∧ TmRel φ' nt tm tmps' ∧
        φ.le φ' ∧ (∀ b, φ b = none → (∀ x ∈ pre, x.2.1 ∉ D → kd x.2.1 ≠ some b) → φ' b = none) ∧ Kept N w w'
  | [], D, φ, w, tmps, R, pr, hv => by
    refine ⟨φ, tmps, w, .one (on_regionEnd hm), R, ⟨pr.size, fun t v h => pr.slots t v h (fun x hx hD => ?_)⟩, φ.le_refl, fun b h _ => h, .refl _ _⟩
    exact absurd (hv _ (Array.getElem?_eq_some_iff.1 (hL.here x (hsub x hx)).1).1) hD
  | i :: l, D, φ, w, tmps, R, pr, hv => by
    obtain ⟨x, hx, rfl⟩ := hfull i hv.1
    obtain ⟨φ1, tmps1, w1, h1, h2, h3, h4, h5, h6⟩ := catch1 hV hL hsub R pr hx hv hm cs k
    obtain ⟨φ2, tmps2, w2, g1, g2, g3, g4, g5, g6⟩ := catchAll hm cs k hfull l _ φ1 w1 tmps1 h2 h3 hv.2.2.2
    exact ⟨φ2, tmps2, w2, h1.trans g1, g2, g3, Emb.le_trans h4 g4, fun b hb hn => g5 b (h5 b hb (hn x hx hv.2.1)) (fun z hz hzD => hn z hz (fun h => hzD (List.mem_cons_of_mem _ h))), h6.trans g6⟩


/-- What stands ahead of an anchored one is carried out. -/
theorem catchTo {post : List Ent} {x : Ent} (hsp : L = pre ++ x :: post) (hxf : x.2.2.1 = false) {fr : Frame} (hm : fr.mode = .run) (cs : List Frame) (k : List Item) :
    ∀ (l : List Nat) (D : List Nat) (φ : Emb) (w : World) (tmps : Array Value), Rep V.P V.G N φ M w → PR V ops pre φ M nt tm tmps D kd → Valid ops D l →
      ∃ φ' tmps' w' D' l', Steps V.P (Go.lone (on fr tmps (.inRegion ops l :: k)) cs w) (Go.lone (on fr tmps' (.inRegion ops (x.2.1 :: l') :: k)) cs w') ∧ Rep V.P V.G N φ' M w' ∧ PR V ops pre φ' M nt tm tmps' D' kd ∧
        Valid ops D' (x.2.1 :: l') ∧ φ.le φ' ∧ (∀ b, φ b = none → (∀ y ∈ pre, y.2.1 ∉ D → kd y.2.1 ≠ some b) → φ' b = none) ∧ Kept N w w' ∧ (∀ j, j ∈ D → j ∈ D')
  | [], D, φ, w, tmps, R, pr, hv => by
    exfalso
    have hxL : x ∈ L := by rw [hsp]; simp
    have hi := (Array.getElem?_eq_some_iff.1 (hL.here x hxL).1).1
    obtain ⟨y, hy, e⟩ := pr.sub _ (hv _ hi)
    have hne := hL.ne
    rw [hsp, List.pairwise_append] at hne
    exact hne.2.2 y hy x (by simp) e
  | i :: l, D, φ, w, tmps, R, pr, hv => by
    have hxL : x ∈ L := by rw [hsp]; simp
    by_cases hix : i = x.2.1
    · subst hix
      exact ⟨φ, tmps, w, D, l, .refl _ _, R, pr, hv, φ.le_refl, fun b h _ => h, .refl _ _, fun j h => h⟩
    · obtain ⟨y, hy, rfl⟩ := hL.full i hv.1
      have hne := hL.ne
      have hlast := hL.last
      rw [hsp, List.pairwise_append] at hne hlast
      have hxD : x.2.1 ∉ D := fun h => by
        obtain ⟨z, hz, e⟩ := pr.sub _ h
        exact hne.2.2 z hz x (by simp) e
      have hyp : y ∈ pre := by
        rw [hsp] at hy
        rcases List.mem_append.1 hy with h | h
        · exact h
        · exfalso
          rcases List.mem_cons.1 h with rfl | h
          · exact hix rfl
          · have := (List.pairwise_cons.1 hlast.2.1).1 y h hxf
            exact hxD (next_closed hV hL hsub (x := y) (by rw [hsp]; simp [h]) pr.closed hv _ this)
      obtain ⟨φ1, tmps1, w1, h1, h2, h3, h4, h5, h6⟩ := catch1 hV hL hsub R pr hyp hv hm cs k
      obtain ⟨φ2, tmps2, w2, D2, l2, g1, g2, g3, g4, g5, g6, g7, g8⟩ := catchTo hsp hxf hm cs k l _ φ1 w1 tmps1 h2 h3 hv.2.2.2
      exact ⟨φ2, tmps2, w2, D2, l2, h1.trans g1, g2, g3, g4, Emb.le_trans h4 g5, fun b hb hn => g6 b (h5 b hb (hn y hyp hv.2.1)) (fun z hz hzD => hn z hz (fun h => hzD (List.mem_cons_of_mem _ h))), h6.trans g7,
        fun j hj => g8 j (List.mem_cons_of_mem _ hj)⟩

end
end Go.Proofs.Ytcpffiihdnecjaa.Ev
