/- The evaluator: a drawn region: an anchored operation's end. -/
import Derived.Test.YtcpffiihdnecjaaEv29
namespace Go.Proofs.Ytcpffiihdnecjaa.Ev
set_option linter.unusedSectionVars false
set_option linter.unusedSimpArgs false
set_option linter.unusedVariables false
open Go

theorem putT_spec {nt : Nat} {tm tm' : T AV} {d : Option Tmp} {v : AV} (h : putT nt tm d v = some tm') : (∀ t, tm'.get t = if d = some t then some v else tm.get t) ∧ ∀ e, d = some e → e < nt := by
  unfold putT at h
  cases d with
  | none => cases h; exact ⟨fun t => by rw [if_neg (by simp)], fun e he => by cases he⟩
  | some d =>
    simp only at h
    cases hb : Nat.blt d nt
    · rw [hb] at h; cases h
    · rw [hb, cond_true] at h
      refine ⟨fun t => ?_, fun e he => by cases he; exact blt_true hb⟩
      rw [T.set_get _ _ _ _ h]
      by_cases e : t = d
      · rw [if_pos e, if_pos (by rw [e])]
      · rw [if_neg e, if_neg (fun h => e (Option.some.inj h).symm)]

/-- An operation that has been looked at ahead, while another one is under way: what hangs on memory is looked at again behind it. -/
noncomputable def PendW (V : Env) (all : List Oper) (φ : Emb) (M : Mem) (nt : Nat) (tm : T AV) (o : Oper) (kd : Option Nat) : Prop :=
  (wantedA all tm o = some false ∧ kd = none ∧ ∀ d, o.dst = some d → d < nt ∧ tm.get d = some undefA) ∨
  (wantedA all tm o = some true ∧ kd = none ∧ ∃ v, (isRead o.op = true ∨ ∀ M, fA V tm M o.op = .val v) ∧ ∀ d, o.dst = some d → d < nt ∧ tm.get d = some v) ∨
  (wantedA all tm o = some true ∧ ∃ b M0 v r, kd = some b ∧ fA V tm M0 o.op = .row v r ∧ M0.next = b ∧ φ b = none ∧ M.heap.get b = some (.row r) ∧ ∀ d, o.dst = some d → d < nt ∧ tm.get d = some v)

theorem Pend.wait {V : Env} {all : List Oper} {φ : Emb} {M : Mem} {nt : Nat} {tm : T AV} {o : Oper} {kd : Option Nat} (h : Pend V all φ M nt tm o kd) : PendW V all φ M nt tm o kd := by
  rcases h with h | ⟨h1, h2, v, h3, h4⟩ | h
  · exact .inl h
  · refine .inr (.inl ⟨h1, h2, v, ?_, h4⟩)
    cases hr : isRead o.op with
    | true => exact .inl rfl
    | false => exact .inr (fun M' => fA_indep h3 hr M')
  · exact .inr (.inr h)

theorem PendW.later {V : Env} {all : List Oper} {φ φ' : Emb} {M M' : Mem} {nt : Nat} {tm : T AV} {o : Oper} {kd : Option Nat} (h : PendW V all φ M nt tm o kd)
    (hb : ∀ b r, kd = some b → φ b = none → M.heap.get b = some (.row r) → φ' b = none ∧ M'.heap.get b = M.heap.get b) : PendW V all φ' M' nt tm o kd := by
  rcases h with h | h | ⟨h1, b, M0, v, r, h2, h3, h4, h5, h6, h7⟩
  · exact .inl h
  · exact .inr (.inl h)
  · obtain ⟨a1, a2⟩ := hb b r h2 h5 h6
    exact .inr (.inr ⟨h1, b, M0, v, r, h2, h3, h4, a1, a2.trans h6, h7⟩)

theorem PRq.turn {ops : Array Oper} {pre : List Ent} {φ φ' : Emb} {nt : Nat} {tm : T AV} {tmps : Array Value} {D : List Nat} {kd : Nat → Option Nat} {Q Q' : Oper → Option Nat → Prop} (pr : PRq ops pre φ nt tm tmps D kd Q) (hle : φ.le φ')
    (h : ∀ x ∈ pre, x.2.1 ∉ D → Q x.1 (kd x.2.1) → Q' x.1 (kd x.2.1)) : PRq ops pre φ' nt tm tmps D kd Q' :=
  ⟨pr.sub, pr.anch, pr.closed, pr.size, fun t v hv hn => let ⟨u, hu, hr⟩ := pr.slots t v hv hn; ⟨u, hu, hr.mono hle⟩, pr.bound, fun x hx hD => h x hx hD (pr.pend x hx hD), pr.inj⟩

/-- What is looked at again behind an anchored operation. -/
noncomputable def reOf (done : List Ent) (bits : Nat) : List Oper := done.filterMap fun (p, j, g, _) => if g && isRead p.op && !bits.testBit j then some p else none

section
variable {V : Env} (hV : EnvOk V) {ops : Array Oper} {L : List Ent} (hL : Plan ops L) {N : Nat} {φ : Emb} {w : World} {nt : Nat} {tmps : Array Value} {D : List Nat}
include hV hL

theorem addP {pre post : List Ent} {x : Ent} (hsp : L = pre ++ x :: post) (hxf : x.2.2.1 = true) {M M' : Mem} {tm tm' : T AV} {kd : Nat → Option Nat} (R : Rep V.P V.G N φ M w)
    (pr : PR V ops pre φ M nt tm tmps D kd) {va : AV} (hput : putT nt tm x.1.dst va = some tm') (kx : Option Nat)
    (hM : (M' = M ∧ kx = none) ∨ (∃ r, M.push (.row r) = some M' ∧ kx = some M.next)) (hx : sees ops.toList tm tm' x.1 → Pend V ops.toList φ M' nt tm' x.1 kx) :
    PR V ops (pre ++ [x]) φ M' nt tm' tmps D (fun i => if i = x.2.1 then kx else kd i) := by
  obtain ⟨hget, hdlt⟩ := putT_spec hput
  have hxL : x ∈ L := by rw [hsp]; simp
  have hpw := hL.pair
  have hne := hL.ne
  rw [hsp, List.pairwise_append] at hpw hne
  have hself := hL.self x hxL hxf
  have hxD : x.2.1 ∉ D := fun h => by
    obtain ⟨z, hz, e⟩ := pr.sub _ h
    exact hne.2.2 z hz x (by simp) e
  have hnei : ∀ y ∈ pre, y.2.1 ≠ x.2.1 := fun y hy => hne.2.2 y hy x (by simp)
  have hbeh : ∀ y ∈ pre, y.2.1 ∉ D → Behind ops.toList y.1 x.1 := by
    intro y hy hyD
    rcases hpw.2.2 y hy x (by simp) (pr.anch y hy hyD) with ⟨_, h⟩ | h
    · exact h hxf
    · exact h.1
  have hsees : ∀ y : Oper, (∀ d, x.1.dst = some d → d ∉ looks ops.toList y) → sees ops.toList tm tm' y := by
    intro y hy t ht
    rw [hget, if_neg (fun e => hy t e ht)]
  have hbn : ∀ y ∈ pre, y.2.1 ∉ D → ∀ b, kd y.2.1 = some b → b < M.next := by
    intro y hy hyD b hb
    rcases pr.pend y hy hyD with ⟨_, h, _⟩ | ⟨_, h, _⟩ | ⟨_, b', M0, v, r, h2, _, _, _, h6, _⟩
    · rw [hb] at h; cases h
    · rw [hb] at h; cases h
    · rw [hb] at h2; cases h2
      exact R.top _ _ h6
  refine ⟨fun i hi => (let ⟨y, hy, e⟩ := pr.sub i hi; ⟨y, by simp [hy], e⟩), fun y hy hyD => ?_, pr.closed, pr.size, fun t v hv hn => ?_, fun y hy hyD => ?_, fun y hy hyD => ?_, fun y hy z hz hyD hzD hyz b hb => ?_⟩
  · rcases List.mem_append.1 hy with hy | hy
    · exact pr.anch y hy hyD
    · rw [List.mem_singleton.1 hy]; exact hxf
  · rw [hget] at hv
    have : x.1.dst ≠ some t := hn x (by simp) hxD
    rw [if_neg this] at hv
    exact pr.slots t v hv (fun y hy hyD => hn y (by simp [hy]) hyD)
  · rcases List.mem_append.1 hy with hy | hy
    · exact pr.bound y hy hyD
    · rw [List.mem_singleton.1 hy]; exact fun t ht => hdlt t ht
  · rcases List.mem_append.1 hy with hy | hy
    · have h1 := hbeh y hy hyD
      simp only [if_neg (hnei y hy)]
      have hs := hsees y.1 (fun d hd => (h1 d hd).1)
      have hd : ∀ (v : AV), (∀ d, y.1.dst = some d → d < nt ∧ tm.get d = some v) → ∀ d, y.1.dst = some d → d < nt ∧ tm'.get d = some v := by
        intro v h d hd
        obtain ⟨a, b⟩ := h d hd
        refine ⟨a, ?_⟩
        rw [hget, if_neg (fun e => (h1 d e).2 hd)]
        exact b
      rcases pr.pend y hy hyD with ⟨k1, k2, k3⟩ | ⟨k1, k2, v, k3, k4⟩ | ⟨k1, b, M0, v, r, k2, k3, k4, k5, k6, k7⟩
      · exact .inl ⟨by rw [sees_wanted hs]; exact k1, k2, hd _ k3⟩
      · refine .inr (.inl ⟨by rw [sees_wanted hs]; exact k1, k2, v, ?_, hd _ k4⟩)
        rw [fA_congr (sees_eval hs)]
        rcases hM with ⟨rfl, _⟩ | ⟨r, hp, _⟩
        · exact k3
        · exact fA_push hV R hp k3
      · refine .inr (.inr ⟨by rw [sees_wanted hs]; exact k1, b, M0, v, r, k2, ?_, k4, k5, ?_, hd _ k7⟩)
        · rw [fA_congr (sees_eval hs)]; exact k3
        · rcases hM with ⟨rfl, _⟩ | ⟨r', hp, _⟩
          · exact k6
          · rw [(push_spec hp).2.2, if_neg (by have := R.top _ _ k6; omega)]; exact k6
    · rw [List.mem_singleton.1 hy]
      simp only [if_true]
      exact hx (hsees x.1 hself)
  · have hkx : ∀ b, kx = some b → b = M.next := by
      intro b hb
      rcases hM with ⟨_, h⟩ | ⟨_, _, h⟩
      · rw [hb] at h; cases h
      · rw [hb] at h; exact Option.some.inj h
    rcases List.mem_append.1 hy with hy | hy
    · rw [if_neg (hnei y hy)] at hb
      rcases List.mem_append.1 hz with hz | hz
      · rw [if_neg (hnei z hz)]
        exact pr.inj y hy z hz hyD hzD hyz b hb
      · rw [List.mem_singleton.1 hz, if_pos rfl]
        intro e
        have := hbn y hy hyD b hb
        have := hkx b e
        omega
    · rw [List.mem_singleton.1 hy] at hb hyz
      rw [if_pos rfl] at hb
      rcases List.mem_append.1 hz with hz | hz
      · rw [if_neg (hnei z hz)]
        intro e
        have := hbn z hz hzD b e
        have := hkx b hb
        omega
      · exact absurd (by rw [List.mem_singleton.1 hz]) hyz

theorem settleQ {pre post : List Ent} {x : Ent} (hsp : L = pre ++ x :: post) {tm tm' : T AV} {kd : Nat → Option Nat} {Q Q' : Oper → Option Nat → Prop} (pr : PRq ops pre φ nt tm tmps D kd Q) {l : List Nat} (hv : Valid ops D (x.2.1 :: l))
    {v : AV} {u : Value} (hr : VRel φ v u) (hput : putT nt tm x.1.dst v = some tm')
    (hQ : ∀ y ∈ pre, y.2.1 ∉ D → y.2.2.1 = true → x.2.2.2.testBit y.2.1 = false → sees ops.toList tm tm' y.1 → (∀ d, y.1.dst = some d → tm'.get d = tm.get d) → Q y.1 (kd y.2.1) → Q' y.1 (kd y.2.1)) :
    PRq ops (pre ++ [x]) φ nt tm' (putV tmps x.1.dst u) (x.2.1 :: D) kd Q' := by
  obtain ⟨hget, hdlt⟩ := putT_spec hput
  have hxL : x ∈ L := by rw [hsp]; simp
  have hsub : ∀ y ∈ pre, y ∈ L := fun y hy => by rw [hsp]; simp [hy]
  have hpw := hL.pair
  have hne := hL.ne
  rw [hsp, List.pairwise_append] at hpw hne
  have hnei : ∀ y ∈ pre, y.2.1 ≠ x.2.1 := fun y hy => hne.2.2 y hy x (by simp)
  have hcl := next_closed hV hL hsub hxL pr.closed hv
  obtain ⟨ho, lv, hinf⟩ := hL.here x hxL
  have inpre : ∀ y ∈ pre ++ [x], y.2.1 ∉ x.2.1 :: D → y ∈ pre ∧ y.2.1 ∉ D := by
    intro y hy hyD
    rcases List.mem_append.1 hy with hy | hy
    · exact ⟨hy, fun h => hyD (List.mem_cons_of_mem _ h)⟩
    · rw [List.mem_singleton.1 hy] at hyD
      exact absurd List.mem_cons_self hyD
  refine ⟨fun i hi => ?_, fun y hy hyD => ?_, fun i hi b lv' f hb j hj => ?_, by rw [putV_size]; exact pr.size, fun t v' hv' hn => ?_, fun y hy hyD => ?_, fun y hy hyD => ?_, fun y hy z hz hyD hzD => ?_⟩
  · rcases List.mem_cons.1 hi with rfl | hi
    · exact ⟨x, by simp, rfl⟩
    · obtain ⟨y, hy, e⟩ := pr.sub i hi
      exact ⟨y, by simp [hy], e⟩
  · obtain ⟨h1, h2⟩ := inpre y hy hyD
    exact pr.anch y h1 h2
  · rcases List.mem_cons.1 hi with rfl | hi
    · rw [hinf] at hb
      cases hb
      exact List.mem_cons_of_mem _ (hcl j hj)
    · exact List.mem_cons_of_mem _ (pr.closed i hi b lv' f hb j hj)
  · rw [hget] at hv'
    rw [putV_get hV hL hsub]
    by_cases ht : x.1.dst = some t
    · rw [if_pos ht] at hv'
      cases hv'
      rw [if_pos ⟨ht, by rw [pr.size]; exact hdlt t ht⟩]
      exact ⟨u, rfl, hr⟩
    · rw [if_neg ht] at hv'
      rw [if_neg (fun e => ht e.1)]
      exact pr.slots t v' hv' (fun y hy hyD => hn y (by simp [hy]) (fun h => (List.mem_cons.1 h).elim (hnei y hy) hyD))
  · obtain ⟨h1, h2⟩ := inpre y hy hyD
    exact pr.bound y h1 h2
  · obtain ⟨h1, h2⟩ := inpre y hy hyD
    have hyf := pr.anch y h1 h2
    have hbit : x.2.2.2.testBit y.2.1 = false := by
      rw [← Bool.not_eq_true]
      exact fun h => h2 (hcl _ h)
    have hap : Apart ops.toList y.1 x.1 := by
      rcases hpw.2.2 y h1 x (by simp) hyf with ⟨h, _⟩ | h
      · rw [hbit] at h; cases h
      · exact h
    exact hQ y h1 h2 hyf hbit (fun t ht => by rw [hget, if_neg (fun e => (hap.1 t e).1 ht)]) (fun d hd => by rw [hget, if_neg (fun e => (hap.1 d e).2 hd)]) (pr.pend y h1 h2)
  · obtain ⟨h1, h2⟩ := inpre y hy hyD
    obtain ⟨h3, h4⟩ := inpre z hz hzD
    exact pr.inj y h1 z h3 h2 h4

omit hL in
theorem recheck_mem {tm : T AV} {M : Mem} {all : List Oper} : ∀ {re : List Oper}, recheckA V tm M all re = true → ∀ p ∈ re, recheck1 V tm M all p = true
  | [], _, p, hp => by cases hp
  | q :: r, h, p, hp => by
    unfold recheckA at h
    cases h1 : recheck1 V tm M all q
    · rw [h1] at h; cases h
    · rw [h1, cond_true] at h
      rcases List.mem_cons.1 hp with rfl | hp
      · exact h1
      · exact recheck_mem h p hp

/-- Behind an anchored operation that has come to a value. -/
theorem settle {pre post done : List Ent} {x : Ent} (hsp : L = pre ++ x :: post) (hdone : ∀ y ∈ pre, y ∈ done) {M : Mem} {tm tm' : T AV} {kd : Nat → Option Nat} (pr : PRq ops pre φ nt tm tmps D kd (PendW V ops.toList φ M nt tm)) {l : List Nat}
    (hv : Valid ops D (x.2.1 :: l)) {v : AV} {u : Value} (hr : VRel φ v u) (hput : putT nt tm x.1.dst v = some tm') (hre : recheckA V tm' M ops.toList (reOf done x.2.2.2) = true) :
    PR V ops (pre ++ [x]) φ M nt tm' (putV tmps x.1.dst u) (x.2.1 :: D) kd := by
  refine settleQ hV hL hsp pr hv hr hput ?_
  intro y hy hyD hyf hbit hs hd hq
  rcases hq with ⟨k1, k2, k3⟩ | ⟨k1, k2, v', k3, k4⟩ | ⟨k1, b, M0, v', r, k2, k3, k4, k5, k6, k7⟩
  · exact .inl ⟨by rw [sees_wanted hs]; exact k1, k2, fun d e => by rw [hd d e]; exact k3 d e⟩
  · rcases k3 with k3 | k3
    · have hmem : y.1 ∈ reOf done x.2.2.2 := by
        refine List.mem_filterMap.2 ⟨y, hdone y hy, ?_⟩
        obtain ⟨p, j, g, b⟩ := y
        simp only at hyf hbit k3 ⊢
        rw [hyf, hbit, k3]
        rfl
      have h1 := recheck_mem hV hre y.1 hmem
      unfold recheck1 at h1
      have hw : wantedA ops.toList tm' y.1 = some true := by rw [sees_wanted hs]; exact k1
      rw [hw] at h1
      simp only at h1
      split at h1
      · rename_i v2 hv2
        refine .inr (.inl ⟨hw, k2, v2, hv2, fun d e => ?_⟩)
        rw [e] at h1
        simp only at h1
        refine ⟨(k4 d e).1, ?_⟩
        split at h1
        · rename_i u2 hu2
          rw [hu2, same_eq h1]
        · cases h1
      · cases h1
    · refine .inr (.inl ⟨by rw [sees_wanted hs]; exact k1, k2, v', ?_, fun d e => by rw [hd d e]; exact k4 d e⟩)
      rw [fA_congr (sees_eval hs)]
      exact k3 M
  · refine .inr (.inr ⟨by rw [sees_wanted hs]; exact k1, b, M0, v', r, k2, ?_, k4, k5, k6, fun d e => by rw [hd d e]; exact k7 d e⟩)
    rw [fA_congr (sees_eval hs)]
    exact k3

/-- Behind an anchored operation that is not wanted. -/
theorem settle0 {pre post : List Ent} {x : Ent} (hsp : L = pre ++ x :: post) {M : Mem} {tm tm' : T AV} {kd : Nat → Option Nat} (pr : PR V ops pre φ M nt tm tmps D kd) {l : List Nat} (hv : Valid ops D (x.2.1 :: l))
    (hput : putT nt tm x.1.dst undefA = some tm') : PR V ops (pre ++ [x]) φ M nt tm' (putV tmps x.1.dst undef) (x.2.1 :: D) kd := by
  refine settleQ hV hL hsp pr hv (undef_rel φ) hput ?_
  intro y hy hyD hyf hbit hs hd hq
  rcases hq with ⟨k1, k2, k3⟩ | ⟨k1, k2, v', k3, k4⟩ | ⟨k1, b, M0, v', r, k2, k3, k4, k5, k6, k7⟩
  · exact .inl ⟨by rw [sees_wanted hs]; exact k1, k2, fun d e => by rw [hd d e]; exact k3 d e⟩
  · exact .inr (.inl ⟨by rw [sees_wanted hs]; exact k1, k2, v', by rw [fA_congr (sees_eval hs)]; exact k3, fun d e => by rw [hd d e]; exact k4 d e⟩)
  · exact .inr (.inr ⟨by rw [sees_wanted hs]; exact k1, b, M0, v', r, k2, by rw [fA_congr (sees_eval hs)]; exact k3, k4, k5, k6, fun d e => by rw [hd d e]; exact k7 d e⟩)

end
end Go.Proofs.Ytcpffiihdnecjaa.Ev
