/- The evaluator: conversions, lengths, and all that only computes or reads. -/
import Derived.Test.YtcpffiihdnecjaaEv10
import Derived.Laws.BytesString
namespace Go.Proofs.Ytcpffiihdnecjaa.Ev
set_option linter.unusedSectionVars false
set_option linter.unusedSimpArgs false
set_option linter.unusedVariables false
open Go

theorem push_bytes : ∀ (l : List UInt8) (s : ByteArray), ((l.map fun b => (b.toNat : Int)).foldl (fun r n => r.push (UInt8.ofNat n.toNat)) s).data.toList = s.data.toList ++ l
  | [], s => by simp
  | b :: l, s => by
    simp only [List.map_cons, List.foldl_cons]
    rw [push_bytes l]
    have : (s.push (UInt8.ofNat (b.toNat : Int).toNat)).data.toList = s.data.toList ++ [b] := by
      simp [ByteArray.push]
    rw [this, List.append_assoc]
    rfl

section
variable {V : Env} (hV : EnvOk V) {G N : Nat} {φ : Emb} {M : Mem} {w : World} (R : Rep V.P G N φ M w)
include hV

theorem lenA_ok {t ty : TypeId} {ts : Array TypeId} {a : AV} {u : Value} {v : AV} (hx : VRel φ a u) (ht : ts[0]? = some t) (h : lenA V t a = some v) :
    ∃ q, (Builtin.len_ ts ty #[u]).run V.P w = .ok q w ∧ VRel φ v q := by
  have h0 : (#[u] : Array Value)[0]? = some u := rfl
  unfold lenA at h
  split at h
  · rename_i hu
    split at h
    · cases h
      cases hx with
      | str s =>
        have h0 : (#[Value.string s] : Array Value)[0]? = some (.string s) := rfl
        exact ⟨_, by simp only [Builtin.len_, ht, h0, Sem.run_bind, run_underlying (und_of hV hu), Result.andThen_ok]; rfl, .int _ _⟩
    · cases h
  · rename_i hu
    cases h
    refine ⟨_, ?_, .int _ _⟩
    simp only [Builtin.len_, ht, h0, Sem.run_bind, run_underlying (und_of hV hu), Result.andThen_ok]
    cases hx <;> rfl
  · rename_i hu
    split at h
    · cases h
      refine ⟨_, ?_, .int _ _⟩
      simp only [Builtin.len_, ht, h0, Sem.run_bind, run_underlying (und_of hV hu), Result.andThen_ok]
      cases hx <;> rfl
    · cases h
      refine ⟨_, ?_, .int _ _⟩
      simp only [Builtin.len_, ht, h0, Sem.run_bind, run_underlying (und_of hV hu), Result.andThen_ok]
      cases hx
      rfl
    · cases h
  · cases h

theorem capA_ok {t ty : TypeId} {ts : Array TypeId} {a : AV} {u : Value} {v : AV} (hx : VRel φ a u) (ht : ts[0]? = some t) (h : capA V t a = some v) :
    ∃ q, (Builtin.cap_ ts ty #[u]).run V.P w = .ok q w ∧ VRel φ v q := by
  have h0 : (#[u] : Array Value)[0]? = some u := rfl
  unfold capA at h
  split at h
  · rename_i hu
    split at h
    · rename_i b i len c
      cases hc : Nat.blt c unk
      · rw [hc] at h; cases h
      · rw [hc, cond_true] at h
        cases h
        cases hx with
        | slice _ _ _ _ l cap' hl h9 h1 h2 =>
          obtain rfl := h1 (blt_true hc)
          exact ⟨_, by simp only [Builtin.cap_, ht, h0, Sem.run_bind, run_underlying (und_of hV hu), Result.andThen_ok]; rfl, .int _ _⟩
        | sliceE => simp [unk] at hc
    · cases h
      cases hx
      exact ⟨_, by simp only [Builtin.cap_, ht, h0, Sem.run_bind, run_underlying (und_of hV hu), Result.andThen_ok]; rfl, .int _ _⟩
    · cases h
  · cases h

omit hV in
theorem mm2_ok {P : Program} {mx : Bool} {a b : AV} {u v : Value} {r : AV} (hx : VRel φ a u) (hy : VRel φ b v) (h : mm2 mx a b = some r) :
    ∃ q, (if mx then Builtin.max2 u v else Builtin.min2 u v).run P w = .ok q w ∧ VRel φ r q := by
  unfold mm2 at h
  split at h
  · cases h
    cases hx
    cases hy
    cases mx
    · refine ⟨_, rfl, ?_⟩
      rename_i k a k2 b
      by_cases e : b < a
      · simp only [cond_false, decide_eq_true e, cond_true, if_pos e]; exact .int _ _
      · simp only [cond_false, decide_eq_false e, if_neg e]; exact .int _ _
    · refine ⟨_, rfl, ?_⟩
      rename_i k a k2 b
      by_cases e : b > a
      · simp only [cond_true, decide_eq_true e, if_pos e]; exact .int _ _
      · simp only [cond_true, decide_eq_false e, cond_false, if_neg e]; exact .int _ _
  · cases h

include R

theorem toStr_ok {src dst e : TypeId} (hs : V.E.und src = some (.slice e)) (hd : V.E.und dst = some .string) {a : AV} {u : Value} {v : AV} (hx : VRel φ a u) (h : toStr V M e a = .val v) :
    ∃ q, (convert src dst u).run V.P w = .ok q w ∧ VRel φ v q := by
  unfold toStr at h
  split at h
  · rename_i he
    have hs' := und_of hV hs
    have hd' := und_of hV hd
    have he' := und_of hV he
    split at h
    · cases h
      cases hx
      refine ⟨_, ?_, .str .empty⟩
      rw [run_convert_bytes_string w src dst e none 0 0 hs' he' hd']
      rfl
    · rename_i b i len cap
      split at h
      · rename_i cs hcs
        split at h
        · rename_i n hn
          cases h
          cases hx with
          | slice _ _ _ _ l cap' hl h0 h1 h2 =>
            obtain ⟨us, hr, hv⟩ := loads_run R hl hcs
            obtain ⟨bs, rfl, hp, hlen⟩ := packA_rel hv hn
            have hm : bs.map byteV = (bs.map fun b => (b.toNat : Int)).map (Value.int .u8) := by simp [byteV, Function.comp_def]
            rw [hm] at hr
            refine ⟨_, by rw [run_convert_bytes_string w src dst e _ _ _ hs' he' hd']; exact run_bytesToString w _ _ _ _ hr, ?_⟩
            have hb := push_bytes bs ByteArray.empty
            generalize (bs.map fun b => (b.toNat : Int)).foldl (fun r n => r.push (UInt8.ofNat n.toNat)) ByteArray.empty = s at hb ⊢
            have hb : s.data.toList = bs := by simpa using hb
            have hcl : cs.length = len := by
              unfold Mem.loads at hcs
              cases hz : Nat.beq len 0
              · rw [hz, cond_false] at hcs
                split at hcs
                · exact (getsFrom_get hcs).1
                · cases hcs
              · rw [hz, cond_true] at hcs
                cases hcs
                exact (Nat.eq_of_beq_eq_true hz).symm
            have := VRel.str (φ := φ) s
            rw [hb, hp, show s.size = len by show s.data.size = len; rw [← Array.length_toList, hb, hlen, hcl]] at this
            exact this
          | sliceE =>
            have : Mem.loads M b i 0 = some [] := rfl
            rw [this] at hcs
            cases hcs
            cases hn
            refine ⟨_, by rw [run_convert_bytes_string w src dst e _ _ _ hs' he' hd']; exact run_bytesToString w _ 0 0 [] rfl, ?_⟩
            exact .str .empty
        · cases h
      · cases h
    · cases h
  · cases h

theorem view_none {b i : Nat} {r : Row} {l : Loc} (hr : M.row b = some r) (hl : φ b = some l) : (Conv.seenAt (l.addr i)).run V.P w = .ok (l.addr i) w := by
  obtain ⟨⟨c, fz, hw, _⟩, _⟩ := R.rowAt hr hl
  have hsh : w.shape? l.blk = some (r.elem, c.size) := by simp [World.shape?, hw]
  simp only [Conv.seenAt, viewAt, Sem.run_bind, Loc.addr]
  simp [shape, Sem.run, hsh, Result.andThen, pure, Sem.run_pure]

theorem toUnsafe_ok {src dst t : TypeId} (hs : V.E.und src = some (.pointer t)) (hd : V.E.und dst = some .unsafePointer) {a : AV} {u : Value} {v : AV} (hx : VRel φ a u) (h : toUnsafe V M t a = .val v) :
    ∃ q, (convert src dst u).run V.P w = .ok q w ∧ VRel φ v q := by
  have hs' := und_of hV hs
  have hd' := und_of hV hd
  have go : ∀ q, (Conv.unsafePointer src dst u).run V.P w = .ok q w → (convert src dst u).run V.P w = .ok q w := fun q hq => by
    simp only [convert, Sem.run_bind, run_underlying hs', run_underlying hd', Result.andThen_ok]
    cases hx <;> exact hq
  unfold toUnsafe at h
  split at h
  · cases h
    cases hx
    refine ⟨_, go _ ?_, .pnil⟩
    simp only [Conv.unsafePointer, Sem.run_bind, run_underlying hs', run_underlying hd', Result.andThen_ok]
    rfl
  · rename_i b i
    split at h
    · rename_i r n hr hn
      cases hc : (Nat.blt i r.len && !Nat.beq n 0)
      · rw [hc] at h; cases h
      · rw [hc, cond_true] at h
        cases h
        simp only [Bool.and_eq_true, Bool.not_eq_true'] at hc
        have hi := blt_true hc.1
        have hn0 : n ≠ 0 := fun e => by subst e; simp at hc
        obtain ⟨l, hl, rfl⟩ := hx.ptr_inv
        refine ⟨_, go _ ?_, hx⟩
        have hv := view_none hV R (i := i) hr hl
        obtain ⟨⟨c, fz, hw, hsz, _, _, hlv⟩, hlive⟩ := R.rowAt hr hl
        obtain ⟨_, hlen, _, _⟩ := hlv hlive
        have hsh : w.shape? l.blk = some (r.elem, c.size) := by simp [World.shape?, hw]
        have hci : (cellsIn l.blk).run V.P w = .ok (some c.size) w := by
          simp only [cellsIn, Sem.run_bind]
          simp [shape, Sem.run, hsh, Result.andThen, pure, Sem.run_pure]
        simp only [Conv.unsafePointer, Sem.run_bind, run_underlying hs', run_underlying hd', Result.andThen_ok, hv]
        have : (cellsIn (l.addr i).block).run V.P w = .ok (some c.size) w := hci
        rw [this]
        simp only [Result.andThen_ok, (size_of' hV w hn).2, Sem.run_bind]
        have hlt : ¬ ((l.addr i).off ≥ c.size) := by
          have : (l.addr i).off = l.off + i := rfl
          omega
        simp [hn0, hlt, Sem.run_pure]
    · cases h
  · cases h

theorem fromUnsafe_ok {src dst t : TypeId} (hs : V.E.und src = some .unsafePointer) (hd : V.E.und dst = some (.pointer t)) {a : AV} {u : Value} {v : AV} (hx : VRel φ a u) (h : fromUnsafe V M t a = .val v) :
    ∃ q, (convert src dst u).run V.P w = .ok q w ∧ VRel φ v q := by
  have hs' := und_of hV hs
  have hd' := und_of hV hd
  have go : ∀ q, (Conv.unsafePointer src dst u).run V.P w = .ok q w → (convert src dst u).run V.P w = .ok q w := fun q hq => by
    simp only [convert, Sem.run_bind, run_underlying hs', run_underlying hd', Result.andThen_ok]
    cases hx <;> exact hq
  unfold fromUnsafe at h
  split at h
  · cases h
    cases hx
    refine ⟨_, go _ ?_, .pnil⟩
    simp only [Conv.unsafePointer, Sem.run_bind, run_underlying hs', run_underlying hd', Result.andThen_ok]
    rfl
  · rename_i b i
    split at h
    · rename_i r ms hr hms
      cases hc : (r.whole && liesAt V.P V.P.depth r.elem (r.len / V.P.cellsOf r.elem) i t 1)
      · rw [hc] at h; cases h
      · rw [hc, cond_true] at h
        cases h
        simp only [Bool.and_eq_true] at hc
        obtain ⟨l, hl, rfl⟩ := hx.ptr_inv
        refine ⟨_, go _ ?_, hx⟩
        have hv := view_none hV R (i := i) hr hl
        obtain ⟨⟨c, fz, hw, hsz, _, hwh, hlv⟩, hlive⟩ := R.rowAt hr hl
        obtain ⟨w1, w2⟩ := hwh hc.1
        have hsh : w.shape? l.blk = some (r.elem, c.size) := by simp [World.shape?, hw]
        have hlies : liesAt V.P V.P.depth r.elem (c.size / V.P.cellsOf r.elem) (l.addr i).off t 1 = true := by
          have : (l.addr i).off = i := by simp [Loc.addr, w1]
          rw [this, show c.size = r.len by omega]
          exact hc.2
        have hva : (variablesAt (l.addr i) t 1).run V.P w = .ok true w := by
          simp only [variablesAt, Sem.run_bind, run_program, Result.andThen_ok]
          have : (shape (l.addr i).block).run V.P w = .ok (some (r.elem, c.size)) w := by
            simp [shape, Sem.run, Loc.addr, hsh]
          rw [this]
          simp only [Result.andThen_ok, hlies]
          rfl
        have hm := (size_of' hV w hms).2
        simp only [Conv.unsafePointer, Sem.run_bind, run_underlying hs', run_underlying hd', Result.andThen_ok, hv, hm, hva]
        simp [Sem.run_pure]
    · cases h
  · cases h

end
end Go.Proofs.Ytcpffiihdnecjaa.Ev
