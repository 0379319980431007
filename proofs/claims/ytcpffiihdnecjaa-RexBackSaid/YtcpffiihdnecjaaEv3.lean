/- The evaluator: plain laws of its numbers and of its packed strings. -/
import Derived.Test.YtcpffiihdnecjaaEv2
import Derived.Laws.Strings
import Derived.IntWalk
namespace Go.Proofs.Ytcpffiihdnecjaa.Ev
set_option linter.unusedSectionVars false
set_option linter.unusedSimpArgs false
set_option linter.unusedVariables false
open Go

theorem wrap_hi (k : IntKind) (m : Nat) (h : m < hiK k) : k.wrap (Int.ofNat m) = Int.ofNat m := by
  cases k with
  | i8 => have h' : m < 128 := h; exact IntWalk.i8_in _ (by simp only [Int.ofNat_eq_natCast]; omega)
  | i16 => have h' : m < 32768 := h; exact IntWalk.i16_in _ (by simp only [Int.ofNat_eq_natCast]; omega)
  | i32 => have h' : m < 2147483648 := h; exact IntWalk.i32_in _ (by simp only [Int.ofNat_eq_natCast]; omega)
  | i64 => have h' : m < 9223372036854775808 := h; exact IntWalk.i64_in _ (by simp only [Int.ofNat_eq_natCast]; omega)
  | u8 => have h' : m < 256 := h; exact IntWalk.u8_in _ (by simp only [Int.ofNat_eq_natCast]; omega)
  | u16 => have h' : m < 65536 := h; exact IntWalk.u16_in _ (by simp only [Int.ofNat_eq_natCast]; omega)
  | u32 => have h' : m < 4294967296 := h; exact IntWalk.u32_in _ (by simp only [Int.ofNat_eq_natCast]; omega)
  | u64 => have h' : m < 18446744073709551616 := h; exact IntWalk.u64_in _ (by simp only [Int.ofNat_eq_natCast]; omega)

theorem wrap_lo (k : IntKind) (m : Nat) (h : m < loK k) : k.wrap (Int.negSucc m) = Int.negSucc m := by
  cases k with
  | i8 => have h' : m < 128 := h; exact IntWalk.i8_in _ (by omega)
  | i16 => have h' : m < 32768 := h; exact IntWalk.i16_in _ (by omega)
  | i32 => have h' : m < 2147483648 := h; exact IntWalk.i32_in _ (by omega)
  | i64 => have h' : m < 9223372036854775808 := h; exact IntWalk.i64_in _ (by omega)
  | _ => exact absurd h (Nat.not_lt_zero _)

theorem wr_eq (k : IntKind) (n : Int) : wr k n = k.wrap n := by
  unfold wr
  split
  · rename_i m
    cases h : Nat.blt m (hiK k)
    · rfl
    · rw [cond_true, wrap_hi k m (by simpa [Nat.blt_eq] using h)]
  · rename_i m
    cases h : Nat.blt m (loK k)
    · rfl
    · rw [cond_true, wrap_lo k m (by simpa [Nat.blt_eq] using h)]

theorem hiK_bits (k : IntKind) : ∃ e, hiK k = 2 ^ e ∧ e ≤ k.bits := by
  cases k with
  | i8 => exact ⟨7, rfl, by decide⟩
  | i16 => exact ⟨15, rfl, by decide⟩
  | i32 => exact ⟨31, rfl, by decide⟩
  | i64 => exact ⟨63, rfl, by decide⟩
  | u8 => exact ⟨8, rfl, by decide⟩
  | u16 => exact ⟨16, rfl, by decide⟩
  | u32 => exact ⟨32, rfl, by decide⟩
  | u64 => exact ⟨64, rfl, by decide⟩

theorem ofInt_small (k : IntKind) (m : Nat) (h : m < hiK k) : (BitVec.ofInt k.bits (Int.ofNat m)).toNat = m := by
  obtain ⟨e, he, hb⟩ := hiK_bits k
  have : m < 2 ^ k.bits := Nat.lt_of_lt_of_le (he ▸ h) (Nat.pow_le_pow_right (by omega) hb)
  rw [BitVec.toNat_ofInt]
  have h2 : (Int.ofNat m % ((2 ^ k.bits : Nat) : Int)) = ((m % 2 ^ k.bits : Nat) : Int) := rfl
  rw [h2, Int.toNat_natCast, Nat.mod_eq_of_lt this]

theorem bitsSlow_eq {P : Program} (op : BinOp) (k : IntKind) (x y n : Int) (h : bitsSlow op k x y = some n) (w : World) :
    (Op.intBits op k x y).run P w = .ok (.int k n) w := by
  unfold bitsSlow at h
  split at h <;> first
    | (cases h; rfl)
    | cases h

theorem bitsK_eq {P : Program} (op : BinOp) (k : IntKind) (x y n : Int) (h : bitsK op k x y = some n) (w : World) :
    (Op.intBits op k x y).run P w = .ok (.int k n) w := by
  unfold bitsK at h
  split at h
  · rename_i a b
    unfold bitsN at h
    cases hc : (Nat.blt a (hiK k) && Nat.blt b (hiK k))
    · rw [hc, cond_false] at h; exact bitsSlow_eq op k _ _ n h w
    · rw [hc, cond_true] at h
      have ha : a < hiK k := by simp at hc; exact hc.1
      have hb : b < hiK k := by simp at hc; exact hc.2
      obtain ⟨e, he, _⟩ := hiK_bits k
      have e1 := ofInt_small k a ha
      have e2 := ofInt_small k b hb
      cases hf : bitsFast op a b with
      | none => rw [hf] at h; exact bitsSlow_eq op k _ _ n h w
      | some m =>
        rw [hf] at h
        cases h
        refine bitsSlow_eq op k _ _ _ ?_ w
        unfold bitsFast at hf
        split at hf
        · cases hf
          have : (BitVec.ofInt k.bits (Int.ofNat a) &&& BitVec.ofInt k.bits (Int.ofNat b)).toNat = Nat.land a b := by
            rw [BitVec.toNat_and, e1, e2]; rfl
          simp only [bitsSlow, this]
          rw [show ((Nat.land a b : Nat) : Int) = Int.ofNat (Nat.land a b) from rfl, wrap_hi k (Nat.land a b) (Nat.lt_of_le_of_lt (show Nat.land a b ≤ a from Nat.and_le_left) ha)]
        · cases hf
          have : (BitVec.ofInt k.bits (Int.ofNat a) ||| BitVec.ofInt k.bits (Int.ofNat b)).toNat = Nat.lor a b := by
            rw [BitVec.toNat_or, e1, e2]; rfl
          simp only [bitsSlow, this]
          rw [show ((Nat.lor a b : Nat) : Int) = Int.ofNat (Nat.lor a b) from rfl, wrap_hi k (Nat.lor a b) (by rw [he]; exact Nat.or_lt_two_pow (he ▸ ha) (he ▸ hb))]
        · cases hf
          have : (BitVec.ofInt k.bits (Int.ofNat a) ^^^ BitVec.ofInt k.bits (Int.ofNat b)).toNat = Nat.xor a b := by
            rw [BitVec.toNat_xor, e1, e2]; rfl
          simp only [bitsSlow, this]
          rw [show ((Nat.xor a b : Nat) : Int) = Int.ofNat (Nat.xor a b) from rfl, wrap_hi k (Nat.xor a b) (by rw [he]; exact Nat.xor_lt_two_pow (he ▸ ha) (he ▸ hb))]
        · cases hf
  · exact bitsSlow_eq op k _ _ n h w

-- packed strings

theorem packL_append (l r : List UInt8) : packL (l ++ r) = packL l + packL r * 256 ^ l.length := by
  induction l with
  | nil => simp [packL]
  | cons b l ih => simp [packL, ih, Nat.pow_succ]; rw [Nat.mul_add, Nat.add_assoc]; congr 2; rw [← Nat.mul_assoc, Nat.mul_comm 256, Nat.mul_assoc, Nat.mul_comm 256]

theorem packL_lt (l : List UInt8) : packL l < 256 ^ l.length := by
  induction l with
  | nil => simp [packL]
  | cons b l ih =>
    have := b.toNat_lt
    simp only [packL, List.length_cons, Nat.pow_succ]
    omega

theorem packL_take (l : List UInt8) (n : Nat) (h : n ≤ l.length) : packL (l.take n) = packL l % 256 ^ n := by
  have e : packL l = packL (l.take n) + packL (l.drop n) * 256 ^ n := by
    have := packL_append (l.take n) (l.drop n)
    rw [List.take_append_drop] at this
    rw [this, List.length_take, Nat.min_eq_left h]
  have hl := packL_lt (l.take n)
  rw [List.length_take, Nat.min_eq_left h] at hl
  rw [e, Nat.add_mul_mod_self_right, Nat.mod_eq_of_lt hl]

theorem packL_drop (l : List UInt8) (n : Nat) (h : n ≤ l.length) : packL (l.drop n) = packL l / 256 ^ n := by
  have e : packL l = packL (l.take n) + packL (l.drop n) * 256 ^ n := by
    have := packL_append (l.take n) (l.drop n)
    rw [List.take_append_drop] at this
    rw [this, List.length_take, Nat.min_eq_left h]
  have hl := packL_lt (l.take n)
  rw [List.length_take, Nat.min_eq_left h] at hl
  rw [e, Nat.add_mul_div_right _ _ (Nat.pow_pos (by omega)), Nat.div_eq_of_lt hl, Nat.zero_add]

theorem packL_inj : ∀ (l r : List UInt8), l.length = r.length → packL l = packL r → l = r
  | [], [], _, _ => rfl
  | [], _ :: _, h, _ => by simp at h
  | _ :: _, [], h, _ => by simp at h
  | a :: l, b :: r, h, e => by
    simp only [packL] at e
    have ha := a.toNat_lt
    have hb := b.toNat_lt
    have h1 : a.toNat = b.toNat := by omega
    have h2 : packL l = packL r := by omega
    rw [UInt8.toNat_inj.1 h1, packL_inj l r (by simpa using h) h2]

theorem packL_idx (l : List UInt8) (i : Nat) (b : UInt8) (h : l[i]? = some b) : sIdx (packL l) i = b.toNat := by
  have hi : i < l.length := by
    rcases Nat.lt_or_ge i l.length with h' | h'
    · exact h'
    · simp [List.getElem?_eq_none h'] at h
  unfold sIdx
  rw [← packL_drop l i (by omega)]
  have : l.drop i = b :: l.drop (i + 1) := by
    rw [List.drop_eq_getElem_cons hi]
    congr 1
    simpa [List.getElem?_eq_getElem hi] using h
  rw [this]
  have := b.toNat_lt
  simp only [packL]
  omega

theorem str_eq_iff (s t : ByteArray) : (bif Nat.beq s.size t.size then Nat.beq (packL s.data.toList) (packL t.data.toList) else false) = (s.toList == t.toList) := by
  rw [ByteArray.toList_eq, ByteArray.toList_eq, Bool.eq_iff_iff]
  have hs : s.data.toList.length = s.size := by simp
  have ht : t.data.toList.length = t.size := by simp
  constructor
  · intro h
    cases h1 : Nat.beq s.size t.size
    · rw [h1] at h; cases h
    · rw [h1, cond_true] at h
      have e1 : s.size = t.size := Nat.eq_of_beq_eq_true h1
      have e2 := Nat.eq_of_beq_eq_true h
      simp only [beq_iff_eq]
      exact packL_inj _ _ (by rw [hs, ht, e1]) e2
  · intro h
    simp only [beq_iff_eq] at h
    have : s.size = t.size := by rw [← hs, ← ht, h]
    rw [this, h]
    simp

theorem sLt_eq : ∀ (l r : List UInt8) (k : Nat), l.length < k → sLt k l.length (packL l) r.length (packL r) = Op.bytesLess l r
  | _, _, 0, h => by omega
  | l, [], k + 1, _ => by simp [sLt, Op.bytesLess]
  | [], b :: r, k + 1, _ => by
    have e : Nat.beq (r.length + 1) 0 = false := rfl
    simp [sLt, Op.bytesLess, e]
  | a :: l, b :: r, k + 1, h => by
    have ha := a.toNat_lt
    have hb := b.toNat_lt
    have h1 : (a.toNat + 256 * packL l) % 256 = a.toNat := by omega
    have h2 : (b.toNat + 256 * packL r) % 256 = b.toNat := by omega
    have h3 : (a.toNat + 256 * packL l) / 256 = packL l := by omega
    have h4 : (b.toNat + 256 * packL r) / 256 = packL r := by omega
    have ih := sLt_eq l r k (by simp at h; omega)
    simp only [sLt, packL, h1, h2, h3, h4, List.length_cons, Nat.add_sub_cancel, ih, Op.bytesLess]
    have e1 : Nat.beq (r.length + 1) 0 = false := rfl
    have e2 : Nat.beq (l.length + 1) 0 = false := rfl
    rw [e1, e2]
    simp only [cond_false]
    by_cases hlt : a < b
    · have : Nat.blt a.toNat b.toNat = true := by simpa [Nat.blt_eq] using UInt8.lt_iff_toNat_lt.1 hlt
      simp [this, hlt]
    · have : Nat.blt a.toNat b.toNat = false := by
        simp only [← Bool.not_eq_true, Nat.blt_eq]
        exact fun h => hlt (UInt8.lt_iff_toNat_lt.2 h)
      rw [this, cond_false]
      by_cases he : a = b
      · subst he; simp [hlt]
      · have : Nat.beq a.toNat b.toNat = false := by
          simp only [← Bool.not_eq_true]
          exact fun h => he (UInt8.toNat_inj.1 (Nat.eq_of_beq_eq_true h))
        simp [this, hlt, he]

theorem str_lt (s t : ByteArray) : sLt (s.size + 1) s.size (packL s.data.toList) t.size (packL t.data.toList) = Op.bytesLess s.toList t.toList := by
  have := sLt_eq s.data.toList t.data.toList (s.size + 1) (by simp)
  rw [ByteArray.toList_eq, ByteArray.toList_eq, ← this]
  simp

theorem str_append (φ : Emb) (s t : ByteArray) : VRel φ (.str (s.size + t.size) (sCat s.size (packL s.data.toList) (packL t.data.toList))) (.string (s ++ t)) := by
  have h := VRel.str (φ := φ) (s ++ t)
  have e1 : (s ++ t).size = s.size + t.size := by simp
  have e2 : packL (s ++ t).data.toList = sCat s.size (packL s.data.toList) (packL t.data.toList) := by
    have : (s ++ t).data.toList = s.data.toList ++ t.data.toList := by simp
    rw [this, packL_append]
    simp [sCat]
  rwa [e1, e2] at h

theorem extract_list (s : ByteArray) (a b : Nat) : (s.extract a b).data.toList = (s.data.toList.drop a).take (b - a) := by
  have h : (s.extract a b).data = s.data.extract a b := by simp
  rw [h, Array.toList_extract, List.extract_eq_take_drop]

theorem str_extract (φ : Emb) (s : ByteArray) (a b : Nat) (h1 : a ≤ b) (h2 : b ≤ s.size) :
    VRel φ (.str (b - a) (sExt (packL s.data.toList) a b)) (.string (s.extract a b)) := by
  have h := VRel.str (φ := φ) (s.extract a b)
  have e0 := extract_list s a b
  have hs : s.data.toList.length = s.size := by simp
  have e1 : (s.extract a b).size = b - a := by
    have : (s.extract a b).data.toList.length = (s.extract a b).size := rfl
    rw [← this, e0, List.length_take, List.length_drop, hs]
    omega
  have e2 : packL (s.extract a b).data.toList = sExt (packL s.data.toList) a b := by
    rw [e0, packL_take _ _ (by rw [List.length_drop, hs]; omega), packL_drop _ _ (by rw [hs]; omega)]
    rfl
  rwa [e1, e2] at h

/-- Bytes as cells. -/
noncomputable def byteV (b : UInt8) : Value := .int .u8 b.toNat

theorem unpackA_rel (φ : Emb) : ∀ (l : List UInt8), VsRel φ (unpackA l.length (packL l)) (l.map byteV)
  | [] => .nil
  | b :: l => by
    have hb := b.toNat_lt
    have h1 : (b.toNat + 256 * packL l) % 256 = b.toNat := by omega
    have h2 : (b.toNat + 256 * packL l) / 256 = packL l := by omega
    simp only [List.length_cons, unpackA, packL, h1, h2, List.map_cons]
    exact .cons _ _ _ _ (.int _ _) (unpackA_rel φ l)

theorem unpackA_len : ∀ (k n : Nat), (unpackA k n).length = k
  | 0, _ => rfl
  | k + 1, n => by simp [unpackA, unpackA_len k]

theorem packA_rel {φ : Emb} : ∀ {xs : List AV} {us : List Value} {n : Nat}, VsRel φ xs us → packA xs = some n →
    ∃ l : List UInt8, us = l.map byteV ∧ packL l = n ∧ l.length = xs.length := by
  intro xs
  induction xs with
  | nil =>
    intro us n h e
    cases h
    simp only [packA, Option.some.injEq] at e
    exact ⟨[], rfl, e, rfl⟩
  | cons x xs ih =>
    intro us n h e
    cases h with
    | cons _ u _ us hx hs =>
      unfold packA at e
      split at e
      · rename_i e0; cases e0
      · rename_i m r e0
        cases e0
        cases hx
        cases hb : Nat.blt m 256
        · rw [hb] at e; cases e
        · rw [hb, cond_true] at e
          have hm : m < 256 := by simpa [Nat.blt_eq] using hb
          cases hp : packA xs with
          | none => rw [hp] at e; cases e
          | some q =>
            rw [hp] at e
            cases e
            obtain ⟨l, rfl, hq, hl⟩ := ih hs hp
            refine ⟨UInt8.ofNat m :: l, ?_, ?_, by simp [hl]⟩
            · simp [byteV, UInt8.toNat_ofNat, Nat.mod_eq_of_lt hm]
            · simp [packL, UInt8.toNat_ofNat, Nat.mod_eq_of_lt hm, hq]
      · cases e

end Go.Proofs.Ytcpffiihdnecjaa.Ev
