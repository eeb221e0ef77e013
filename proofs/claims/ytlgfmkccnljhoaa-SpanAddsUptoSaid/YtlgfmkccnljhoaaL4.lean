/- Reading bytes, one thing behind the other: what readers are, as plain functions. -/
import Derived.Test.YtlgfmkccnljhoaaL3
set_option linter.unusedVariables false
namespace Go.GG
theorem eta2 {α β : Type} (p : α × β) : (p.1, p.2) = p := rfl
/-- Bytes, how many of them are read, what was wrong first. -/
abbrev Rd := List Int × Int × Int
structure RInv (s : Rd) : Prop where
  b : ∀ x ∈ s.1, IsByte x
  lo : 0 ≤ s.2.1
  hi : s.2.1 ≤ s.1.length
  big : s.1.length ≤ 1000000000000
def rest (s : Rd) : List Int := s.1.drop s.2.1.toNat
theorem RInv.rest_byte {s : Rd} (h : RInv s) : ∀ x ∈ rest s, IsByte x := fun x hx => h.b x (List.mem_of_mem_drop hx)
theorem RInv.rest_len {s : Rd} (h : RInv s) : ((rest s).length : Int) = s.1.length - s.2.1 := by
  have := h.lo; have := h.hi
  simp [rest]; omega
def rfail (s : Rd) (e : Int) : Rd := (s.1, s.2.1, e)
def rto (s : Rd) (n : Nat) : Rd := (s.1, s.2.1 + n, s.2.2)
def rU (s : Rd) : Int × Rd := if s.2.2 = 0 then (match getU 0 0 (rest s) with | none => (0, rfail s 5) | some (v, c) => ((v : Int), rto s c)) else (0, s)
def rNum (s : Rd) (most : Int) : Int × Rd := if s.2.2 = 0 then (match getU 0 0 (rest s) with | none => (0, rfail s 5) | some (v, c) => if (v : Int) > most then (0, rfail s 3) else ((v : Int), rto s c)) else (0, s)
def rBytes (s : Rd) (most : Int) : List Int × Rd := if s.2.2 = 0 then (match getU 0 0 (rest s) with
  | none => ([], rfail s 5)
  | some (v, c) => if (v : Int) > most then ([], rfail s 3) else if v > (rest s).length - c then ([], rfail s 5) else (((rest s).drop c).take v, rto s (c + v))) else ([], s)
theorem rto_inv {s : Rd} (h : RInv s) {n : Nat} (hn : n ≤ (rest s).length) : RInv (rto s n) := by
  have := h.rest_len
  exact ⟨h.b, by have := h.lo; simp [rto]; omega, by simp [rto]; omega, h.big⟩
theorem rfail_inv {s : Rd} (h : RInv s) (e : Int) : RInv (rfail s e) := ⟨h.b, h.lo, h.hi, h.big⟩
theorem rest_rto {s : Rd} (h : RInv s) (n : Nat) : rest (rto s n) = (rest s).drop n := by
  have := h.lo
  simp only [rest, rto, List.drop_drop]
  congr 1; omega
theorem rU_inv {s : Rd} (h : RInv s) : RInv (rU s).2 := by
  unfold rU
  split
  · split
    · exact rfail_inv h 5
    · rename_i v c hg
      exact rto_inv h (getU_le h.rest_byte hg).2.2.2.1
  · exact h
theorem rNum_inv {s : Rd} (h : RInv s) (most : Int) : RInv (rNum s most).2 := by
  unfold rNum
  split
  · split
    · exact rfail_inv h 5
    · rename_i v c hg
      split
      · exact rfail_inv h 3
      · exact rto_inv h (getU_le h.rest_byte hg).2.2.2.1
  · exact h
theorem rBytes_inv {s : Rd} (h : RInv s) (most : Int) : RInv (rBytes s most).2 := by
  unfold rBytes
  split
  · split
    · exact rfail_inv h 5
    · rename_i v c hg
      have := (getU_le h.rest_byte hg).2.2.2.1
      split
      · exact rfail_inv h 3
      · split
        · exact rfail_inv h 5
        · exact rto_inv h (by omega)
  · exact h
/-- The values are in range. -/
theorem rU_range {s : Rd} (h : RInv s) : 0 ≤ (rU s).1 ∧ (rU s).1 < 18446744073709551616 := by
  unfold rU
  split
  · split
    · simp
    · rename_i v c hg
      have := (getU_le h.rest_byte hg).1
      simp; omega
  · simp
theorem rNum_range {s : Rd} (h : RInv s) (most : Int) : 0 ≤ (rNum s most).1 ∧ (rNum s most).1 < 18446744073709551616 ∧ ((rNum s most).1 = 0 ∨ (rNum s most).1 ≤ most) := by
  unfold rNum
  split
  · split
    · simp
    · rename_i v c hg
      have := (getU_le h.rest_byte hg).1
      split
      · simp
      · simp; omega
  · simp
theorem rBytes_byte {s : Rd} (h : RInv s) (most : Int) : (∀ x ∈ (rBytes s most).1, IsByte x) ∧ ((rBytes s most).1.length : Int) ≤ max most 0 := by
  unfold rBytes
  split
  · split
    · simp; omega
    · split
      · simp; omega
      · split
        · simp; omega
        · refine ⟨fun x hx => h.rest_byte x (List.mem_of_mem_drop (List.mem_of_mem_take hx)), ?_⟩
          simp; omega
  · simp; omega
/-- What was wrong stays so. -/
theorem rU_bad {s : Rd} (h : s.2.2 ≠ 0) : rU s = (0, s) := by simp [rU, h]
theorem rNum_bad {s : Rd} (h : s.2.2 ≠ 0) (m : Int) : rNum s m = (0, s) := by simp [rNum, h]
theorem rBytes_bad {s : Rd} (h : s.2.2 ≠ 0) (m : Int) : rBytes s m = ([], s) := by simp [rBytes, h]
/-- What was read right was there: its bytes, and what is behind them. -/
theorem rU_ok {s : Rd} (h : RInv s) (e : (rU s).2.2.2 = 0) : s.2.2 = 0 ∧ ∃ n : Nat, n < 18446744073709551616 ∧ (rU s).1 = n ∧ rest s = putU n ++ rest (rU s).2 ∧ (rU s).2.1 = s.1 := by
  unfold rU at *
  by_cases h0 : s.2.2 = 0
  · rw [if_pos h0] at *
    cases hg : getU 0 0 (rest s) with
    | none => simp [hg, rfail] at e
    | some p =>
      obtain ⟨v, c⟩ := p
      obtain ⟨h1, _, _, _, _, h5⟩ := getU_le h.rest_byte hg
      simp only
      exact ⟨h0, v, h1, rfl, by rw [rest_rto h]; exact h5, rfl⟩
  · rw [if_neg h0] at e; exact absurd e h0
theorem rNum_ok {s : Rd} (h : RInv s) {most : Int} (e : (rNum s most).2.2.2 = 0) : s.2.2 = 0 ∧ ∃ n : Nat, n < 18446744073709551616 ∧ (n : Int) ≤ most ∧ (rNum s most).1 = n ∧ rest s = putU n ++ rest (rNum s most).2 ∧ (rNum s most).2.1 = s.1 := by
  unfold rNum at *
  by_cases h0 : s.2.2 = 0
  · rw [if_pos h0] at *
    cases hg : getU 0 0 (rest s) with
    | none => simp [hg, rfail] at e
    | some p =>
      obtain ⟨v, c⟩ := p
      obtain ⟨h1, _, _, _, _, h5⟩ := getU_le h.rest_byte hg
      simp only [hg] at e
      by_cases hm : (v : Int) > most
      · simp [hm, rfail] at e
      · simp only [if_neg hm]
        exact ⟨h0, v, h1, by omega, rfl, by rw [rest_rto h]; exact h5, rfl⟩
  · rw [if_neg h0] at e; exact absurd e h0
theorem rBytes_ok {s : Rd} (h : RInv s) {most : Int} (e : (rBytes s most).2.2.2 = 0) : s.2.2 = 0 ∧ ((rBytes s most).1.length : Int) ≤ most ∧ (rBytes s most).1.length < 18446744073709551616 ∧
    rest s = putU (rBytes s most).1.length ++ (rBytes s most).1 ++ rest (rBytes s most).2 ∧ (rBytes s most).2.1 = s.1 := by
  unfold rBytes at *
  by_cases h0 : s.2.2 = 0
  · rw [if_pos h0] at *
    cases hg : getU 0 0 (rest s) with
    | none => simp [hg, rfail] at e
    | some p =>
      obtain ⟨v, c⟩ := p
      obtain ⟨h1, _, _, h3, _, h5⟩ := getU_le h.rest_byte hg
      simp only [hg] at e
      by_cases hm : (v : Int) > most
      · simp [hm, rfail] at e
      · simp only [if_neg hm] at e ⊢
        by_cases hv : v > (rest s).length - c
        · simp [hv, rfail] at e
        · simp only [if_neg hv]
          have hl : (((rest s).drop c).take v).length = v := by simp; omega
          refine ⟨h0, by rw [hl]; omega, by rw [hl]; exact h1, ?_, rfl⟩
          rw [hl, rest_rto h, ← List.drop_drop]
          rw [List.append_assoc, List.take_append_drop]
          exact h5
  · rw [if_neg h0] at e; exact absurd e h0
/-- What stands there is read. -/
theorem rU_read {s : Rd} (h : RInv s) (h0 : s.2.2 = 0) {n : Nat} (hn : n < 18446744073709551616) {r : List Int} (hr : rest s = putU n ++ r) : ∃ s', rU s = ((n : Int), s') ∧ RInv s' ∧ s'.2.2 = 0 ∧ rest s' = r ∧ s'.1 = s.1 := by
  have e : rU s = ((n : Int), rto s (putU n).length) := by unfold rU; rw [if_pos h0, hr, getU_putU hn]
  refine ⟨_, e, rto_inv h (by rw [hr]; simp), h0, ?_, rfl⟩
  rw [rest_rto h, hr]; simp
theorem rNum_read {s : Rd} (h : RInv s) (h0 : s.2.2 = 0) {n : Nat} (hn : n < 18446744073709551616) {most : Int} (hm : (n : Int) ≤ most) {r : List Int} (hr : rest s = putU n ++ r) : ∃ s', rNum s most = ((n : Int), s') ∧ RInv s' ∧ s'.2.2 = 0 ∧ rest s' = r ∧ s'.1 = s.1 := by
  have e : rNum s most = ((n : Int), rto s (putU n).length) := by
    unfold rNum; rw [if_pos h0, hr, getU_putU hn]; simp only; rw [if_neg (by omega)]
  refine ⟨_, e, rto_inv h (by rw [hr]; simp), h0, ?_, rfl⟩
  rw [rest_rto h, hr]; simp
theorem rBytes_read {s : Rd} (h : RInv s) (h0 : s.2.2 = 0) {x : List Int} (hn : x.length < 18446744073709551616) {most : Int} (hm : (x.length : Int) ≤ most) {r : List Int} (hr : rest s = putU x.length ++ x ++ r) :
    ∃ s', rBytes s most = (x, s') ∧ RInv s' ∧ s'.2.2 = 0 ∧ rest s' = r ∧ s'.1 = s.1 := by
  rw [List.append_assoc] at hr
  have e : rBytes s most = (x, rto s ((putU x.length).length + x.length)) := by
    unfold rBytes
    rw [if_pos h0, hr, getU_putU hn]
    simp only
    rw [if_neg (by omega), if_neg (by simp)]
    simp
  refine ⟨_, e, rto_inv h (by rw [hr]; simp), h0, ?_, rfl⟩
  rw [rest_rto h, hr, ← List.drop_drop]; simp
theorem and127 {c : Int} (h : IsByte c) : bitv .and .u8 c 127 = c % 128 := by
  obtain ⟨h0, h1⟩ := h
  have key : ∀ a : Fin 256, bitv .and .u8 (a.val : Int) 127 = (a.val : Int) % 128 := by decide +kernel
  have := key ⟨c.toNat, by omega⟩
  simp only at this
  rw [Int.toNat_of_nonneg h0] at this
  exact this
theorem digit1 {a k : Nat} {c : Int} (ha : a < 128 ^ k) (hk : k ≤ 9) (hc : IsByte c) (h9 : k = 9 → c % 128 ≤ 1) :
    bitv .or .u64 (a : Int) (shlv .u64 (IntKind.wrap .u64 (bitv .and .u8 c 127)) (IntKind.wrap .i64 (7 * (k : Int)))) = ((a + c.toNat % 128 * 128 ^ k : Nat) : Int) := by
  obtain ⟨h0, h1⟩ := hc
  rw [and127 ⟨h0, h1⟩, u64_in (by omega) (by omega), i64_in (by omega) (by omega)]
  have e1 : c % 128 = ((c.toNat % 128 : Nat) : Int) := by omega
  have e2 : 7 * (k : Int) = ((7 * k : Nat) : Int) := by omega
  rw [e1, e2]
  exact or_shl ha hk (Nat.mod_lt _ (by decide)) (fun e => by have := h9 e; omega)
theorem digit2 {a k : Nat} {c : Int} (ha : a < 128 ^ k) (hk : k ≤ 9) (hc : IsByte c) (h9 : k = 9 → c % 128 ≤ 1) :
    bitv .or .u64 (a : Int) (shlv .u64 (IntKind.wrap .u64 (Int.tmod c 128)) (IntKind.wrap .u64 (IntKind.wrap .i64 (7 * (k : Int))))) = ((a + c.toNat % 128 * 128 ^ k : Nat) : Int) := by
  obtain ⟨h0, h1⟩ := hc
  rw [Int.tmod_eq_emod_of_nonneg h0, u64_in (by omega) (by omega), i64_in (by omega) (by omega), u64_in (by omega) (by omega)]
  have e1 : c % 128 = ((c.toNat % 128 : Nat) : Int) := by omega
  have e2 : 7 * (k : Int) = ((7 * k : Nat) : Int) := by omega
  rw [e1, e2]
  exact or_shl ha hk (Nat.mod_lt _ (by decide)) (fun e => by have := h9 e; omega)
theorem acc_lt {a k : Nat} {c : Int} (ha : a < 128 ^ k) : a + c.toNat % 128 * 128 ^ k < 128 ^ (k + 1) := by
  rw [Nat.pow_succ]
  have : c.toNat % 128 ≤ 127 := by omega
  have := Nat.mul_le_mul_right (128 ^ k) this
  omega
end Go.GG
