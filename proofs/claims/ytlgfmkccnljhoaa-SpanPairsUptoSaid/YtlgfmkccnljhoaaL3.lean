/- Numbers as bytes, written and read: plain facts. -/
import Derived.Test.YtlgfmkccnljhoaaL2
set_option linter.unusedVariables false
namespace Go.GG
/-- A number's bytes. -/
def putU (n : Nat) : List Int := if h : n < 128 then [(n : Int)] else ((n % 128 + 128 : Nat) : Int) :: putU (n / 128)
termination_by n
decreasing_by omega
/-- The number that bytes begin with, and how many it has. -/
def getU : Nat → Nat → List Int → Option (Nat × Nat)
  | _, _, [] => none
  | k, a, c :: s => if (k = 9 ∧ c > 1) ∨ (c = 0 ∧ k > 0) then none else if c < 128 then some (a + c.toNat % 128 * 128 ^ k, k + 1) else getU (k + 1) (a + c.toNat % 128 * 128 ^ k) s
def IsByte (c : Int) : Prop := 0 ≤ c ∧ c < 256
theorem putU_lt {n : Nat} (h : n < 128) : putU n = [(n : Int)] := by rw [putU, dif_pos h]
theorem putU_ge {n : Nat} (h : ¬ n < 128) : putU n = ((n % 128 + 128 : Nat) : Int) :: putU (n / 128) := by rw [putU, dif_neg h]
theorem putU_byte (n : Nat) : ∀ c ∈ putU n, IsByte c := by
  induction n using Nat.strongRecOn with
  | _ n ih =>
    by_cases h : n < 128
    · rw [putU_lt h]; intro c hc; simp at hc; subst hc; constructor <;> omega
    · rw [putU_ge h]; intro c hc
      rcases List.mem_cons.1 hc with rfl | hc
      · constructor <;> omega
      · exact ih _ (by omega) c hc
theorem putU_pos (n : Nat) : 0 < (putU n).length := by
  by_cases h : n < 128
  · rw [putU_lt h]; simp
  · rw [putU_ge h]; simp
theorem putU_len : ∀ (j n : Nat), n < 128 ^ (j + 1) → (putU n).length ≤ j + 1
  | 0, n, h => by rw [putU_lt (by simpa using h)]; simp
  | j + 1, n, h => by
    by_cases hn : n < 128
    · rw [putU_lt hn]; simp
    · rw [putU_ge hn]
      have : n / 128 < 128 ^ (j + 1) := by rw [Nat.div_lt_iff_lt_mul (by decide)]; rw [Nat.pow_succ] at h; exact h
      have := putU_len j _ this
      simp; omega
theorem putU_len10 {n : Nat} (h : n < 18446744073709551616) : (putU n).length ≤ 10 := putU_len 9 n (Nat.lt_trans h (by decide))
/-- What was written is read. -/
theorem getU_put (s : List Int) : ∀ (n k a : Nat), n * 128 ^ k < 18446744073709551616 → k ≤ 9 → (0 < k → 0 < n) → getU k a (putU n ++ s) = some (a + n * 128 ^ k, k + (putU n).length) := by
  intro n
  induction n using Nat.strongRecOn with
  | _ n ih =>
    intro k a hn hk h0
    have h9 : k = 9 → n ≤ 1 := by
      rintro rfl
      have : n * 128 ^ 9 < 2 * 128 ^ 9 := by
        have e : (2 * 128 ^ 9 : Nat) = 18446744073709551616 := by decide
        rw [e]; exact hn
      have := Nat.lt_of_mul_lt_mul_right this
      omega
    by_cases h : n < 128
    · rw [putU_lt h]
      simp only [List.cons_append, List.nil_append, getU, List.length_singleton]
      have c1 : ¬ ((k = 9 ∧ (n : Int) > 1) ∨ ((n : Int) = 0 ∧ k > 0)) := by
        rintro (⟨h1, h2⟩ | ⟨h1, h2⟩)
        · have := h9 h1; omega
        · have := h0 h2; omega
      rw [if_neg c1, if_pos (by omega : (n : Int) < 128)]
      simp [Nat.mod_eq_of_lt h]
    · rw [putU_ge h]
      simp only [List.cons_append, getU, List.length_cons]
      have c1 : ¬ ((k = 9 ∧ ((n % 128 + 128 : Nat) : Int) > 1) ∨ (((n % 128 + 128 : Nat) : Int) = 0 ∧ k > 0)) := by
        rintro (⟨h1, h2⟩ | ⟨h1, h2⟩)
        · have := h9 h1; omega
        · omega
      have hk9 : k ≠ 9 := fun e => by have := h9 e; omega
      rw [if_neg c1, if_neg (by omega : ¬ (((n % 128 + 128 : Nat) : Int) < 128))]
      have e1 : ((n % 128 + 128 : Nat) : Int).toNat % 128 = n % 128 := by omega
      rw [e1]
      have e2 : n * 128 ^ k = n % 128 * 128 ^ k + n / 128 * 128 ^ (k + 1) := by
        rw [Nat.pow_succ, Nat.mul_comm (128 ^ k) 128, ← Nat.mul_assoc, ← Nat.add_mul]
        congr 1
        have := Nat.div_add_mod n 128; omega
      rw [ih (n / 128) (by omega) (k + 1) _ (by omega) (by omega) (fun _ => by omega), e2]
      congr 1
      ext <;> simp <;> omega
/-- What is read is what was written. -/
theorem getU_get : ∀ (s : List Int) (k a v c : Nat), k ≤ 9 → (∀ x ∈ s, IsByte x) → getU k a s = some (v, c) →
    ∃ m, v = a + m * 128 ^ k ∧ m * 128 ^ k < 18446744073709551616 ∧ (0 < k → 0 < m) ∧ c = k + (putU m).length ∧ s = putU m ++ s.drop (putU m).length
  | [], _, _, _, _, _, _, h => by simp [getU] at h
  | x :: s, k, a, v, c, hk, hb, h => by
    have hx := hb x (by simp)
    obtain ⟨hx0, hx1⟩ := hx
    simp only [getU] at h
    split at h
    · simp at h
    · rename_i hc
      have p128 : 128 ^ k ≤ (128 ^ 9 : Nat) := Nat.pow_le_pow_right (by decide) hk
      have pe : (128 ^ 9 : Nat) = 9223372036854775808 := by decide
      split at h
      · rename_i hlt
        simp only [Option.some.injEq, Prod.mk.injEq] at h
        obtain ⟨rfl, rfl⟩ := h
        have hm : x.toNat % 128 = x.toNat := Nat.mod_eq_of_lt (by omega)
        have hput : putU x.toNat = [x] := by rw [putU_lt (by omega)]; simp; omega
        refine ⟨x.toNat, by rw [hm], ?_, fun h0 => ?_, by rw [hput]; simp, by rw [hput]; simp⟩
        · by_cases h9 : k = 9
          · subst h9
            have : x.toNat ≤ 1 := by
              have : ¬ x > 1 := fun h => hc (.inl ⟨rfl, h⟩)
              omega
            calc x.toNat * 128 ^ 9 ≤ 1 * 128 ^ 9 := Nat.mul_le_mul_right _ this
              _ < _ := by decide
          · have p : 128 ^ k ≤ (128 ^ 8 : Nat) := Nat.pow_le_pow_right (by decide) (by omega)
            calc x.toNat * 128 ^ k ≤ 128 * 128 ^ 8 := Nat.mul_le_mul (by omega) p
              _ < _ := by decide
        · have : ¬ x = 0 := fun h => hc (.inr ⟨h, h0⟩)
          omega
      · rename_i hge
        have hk9 : k ≠ 9 := fun e => hc (.inl ⟨e, by omega⟩)
        obtain ⟨m, h1, h2, h3, h4, h5⟩ := getU_get s (k + 1) _ v c (by omega) (fun y hy => hb y (by simp [hy])) h
        have hm0 := h3 (by omega)
        have e128 : x.toNat % 128 = x.toNat - 128 := by omega
        have hput : putU (x.toNat % 128 + m * 128) = x :: putU m := by
          rw [putU_ge (by omega)]
          congr 1
          · omega
          · congr 1; omega
        have e2 : (x.toNat % 128 + m * 128) * 128 ^ k = x.toNat % 128 * 128 ^ k + m * 128 ^ (k + 1) := by
          rw [Nat.add_mul, Nat.pow_succ, Nat.mul_assoc, Nat.mul_comm 128 (128 ^ k)]
        refine ⟨x.toNat % 128 + m * 128, by rw [h1, e2]; omega, ?_,
          fun _ => by omega,
          by rw [hput, h4, List.length_cons]; omega,
          by rw [hput]; simpa using h5⟩
        rw [e2]
        -- the digit fits below
        have q : x.toNat % 128 < 128 := Nat.mod_lt _ (by decide)
        have d : (18446744073709551616 : Nat) = 2 * 128 ^ (8 - k) * 128 ^ (k + 1) := by
          rw [Nat.mul_assoc, ← Nat.pow_add, show 8 - k + (k + 1) = 9 by omega]
        rw [d] at h2 ⊢
        have := Nat.lt_of_mul_lt_mul_right h2
        have h6 : m * 128 ^ (k + 1) + 128 ^ (k + 1) ≤ 2 * 128 ^ (8 - k) * 128 ^ (k + 1) := by
          rw [← Nat.succ_mul]; exact Nat.mul_le_mul_right _ this
        have h7 : x.toNat % 128 * 128 ^ k < 128 ^ (k + 1) := by
          rw [Nat.pow_succ, Nat.mul_comm (128 ^ k)]; exact Nat.mul_lt_mul_of_pos_right q (Nat.pow_pos (by decide))
        omega
theorem getU_le {s : List Int} {v c : Nat} (hb : ∀ x ∈ s, IsByte x) (h : getU 0 0 s = some (v, c)) : v < 18446744073709551616 ∧ 0 < c ∧ c ≤ 10 ∧ c ≤ s.length ∧ c = (putU v).length ∧ s = putU v ++ s.drop c := by
  obtain ⟨m, h1, h2, _, h4, h5⟩ := getU_get s 0 0 v c (by omega) hb h
  simp at h1 h2 h4
  subst h1
  have := putU_len10 h2
  have := putU_pos v
  have h6 := congrArg List.length h5
  simp at h6
  rw [← h4] at h5
  exact ⟨h2, by omega, by omega, by omega, h4, h5⟩
theorem getU_putU {n : Nat} (h : n < 18446744073709551616) (s : List Int) : getU 0 0 (putU n ++ s) = some (n, (putU n).length) := by
  have := getU_put s n 0 0 (by simpa using h) (by omega) (by omega)
  simpa using this
theorem putU_inj {m n : Nat} (hm : m < 18446744073709551616) (hn : n < 18446744073709551616) {s t : List Int} (h : putU m ++ s = putU n ++ t) : m = n ∧ s = t := by
  have h1 := getU_putU hm s
  rw [h, getU_putU hn t] at h1
  simp only [Option.some.injEq, Prod.mk.injEq] at h1
  have := h1.1
  subst this
  exact ⟨rfl, List.append_cancel_left h⟩
/-- A digit more. -/
theorem or_shl {a c k : Nat} (ha : a < 128 ^ k) (hk : k ≤ 9) (hc : c < 128) (h9 : k = 9 → c ≤ 1) : bitv .or .u64 (a : Int) (shlv .u64 (c : Int) (7 * k : Nat)) = ((a + c * 128 ^ k : Nat) : Int) := by
  have e7 : (128 ^ k : Nat) = 2 ^ (7 * k) := by rw [Nat.pow_mul]
  have hpp : 0 < (128 ^ k : Nat) := Nat.pow_pos (by decide)
  have hlt : c * 128 ^ k ≤ 18446744073709551616 - 128 ^ k := by
    by_cases h : k = 9
    · subst h
      have := h9 rfl
      calc c * 128 ^ 9 ≤ 1 * 128 ^ 9 := Nat.mul_le_mul_right _ this
        _ ≤ _ := by decide
    · have p : 128 ^ k ≤ (128 ^ 8 : Nat) := Nat.pow_le_pow_right (by decide) (by omega)
      have : c * 128 ^ k ≤ 127 * 128 ^ 8 := Nat.mul_le_mul (by omega) p
      have e8 : (128 ^ 8 : Nat) = 72057594037927936 := by decide
      omega
  have p9 : 128 ^ k ≤ (128 ^ 9 : Nat) := Nat.pow_le_pow_right (by decide) hk
  have e9 : (128 ^ 9 : Nat) = 9223372036854775808 := by decide
  have s1 : shlv .u64 (c : Int) (7 * k : Nat) = ((c * 128 ^ k : Nat) : Int) := by
    unfold shlv
    have h0 : min ((7 * k : Nat) : Int).toNat IntKind.u64.bits = 7 * k := by
      have : IntKind.u64.bits = 64 := rfl
      rw [this]; simp; omega
    rw [h0, wrap_u64]
    have : ((c : Int) * 2 ^ (7 * k)) = ((c * 128 ^ k : Nat) : Int) := by rw [e7]; simp
    rw [this]
    omega
  rw [s1, bit64]
  simp only
  have b1 : (BitVec.ofInt 64 (a : Int)).toNat = a := by
    rw [BitVec.toNat_ofInt]; omega
  have b2 : (BitVec.ofInt 64 ((c * 128 ^ k : Nat) : Int)).toNat = c * 128 ^ k := by
    rw [BitVec.toNat_ofInt]; omega
  rw [BitVec.toNat_or, b1, b2]
  have : a ||| c * 128 ^ k = a + c * 128 ^ k := by
    rw [e7] at ha ⊢
    rw [Nat.or_comm, Nat.mul_comm, ← Nat.two_pow_add_eq_or_of_lt ha]; omega
  rw [this]
  omega
end Go.GG
