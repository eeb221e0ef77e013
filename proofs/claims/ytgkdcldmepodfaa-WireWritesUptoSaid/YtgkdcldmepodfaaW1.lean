/- Whatever is written has just its bytes (the plain law). -/
import Derived.Test.YtgkdcldmepodfaaG
open Go Go.GG Go.Proofs
set_option linter.unusedVariables false
namespace Go.Proofs.Ytgkdcldmepodfaa.gg
/-- A number's bytes, seven bits at a time. -/
def U : Nat → Int → List Int
  | 0, n => [n]
  | m + 1, n => if n ≥ 128 then (n % 128 + 128) :: U m (n / 128) else [n]
theorem U_len : ∀ (m : Nat) (n : Int), (U m n).length ≤ m + 1
  | 0, _ => by simp [U]
  | m + 1, n => by
    simp only [U]
    split
    · have := U_len m (n / 128); simp; omega
    · simp
theorem own_eq (k : Nat) (b : List Int) : wire_own k b = some b := by
  simp [wire_own, cut_all]
theorem lt_div {n : Int} {m : Nat} (h0 : 0 ≤ n) (h : n < 128 ^ (m + 2)) : n / 128 < 128 ^ (m + 1) := by
  have : (128 : Int) ^ (m + 2) = 128 ^ (m + 1) * 128 := by rw [Int.pow_succ]
  rw [this] at h
  exact Int.ediv_lt_of_lt_mul (by decide) h
theorem wire_p6 : ∀ (m k : Nat) (n : Int) (acc : List Int), 0 ≤ n → n < 18446744073709551616 → n < 128 ^ (m + 1) → acc.length + m + 1 ≤ 140737488355328 →
    ∃ l a, wire_Uvarint_p6 (k + m + 1) n acc = some (l, a) ∧ a ++ [IntKind.wrap .u8 l] = acc ++ U m n
  | 0, k, n, acc, h0, _, h1, _ => by
    refine ⟨n, acc, ?_, ?_⟩
    · have : ¬ n ≥ 128 := by omega
      simp [wire_Uvarint_p6, this]
    · simp only [U]; rw [wrap_u8]; congr 2; omega
  | m + 1, k, n, acc, h0, h64, h1, hr => by
    by_cases hn : n ≥ 128
    · have e1 : bitv .or .u8 (IntKind.wrap .u8 n) 128 = n % 128 + 128 := by
        rw [wrap_u8, or128 (by omega) (by omega)]; omega
      have e2 : shrv .u64 n 7 = n / 128 := shr_u64 7 (by decide)
      obtain ⟨l, a, h2, h3⟩ := wire_p6 m k (n / 128) (acc ++ [n % 128 + 128]) (by omega) (by omega) (lt_div h0 h1) (by simp; omega)
      refine ⟨l, a, ?_, ?_⟩
      · rw [show k + (m + 1) + 1 = (k + m + 1) + 1 by omega]
        rw [wire_Uvarint_p6, e1, e2]
        rw [room_of (by simp; omega)]
        simp [hn, h2]
      · rw [h3]; simp [U, hn]
    · refine ⟨n, acc, ?_, ?_⟩
      · rw [show k + (m + 1) + 1 = (k + m + 1) + 1 by omega]
        simp [wire_Uvarint_p6, hn]
      · simp only [U, if_neg hn]; rw [wrap_u8]; congr 2; omega
theorem ref_p6 : ∀ (m k : Nat) (n : Int) (acc : List Int), 0 ≤ n → n < 18446744073709551616 → n < 128 ^ (m + 1) → acc.length + m + 1 ≤ 140737488355328 →
    ∃ l a, ref02_Uvarint_p6 (k + m + 1) n acc = some (l, a) ∧ a ++ [IntKind.wrap .u8 l] = acc ++ U m n
  | 0, k, n, acc, h0, _, h1, _ => by
    refine ⟨n, acc, ?_, ?_⟩
    · have : ¬ n ≥ 128 := by omega
      simp [ref02_Uvarint_p6, this]
    · simp only [U]; rw [wrap_u8]; congr 2; omega
  | m + 1, k, n, acc, h0, h64, h1, hr => by
    by_cases hn : n ≥ 128
    · have e1 : IntKind.wrap .u8 (IntKind.wrap .u8 (n.tmod 128) + 128) = n % 128 + 128 := by
        rw [Int.tmod_eq_emod_of_nonneg h0, wrap_u8, wrap_u8]; omega
      have e2 : IntKind.wrap .u64 (n.tdiv 128) = n / 128 := by
        rw [Int.tdiv_eq_ediv_of_nonneg h0, wrap_u64]; omega
      obtain ⟨l, a, h2, h3⟩ := ref_p6 m k (n / 128) (acc ++ [n % 128 + 128]) (by omega) (by omega) (lt_div h0 h1) (by simp; omega)
      refine ⟨l, a, ?_, ?_⟩
      · rw [show k + (m + 1) + 1 = (k + m + 1) + 1 by omega]
        rw [ref02_Uvarint_p6, e1, e2]
        rw [room_of (by simp; omega)]
        simp [hn, h2]
      · rw [h3]; simp [U, hn]
    · refine ⟨n, acc, ?_, ?_⟩
      · rw [show k + (m + 1) + 1 = (k + m + 1) + 1 by omega]
        simp [ref02_Uvarint_p6, hn]
      · simp only [U, if_neg hn]; rw [wrap_u8]; congr 2; omega
def N (n : Int) : List Int := U 9 n
theorem N_len (n : Int) : (N n).length ≤ 10 := U_len 9 n
theorem wire_Uvarint_eq {k : Nat} (hk : 10 ≤ k) {n : Int} {b : List Int} (h0 : 0 ≤ n) (h1 : n < 18446744073709551616) (hb : b.length + 10 ≤ 140737488355328) : wire_Uvarint k b n = some (b ++ N n) := by
  obtain ⟨l, a, h2, h3⟩ := wire_p6 9 (k - 10) n b h0 h1 (by omega) (by omega)
  rw [show k - 10 + 9 + 1 = k by omega] at h2
  have h3 : a ++ [IntKind.wrap .u8 l] = b ++ N n := h3
  have hlen : (a ++ [IntKind.wrap .u8 l]).length = (b ++ N n).length := by rw [h3]
  have := N_len n
  simp only [wire_Uvarint, own_eq, h2, Option.bind_some]
  rw [h3, room_of (by simp at hlen ⊢; omega)]
  rfl
theorem ref_Uvarint_eq {k : Nat} (hk : 10 ≤ k) {n : Int} (h0 : 0 ≤ n) (h1 : n < 18446744073709551616) : ref02_Uvarint k n = some (N n) := by
  obtain ⟨l, a, h2, h3⟩ := ref_p6 9 (k - 10) n [] h0 h1 (by omega) (by simp)
  rw [show k - 10 + 9 + 1 = k by omega] at h2
  have h3 : a ++ [IntKind.wrap .u8 l] = [] ++ N n := h3
  have hlen : (a ++ [IntKind.wrap .u8 l]).length = ([] ++ N n).length := by rw [h3]
  have := N_len n
  simp only [ref02_Uvarint, h2, Option.bind_some]
  rw [h3, room_of (by simp at hlen ⊢; omega)]
  rfl
/-- A number with sign as one without. -/
def Z (n : Int) : Int := if n < 0 then 2 * (-(n + 1)) + 1 else 2 * n
theorem xor0 {a : Int} (h0 : 0 ≤ a) (h1 : a < 18446744073709551616) : bitv .xor .u64 a 0 = a := by
  rw [bit64]
  have e : BitVec.ofInt 64 0 = 0#64 := rfl
  simp only
  rw [e, BitVec.xor_zero, BitVec.toNat_ofInt]
  omega
theorem xor1 {a : Int} (h0 : 0 ≤ a) (h1 : a < 18446744073709551616) : bitv .xor .u64 a 18446744073709551615 = 18446744073709551615 - a := by
  rw [bit64]
  have e : BitVec.ofInt 64 18446744073709551615 = BitVec.allOnes 64 := by decide
  simp only
  rw [e, BitVec.xor_allOnes, BitVec.toNat_not, BitVec.toNat_ofInt]
  omega
theorem zig {n : Int} (h0 : -9223372036854775808 ≤ n) (h1 : n ≤ 9223372036854775807) :
    bitv .xor .u64 (IntKind.wrap .u64 (shlv .i64 n 1)) (IntKind.wrap .u64 (shrv .i64 n 63)) = Z n := by
  have e1 : IntKind.wrap .u64 (shlv .i64 n 1) = (2 * n) % 18446744073709551616 := by
    unfold shlv
    have h : min (1 : Int).toNat IntKind.i64.bits = 1 := rfl
    rw [h, wrap_u64, IntKind.wrap_i64]
    omega
  have e2 : shrv .i64 n 63 = if n < 0 then -1 else 0 := by
    unfold shrv
    have h : min (63 : Int).toNat IntKind.i64.bits = 63 := rfl
    rw [h, Int.fdiv_eq_ediv_of_nonneg _ (by decide)]
    split <;> omega
  rw [e1, e2]
  unfold Z
  split
  · rw [show IntKind.wrap .u64 (-1) = 18446744073709551615 by rw [wrap_u64]; rfl, xor1 (by omega) (by omega)]
    omega
  · rw [show IntKind.wrap .u64 0 = 0 by rw [wrap_u64]; rfl, xor0 (by omega) (by omega)]
    omega
theorem Z_range {n : Int} (h0 : -9223372036854775808 ≤ n) (h1 : n ≤ 9223372036854775807) : 0 ≤ Z n ∧ Z n < 18446744073709551616 := by
  unfold Z
  split <;> omega
theorem wire_Varint_eq {k : Nat} (hk : 10 ≤ k) {n : Int} {b : List Int} (h0 : -9223372036854775808 ≤ n) (h1 : n ≤ 9223372036854775807) (hb : b.length + 10 ≤ 140737488355328) : wire_Varint k b n = some (b ++ N (Z n)) := by
  obtain ⟨h2, h3⟩ := Z_range h0 h1
  simp only [wire_Varint, zig h0 h1, wire_Uvarint_eq hk h2 h3 hb, Option.bind_some]
theorem ref_Varint_eq {k : Nat} (hk : 10 ≤ k) {n : Int} (h0 : -9223372036854775808 ≤ n) (h1 : n ≤ 9223372036854775807) : ref02_Varint k n = some (N (Z n)) := by
  obtain ⟨h2, h3⟩ := Z_range h0 h1
  unfold ref02_Varint
  by_cases hn : n < 0
  · have e : IntKind.wrap .u64 (IntKind.wrap .u64 (IntKind.wrap .u64 (IntKind.wrap .i64 (0 - IntKind.wrap .i64 (n + 1))) * 2) + 1) = Z n := by
      rw [i64_in (n := n + 1) (by omega) (by omega), i64_in (by omega) (by omega), wrap_u64, wrap_u64, wrap_u64]
      simp only [Z, if_pos hn]
      omega
    rw [e, ref_Uvarint_eq hk h2 h3]
    simp [hn]
  · have e : IntKind.wrap .u64 (IntKind.wrap .u64 n * 2) = Z n := by
      rw [wrap_u64, wrap_u64]
      simp only [Z, if_neg hn]
      omega
    rw [e, ref_Uvarint_eq hk h2 h3]
    simp [hn]
/-- A number's lowest bytes. -/
def X : Nat → Int → List Int
  | 0, _ => []
  | m + 1, n => n % 256 :: X m (n / 256)
theorem X_len : ∀ (m : Nat) (n : Int), (X m n).length = m
  | 0, _ => rfl
  | m + 1, n => by simp [X, X_len m]
theorem X_add : ∀ (a b : Nat) (n : Int), X (a + b) n = X a n ++ X b (n / 256 ^ a)
  | 0, b, n => by simp [X]
  | a + 1, b, n => by
    rw [show a + 1 + b = (a + b) + 1 by omega]
    simp only [X, List.cons_append, X_add a b]
    have e : n / 256 / 256 ^ a = n / 256 ^ (a + 1) := by
      rw [Int.ediv_ediv_of_nonneg (by decide), Int.pow_succ, Int.mul_comm]
    rw [e]
theorem wire_Fixed4_eq (k : Nat) {n : Int} {b : List Int} (hb : b.length + 4 ≤ 140737488355328) : wire_Fixed4 k b n = some (b ++ X 4 n) := by
  have e1 : shrv .u32 n 8 = n / 256 := shr_u32 8 (by decide)
  have e2 : shrv .u32 n 16 = n / 65536 := shr_u32 16 (by decide)
  have e3 : shrv .u32 n 24 = n / 16777216 := shr_u32 24 (by decide)
  simp only [wire_Fixed4, own_eq, Option.bind_some, e1, e2, e3, wrap_u8]
  rw [room_of (by simp; omega)]
  simp only [cond_true, X]
  have h2 : n / 256 / 256 = n / 65536 := by omega
  have h3 : n / 256 / 256 / 256 = n / 16777216 := by omega
  rw [h3, h2]
theorem wire_Fixed8_eq (k : Nat) {n : Int} {b : List Int} (h0 : 0 ≤ n) (h1 : n < 18446744073709551616) (hb : b.length + 8 ≤ 140737488355328) : wire_Fixed8 k b n = some (b ++ X 8 n) := by
  have e1 : shrv .u64 n 32 = n / 4294967296 := shr_u64 32 (by decide)
  simp only [wire_Fixed8, e1]
  rw [wire_Fixed4_eq k (by omega)]
  simp only [Option.bind_some]
  rw [wire_Fixed4_eq k (by simp [X_len]; omega)]
  simp only [Option.bind_some, List.append_assoc]
  congr 2
  rw [show (8 : Nat) = 4 + 4 from rfl, X_add 4 4]
  have key : ∀ (m : Nat) (a c : Int), m ≤ 4 → a % 4294967296 = c % 4294967296 → X 4 a = X 4 c := by
    intro m a c _ h
    simp only [X]
    have h1 : a % 256 = c % 256 := by omega
    have h2 : a / 256 % 256 = c / 256 % 256 := by omega
    have h3 : a / 256 / 256 % 256 = c / 256 / 256 % 256 := by omega
    have h4 : a / 256 / 256 / 256 % 256 = c / 256 / 256 / 256 % 256 := by omega
    rw [h1, h2, h3, h4]
  congr 1
  · exact key 4 _ _ (by decide) (by rw [wrap_u32]; omega)
  · exact key 4 _ _ (by decide) (by rw [wrap_u32]; show _ = n / 4294967296 % 4294967296; omega)
theorem ref_Fixed_p8 : ∀ (m k : Nat) (n s i : Int) (acc : List Int), i + m = s → 0 ≤ i → s ≤ 8 → 0 ≤ n → acc.length + m ≤ 140737488355328 →
    ref02_Fixed_p8 (k + m + 1) n s i acc = some (acc ++ X m (n / 256 ^ i.toNat))
  | 0, k, n, s, i, acc, h, _, _, _, _ => by
    have : ¬ i < s := by omega
    simp [ref02_Fixed_p8, this, X]
  | m + 1, k, n, s, i, acc, h, h0, h8, hn, hr => by
    have hi : i < s := by omega
    have e1 : IntKind.wrap .u64 (IntKind.wrap .i64 (8 * i)) = ((8 * i.toNat : Nat) : Int) := by
      rw [i64_in (by omega) (by omega), wrap_u64]; omega
    have e2 : shrv .u64 n ((8 * i.toNat : Nat) : Int) = n / 256 ^ i.toNat := by
      rw [shr_u64 _ (by omega), Int.pow_mul]; rfl
    have e3 : IntKind.wrap .i64 (i + 1) = i + 1 := i64_in (by omega) (by omega)
    have ih := ref_Fixed_p8 m k n s (i + 1) (acc ++ [n / 256 ^ i.toNat % 256]) (by omega) (by omega) h8 hn (by simp; omega)
    rw [show k + (m + 1) + 1 = (k + m + 1) + 1 by omega]
    rw [ref02_Fixed_p8, e1, e2, e3, wrap_u8]
    rw [room_of (by simp; omega)]
    have h4 : (0 : Int) ≤ ((8 * i.toNat : Nat) : Int) := Int.natCast_nonneg _
    simp only [hi, decide_true, cond_true, h4]
    rw [ih]
    have e4 : (i + 1).toNat = i.toNat + 1 := by omega
    simp only [X, List.append_assoc, List.singleton_append]
    rw [e4, Int.ediv_ediv_of_nonneg (Int.le_of_lt (Int.pow_pos (by decide))), Int.pow_succ]
theorem ref_Fixed_eq {k : Nat} {m : Nat} (hk : m + 1 ≤ k) (hm : m ≤ 8) {n : Int} (h0 : 0 ≤ n) : ref02_Fixed k n m = some (X m n) := by
  have := ref_Fixed_p8 m (k - m - 1) n m 0 [] (by omega) (by omega) (by omega) h0 (by simp; omega)
  rw [show k - m - 1 + m + 1 = k by omega] at this
  simp [ref02_Fixed, this]
theorem wire_Bytes_eq {k : Nat} (hk : 10 ≤ k) {b s : List Int} (hb : b.length + s.length + 10 ≤ 140737488355328) : wire_Bytes k b s = some (b ++ (N s.length ++ s)) := by
  have e : IntKind.wrap .u64 (s.length : Int) = s.length := u64_in (by omega) (by omega)
  have := N_len s.length
  simp only [wire_Bytes, e, wire_Uvarint_eq hk (n := s.length) (b := b) (by omega) (by omega) (by omega), Option.bind_some]
  rw [room_of (by simp; omega)]
  simp
theorem ref_Bytes_eq {k : Nat} (hk : 10 ≤ k) {s : List Int} (hb : s.length + 10 ≤ 140737488355328) : ref02_Bytes k s = some (N s.length ++ s) := by
  have e : IntKind.wrap .u64 (s.length : Int) = s.length := u64_in (by omega) (by omega)
  have := N_len s.length
  simp only [ref02_Bytes, e, ref_Uvarint_eq hk (n := s.length) (by omega) (by omega), Option.bind_some]
  rw [room_of (by simp; omega)]
  simp
theorem same_refl (k : Nat) (a : List Int) : law02_same k a a = some true := by simp [law02_same]
abbrev Item := Int × Int × (List Int) × Int
theorem written_eq {k : Nat} (hk : 10 ≤ k) {b : List Int} {x : Item} (h0 : 0 ≤ x.2.1) (h1 : x.2.1 ≤ 18446744073709551615) (hb : b.length + x.2.2.1.length + 10 ≤ 140737488355328) :
    ∃ c, law02_written k b x = some (b ++ c, c) ∧ c.length ≤ 10 + x.2.2.1.length := by
  unfold law02_written
  by_cases d0 : x.1 = 0
  · refine ⟨N x.2.1, ?_, by have := N_len x.2.1; omega⟩
    rw [wire_Uvarint_eq hk h0 (by omega) (by omega), ref_Uvarint_eq hk h0 (by omega)]
    simp [d0]
  by_cases d1 : x.1 = 1
  · have hr : -9223372036854775808 ≤ IntKind.wrap .i64 x.2.1 ∧ IntKind.wrap .i64 x.2.1 ≤ 9223372036854775807 := by rw [IntKind.wrap_i64]; omega
    refine ⟨N (Z (IntKind.wrap .i64 x.2.1)), ?_, by have := N_len (Z (IntKind.wrap .i64 x.2.1)); omega⟩
    rw [wire_Varint_eq hk hr.1 hr.2 (by omega), ref_Varint_eq hk hr.1 hr.2]
    simp [d1]
  by_cases d2 : x.1 = 2
  · have e : bitv .and .u64 x.2.1 4294967295 = x.2.1 % 4294967296 := by
      rw [bit64]
      simp only
      rw [BitVec.toNat_and, BitVec.toNat_ofInt, BitVec.toNat_ofInt]
      have : (4294967295 % ((2 ^ 64 : Nat) : Int)).toNat = 2 ^ 32 - 1 := by decide
      rw [this, Nat.and_two_pow_sub_one_eq_mod]
      omega
    refine ⟨X 4 (x.2.1 % 4294967296), ?_, by rw [X_len]; omega⟩
    rw [wire_Fixed4_eq k (by omega), e, wrap_u32, show (4 : Int) = ((4 : Nat) : Int) from rfl, ref_Fixed_eq (by omega) (by omega) (by omega)]
    simp [d2]
  by_cases d3 : x.1 = 3
  · refine ⟨X 8 x.2.1, ?_, by rw [X_len]; omega⟩
    rw [wire_Fixed8_eq k h0 (by omega) (by omega), show (8 : Int) = ((8 : Nat) : Int) from rfl, ref_Fixed_eq (by omega) (by omega) h0]
    simp [d3]
  by_cases d6 : x.1 = 6
  · refine ⟨N x.2.2.1.length ++ x.2.2.1, ?_, by have := N_len x.2.2.1.length; simp; omega⟩
    rw [wire_Bytes_eq hk (by omega), ref_Bytes_eq hk (by omega), room_of (by omega)]
    simp [d6]
  · have e0 : (x.1 == 0) = false := by simpa using d0
    have e1 : (x.1 == 1) = false := by simpa using d1
    have e2 : (x.1 == 2) = false := by simpa using d2
    have e3 : (x.1 == 3) = false := by simpa using d3
    have e6 : (x.1 == 6) = false := by simpa using d6
    exact ⟨[], by rw [e0, e1, e2, e3, e6]; simp, by simp⟩
def size (l : List Item) : Nat := (l.map fun x => 10 + x.2.2.1.length).sum
theorem writes_p12 : ∀ (m k : Nat) (b : List Int) (l : List Item) (i : Int), i + m = l.length → 0 ≤ i → 10 ≤ k → (∀ x ∈ l, 0 ≤ x.2.1 ∧ x.2.1 ≤ 18446744073709551615) →
    b.length + size (l.drop i.toNat) + 10 ≤ 140737488355328 → (l.length : Int) ≤ 140737488355328 → law02_WireWrites_p12 (k + m + 1) b l i b = some (.inl ())
  | 0, k, b, l, i, h, _, _, _, _, _ => by
    have : ¬ i < (l.length : Int) := by omega
    simp [law02_WireWrites_p12, this]
  | m + 1, k, b, l, i, h, h0, hk, hw, hs, hl => by
    have hi : i < (l.length : Int) := by omega
    have hi' : i.toNat < l.length := by omega
    have e : at? l i = some l[i.toNat] := by
      have := at?_lt (xs := l) (i := i.toNat) hi'
      rwa [Int.toNat_of_nonneg h0] at this
    have hx := hw l[i.toNat] (List.getElem_mem hi')
    rw [List.drop_eq_getElem_cons hi'] at hs
    simp only [size, List.map_cons, List.sum_cons] at hs
    obtain ⟨c, h1, h2⟩ := written_eq (k := k + m + 1) (by omega) (b := b) (x := l[i.toNat]) hx.1 hx.2 (by omega)
    have e3 : IntKind.wrap .i64 (i + 1) = i + 1 := i64_in (by omega) (by omega)
    have ih := writes_p12 m k (b ++ c) l (i + 1) (by omega) (by omega) hk hw (by
      have e4 : (i + 1).toNat = i.toNat + 1 := by omega
      rw [e4]; simp only [List.length_append, size]; omega) hl
    rw [show k + (m + 1) + 1 = (k + m + 1) + 1 by omega]
    rw [law02_WireWrites_p12]
    simp only [hi, decide_true, cond_true, e, Option.bind_some, h1, e3]
    rw [room_of (by simp; omega), same_refl]
    simp [ih]
theorem awake_eq {k : Nat} (hk : 10 ≤ k) : law02_awake k = some true := by
  unfold law02_awake
  rw [wire_Uvarint_eq hk (by decide) (by decide) (by decide)]
  decide
/-- The law, plainly. -/
theorem law_WireWrites (head : List Int) (l : List Item) (hw : ∀ x ∈ l, 0 ≤ x.2.1 ∧ x.2.1 ≤ 18446744073709551615) (hb : head.length + size l ≤ 100000000) : ∃ k, law02_WireWrites k head l = some true := by
  have hl : l.length ≤ size l := by
    unfold size
    clear hw hb
    induction l with
    | nil => simp
    | cons x l ih => simp only [List.length_cons, List.map_cons, List.sum_cons]; omega
  refine ⟨10 + l.length + 1, ?_⟩
  have := writes_p12 l.length 10 head l 0 (by omega) (by omega) (by omega) hw (by simp; omega) (by omega)
  simp only [law02_WireWrites]
  rw [room_of (by omega), this]
  simp [awake_eq (k := 10 + l.length + 1) (by omega)]
theorem size_le : ∀ l : List Item, size l ≤ 10 * ((T.slice (.pair (.int .i64) (.pair (.int .u64) (.pair (.slice (.int .u8)) (.int .i64))))).bulk l)
  | [] => by simp [size]
  | x :: l => by
    have h := size_le l
    have h1 := bulk_len (t := .int .u8) x.2.2.1
    simp only [size, T.bulk, List.map_cons, List.sum_cons] at h h1 ⊢
    omega
end Go.Proofs.Ytgkdcldmepodfaa.gg
