/- Numbers with sign, and of so many bytes: written and read. -/
import Derived.Test.YtgkdcldmepodfaaW
open Go Go.GG
set_option linter.unusedVariables false
namespace Go.Proofs.Ytgkdcldmepodfaa.gg
/-- A number with sign as one without, and back. -/
def Z (n : Int) : Int := if n < 0 then 2 * (-(n + 1)) + 1 else 2 * n
def zag (n : Int) : Int := if n % 2 = 0 then n / 2 else -(n / 2) - 1
theorem xor0 {a : Int} (h0 : 0 ≤ a) (h1 : a < 18446744073709551616) : bitv .xor .u64 a 0 = a := by
  rw [bit64]
  have e : BitVec.ofInt 64 0 = 0#64 := rfl
  try dsimp only
  rw [e, BitVec.xor_zero, BitVec.toNat_ofInt]
  omega
theorem xor1 {a : Int} (h0 : 0 ≤ a) (h1 : a < 18446744073709551616) : bitv .xor .u64 a 18446744073709551615 = 18446744073709551615 - a := by
  rw [bit64]
  have e : BitVec.ofInt 64 18446744073709551615 = BitVec.allOnes 64 := by decide
  try dsimp only
  rw [e, BitVec.xor_allOnes, BitVec.toNat_not, BitVec.toNat_ofInt]
  omega
theorem zig {n : Int} (h0 : -9223372036854775808 ≤ n) (h1 : n ≤ 9223372036854775807) :
    bitv .xor .u64 (IntKind.wrap .u64 (shlv .i64 n 1)) (IntKind.wrap .u64 (shrv .i64 n 63)) = Z n := by
  have e1 : IntKind.wrap .u64 (shlv .i64 n 1) = (2 * n) % 18446744073709551616 := by
    unfold shlv
    have h : min (1 : Int).toNat IntKind.i64.bits = 1 := rfl
    rw [h, wrap_u64, IntKind.wrap_i64]
    omega
  have e2 : shrv .i64 n 63 = if n < 0 then -1 else 0 := by
    unfold shrv
    have h : min (63 : Int).toNat IntKind.i64.bits = 63 := rfl
    rw [h, Int.fdiv_eq_ediv_of_nonneg _ (by decide)]
    split <;> omega
  rw [e1, e2]
  unfold Z
  split
  · rw [show IntKind.wrap .u64 (-1) = 18446744073709551615 by rw [wrap_u64]; rfl, xor1 (by omega) (by omega)]
    omega
  · rw [show IntKind.wrap .u64 0 = 0 by rw [wrap_u64]; rfl, xor0 (by omega) (by omega)]
    omega
theorem Z_range {n : Int} (h0 : -9223372036854775808 ≤ n) (h1 : n ≤ 9223372036854775807) : 0 ≤ Z n ∧ Z n < 18446744073709551616 := by
  unfold Z
  split <;> omega
theorem zag_range {n : Int} (h0 : 0 ≤ n) (h1 : n < 18446744073709551616) : -9223372036854775808 ≤ zag n ∧ zag n ≤ 9223372036854775807 := by
  unfold zag
  split <;> omega
theorem zag_Z {n : Int} : zag (Z n) = n := by
  unfold zag Z
  split <;> split <;> omega
theorem Z_zag {n : Int} (h0 : 0 ≤ n) : Z (zag n) = n := by
  unfold zag Z
  split <;> split <;> omega
theorem bitI64 (op : BinOp) (a b : Int) (h : op = .xor) : bitv op .i64 a b = IntKind.wrap .i64 ((BitVec.ofInt 64 a ^^^ BitVec.ofInt 64 b).toNat : Int) := by subst h; rfl
theorem zag_eq {n : Int} (h0 : 0 ≤ n) (h1 : n < 18446744073709551616) :
    bitv .xor .i64 (IntKind.wrap .i64 (shrv .u64 n 1)) (IntKind.wrap .i64 (0 - IntKind.wrap .i64 (bitv .and .u64 n 1))) = zag n := by
  have e1 : shrv .u64 n 1 = n / 2 := by rw [show (1 : Int) = ((1 : Nat) : Int) from rfl, shr_u64 1 (by omega)]; omega
  have e2 : bitv .and .u64 n 1 = n % 2 := by
    rw [bit64]
    try dsimp only
    rw [BitVec.toNat_and, BitVec.toNat_ofInt, BitVec.toNat_ofInt]
    have : ((1 : Int) % ((2 ^ 64 : Nat) : Int)).toNat = 1 := by decide
    rw [this, Nat.and_one_is_mod]
    omega
  rw [e1, e2, i64_in (n := n / 2) (by omega) (by omega), i64_in (n := n % 2) (by omega) (by omega), i64_in (n := 0 - n % 2) (by omega) (by omega), bitI64 _ _ _ rfl]
  unfold zag
  by_cases h : n % 2 = 0
  · rw [if_pos h, h]
    have e : BitVec.ofInt 64 (0 - 0) = 0#64 := by decide
    rw [e, BitVec.xor_zero, BitVec.toNat_ofInt, IntKind.wrap_i64]
    omega
  · have hm : n % 2 = 1 := by omega
    rw [if_neg h, hm]
    have e : BitVec.ofInt 64 (0 - 1) = BitVec.allOnes 64 := by decide
    rw [e, BitVec.xor_allOnes, BitVec.toNat_not, BitVec.toNat_ofInt, IntKind.wrap_i64]
    omega
theorem Varint_eq {n : Int} {b : List Int} (h0 : -9223372036854775808 ≤ n) (h1 : n ≤ 9223372036854775807) (hb : b.length ≤ 10000000000000) : wire_Varint' b n = some (b ++ putU (Z n).toNat) := by
  obtain ⟨h2, h3⟩ := Z_range h0 h1
  unfold wire_Varint'
  rw [zig h0 h1, Uvarint_eq' b _ h2 h3 hb]; rfl
theorem refVarint_eq {n : Int} (h0 : -9223372036854775808 ≤ n) (h1 : n ≤ 9223372036854775807) : ref02_Varint' n = some (putU (Z n).toNat) := by
  obtain ⟨h2, h3⟩ := Z_range h0 h1
  unfold ref02_Varint'
  by_cases hn : n < 0
  · have e : IntKind.wrap .u64 (IntKind.wrap .u64 (IntKind.wrap .u64 (IntKind.wrap .i64 (0 - IntKind.wrap .i64 (n + 1))) * 2) + 1) = Z n := by
      rw [i64_in (n := n + 1) (by omega) (by omega), i64_in (by omega) (by omega), wrap_u64, wrap_u64, wrap_u64]
      simp only [Z, if_pos hn]
      omega
    rw [e, refUvarint_eq' _ h2 h3, decide_eq_true hn]; rfl
  · have e : IntKind.wrap .u64 (IntKind.wrap .u64 n * 2) = Z n := by
      rw [wrap_u64, wrap_u64]
      simp only [Z, if_neg hn]
      omega
    rw [e, refUvarint_eq' _ h2 h3, decide_eq_false hn]; rfl
theorem rVarint_eq {s : Rd} (h : RInv s) : wire_Reader_Varint' s = some (zag (rU s).1, (rU s).2) := by
  unfold wire_Reader_Varint'
  rw [rUvarint_eq h]
  simp only [Option.bind_some]
  rw [zag_eq (rU_range h).1 (rU_range h).2]
/-- A number's lowest bytes. -/
def X : Nat → Int → List Int
  | 0, _ => []
  | m + 1, n => n % 256 :: X m (n / 256)
theorem X_len : ∀ (m : Nat) (n : Int), (X m n).length = m
  | 0, _ => rfl
  | m + 1, n => by simp [X, X_len m]
theorem X_byte : ∀ (m : Nat) (n : Int), ∀ x ∈ X m n, IsByte x
  | 0, _, x, h => by simp [X] at h
  | m + 1, n, x, h => by
    simp only [X, List.mem_cons] at h
    rcases h with rfl | h
    · constructor <;> omega
    · exact X_byte m _ x h
theorem X_add : ∀ (a b : Nat) (n : Int), X (a + b) n = X a n ++ X b (n / 256 ^ a)
  | 0, b, n => by simp [X]
  | a + 1, b, n => by
    rw [show a + 1 + b = (a + b) + 1 by omega]
    simp only [X, List.cons_append, X_add a b]
    have e : n / 256 / 256 ^ a = n / 256 ^ (a + 1) := by
      rw [Int.ediv_ediv_of_nonneg (by decide), Int.pow_succ, Int.mul_comm]
    rw [e]
theorem X4_congr {a c : Int} (h : a % 4294967296 = c % 4294967296) : X 4 a = X 4 c := by
  simp only [X]
  have h1 : a % 256 = c % 256 := by omega
  have h2 : a / 256 % 256 = c / 256 % 256 := by omega
  have h3 : a / 256 / 256 % 256 = c / 256 / 256 % 256 := by omega
  have h4 : a / 256 / 256 / 256 % 256 = c / 256 / 256 / 256 % 256 := by omega
  rw [h1, h2, h3, h4]
theorem or_u32 {a c : Nat} {j : Nat} (ha : a < 2 ^ j) (hj : j < 32) (hc : a + c * 2 ^ j < 4294967296) : bitv .or .u32 (a : Int) (shlv .u32 (c : Int) (j : Int)) = ((a + c * 2 ^ j : Nat) : Int) := by
  have s1 : shlv .u32 (c : Int) (j : Int) = ((c * 2 ^ j : Nat) : Int) := by
    unfold shlv
    have h0 : min (j : Int).toNat IntKind.u32.bits = j := by
      have : IntKind.u32.bits = 32 := rfl
      rw [this]; simp; omega
    rw [h0, wrap_u32]
    have : ((c : Int) * 2 ^ j) = ((c * 2 ^ j : Nat) : Int) := by simp
    rw [this]; omega
  rw [s1]
  show IntKind.wrap .u32 ((BitVec.ofInt 32 _ ||| BitVec.ofInt 32 _).toNat : Int) = _
  rw [wrap_u32, BitVec.toNat_or, BitVec.toNat_ofInt, BitVec.toNat_ofInt]
  have b1 : ((a : Int) % ((2 ^ 32 : Nat) : Int)).toNat = a := by omega
  have b2 : (((c * 2 ^ j : Nat) : Int) % ((2 ^ 32 : Nat) : Int)).toNat = c * 2 ^ j := by omega
  rw [b1, b2]
  have : a ||| c * 2 ^ j = a + c * 2 ^ j := by
    rw [Nat.or_comm, Nat.mul_comm, ← Nat.two_pow_add_eq_or_of_lt ha]; omega
  rw [this]; omega
theorem or_u64 {a c : Nat} {j : Nat} (ha : a < 2 ^ j) (hj : j < 64) (hc : a + c * 2 ^ j < 18446744073709551616) : bitv .or .u64 (a : Int) (shlv .u64 (c : Int) (j : Int)) = ((a + c * 2 ^ j : Nat) : Int) := by
  have s1 : shlv .u64 (c : Int) (j : Int) = ((c * 2 ^ j : Nat) : Int) := by
    unfold shlv
    have h0 : min (j : Int).toNat IntKind.u64.bits = j := by
      have : IntKind.u64.bits = 64 := rfl
      rw [this]; simp; omega
    rw [h0, wrap_u64]
    have : ((c : Int) * 2 ^ j) = ((c * 2 ^ j : Nat) : Int) := by simp
    rw [this]; omega
  rw [s1, bit64]
  try dsimp only
  rw [BitVec.toNat_or, BitVec.toNat_ofInt, BitVec.toNat_ofInt]
  have b1 : ((a : Int) % ((2 ^ 64 : Nat) : Int)).toNat = a := by omega
  have b2 : (((c * 2 ^ j : Nat) : Int) % ((2 ^ 64 : Nat) : Int)).toNat = c * 2 ^ j := by omega
  rw [b1, b2]
  have : a ||| c * 2 ^ j = a + c * 2 ^ j := by
    rw [Nat.or_comm, Nat.mul_comm, ← Nat.two_pow_add_eq_or_of_lt ha]; omega
  rw [this]; omega
theorem Fixed4_eq {n : Int} {b : List Int} (hb : b.length ≤ 100000000000000) : wire_Fixed4' b n = some (b ++ X 4 n) := by
  have e1 : shrv .u32 n 8 = n / 256 := shr_u32 8 (by decide)
  have e2 : shrv .u32 n 16 = n / 65536 := shr_u32 16 (by decide)
  have e3 : shrv .u32 n 24 = n / 16777216 := shr_u32 24 (by decide)
  simp only [wire_Fixed4', own_eq, Option.bind_some, e1, e2, e3, wrap_u8]
  rw [room_of (by simp; omega)]
  simp only [cond_true, X]
  have h2 : n / 256 / 256 = n / 65536 := by omega
  have h3 : n / 256 / 256 / 256 = n / 16777216 := by omega
  rw [h3, h2]
theorem Fixed8_eq {n : Int} {b : List Int} (h0 : 0 ≤ n) (h1 : n < 18446744073709551616) (hb : b.length ≤ 10000000000000) : wire_Fixed8' b n = some (b ++ X 8 n) := by
  have e1 : shrv .u64 n 32 = n / 4294967296 := shr_u64 32 (by decide)
  simp only [wire_Fixed8', e1]
  rw [Fixed4_eq (by omega)]
  simp only [Option.bind_some]
  rw [Fixed4_eq (by simp [X_len]; omega)]
  simp only [Option.bind_some, List.append_assoc]
  congr 2
  rw [show (8 : Nat) = 4 + 4 from rfl, X_add 4 4]
  congr 1
  · exact X4_congr (by rw [wrap_u32]; omega)
  · exact X4_congr (by rw [wrap_u32]; show _ = n / 4294967296 % 4294967296; omega)
theorem refFixed_p8 (n : Int) (h0 : 0 ≤ n) (s : Nat) (hs : s ≤ 8) : ∀ (m i : Nat) (acc : List Int), i + m = s → acc.length + m ≤ 1000 → ref02_Fixed_p8' n s i acc = some (acc ++ X m (n / 256 ^ i))
  | 0, i, acc, h, ha => by
    rw [ref02_Fixed_p8_eq, decide_eq_false (by omega : ¬ (i : Int) < (s : Int))]; simp [X]
  | m + 1, i, acc, h, ha => by
    rw [ref02_Fixed_p8_eq, decide_eq_true (by omega : (i : Int) < (s : Int)), i64_in (n := 8 * (i : Int)) (by omega) (by omega), u64_in (n := 8 * (i : Int)) (by omega) (by omega), decide_eq_true (by omega : (0 : Int) ≤ 8 * (i : Int))]
    have e8 : 8 * (i : Int) = ((8 * i : Nat) : Int) := by omega
    rw [e8, shr_u64 (8 * i) (by omega), wrap_u8, room_of (by simp; omega), i64_in (by omega) (by omega)]
    have ep : (2 : Int) ^ (8 * i) = 256 ^ i := by rw [Int.pow_mul]; rfl
    rw [ep]
    simp only [cond_true]
    rw [show (i : Int) + 1 = ((i + 1 : Nat) : Int) by omega, refFixed_p8 n h0 s hs m (i + 1) (acc ++ [n / 256 ^ i % 256]) (by omega) (by simp; omega)]
    simp only [X, List.append_assoc, List.singleton_append]
    have e : n / 256 ^ i / 256 = n / 256 ^ (i + 1) := by
      rw [Int.ediv_ediv_of_nonneg (Int.le_of_lt (Int.pow_pos (by decide))), Int.pow_succ]
    rw [e]
theorem refFixed_eq {m : Nat} (hm : m ≤ 8) {n : Int} (h0 : 0 ≤ n) : ref02_Fixed' n m = some (X m n) := by
  unfold ref02_Fixed'
  have := refFixed_p8 n h0 m hm m 0 [] (by omega) (by simp; omega)
  simp only [show ((0 : Nat) : Int) = 0 from rfl] at this
  rw [this]; simp
theorem low4_eq {a b c d : Int} (ha : IsByte a) (hb : IsByte b) (hc : IsByte c) (hd : IsByte d) (r : List Int) : wire_low4' (a :: b :: c :: d :: r) = some (a + b * 256 + c * 65536 + d * 16777216) := by
  obtain ⟨ha0, ha1⟩ := ha; obtain ⟨hb0, hb1⟩ := hb; obtain ⟨hc0, hc1⟩ := hc; obtain ⟨hd0, hd1⟩ := hd
  unfold wire_low4'
  have h0 : at? (a :: b :: c :: d :: r) 0 = some a := rfl
  have h1 : at? (a :: b :: c :: d :: r) 1 = some b := rfl
  have h2 : at? (a :: b :: c :: d :: r) 2 = some c := rfl
  have h3 : at? (a :: b :: c :: d :: r) 3 = some d := rfl
  simp only [h0, h1, h2, h3, Option.bind_some]
  have w : ∀ x : Int, 0 ≤ x → x < 256 → IntKind.wrap .u32 x = ((x.toNat : Nat) : Int) := fun x p q => by rw [wrap_u32]; omega
  rw [w a ha0 ha1, w b hb0 hb1, w c hc0 hc1, w d hd0 hd1]
  have o1 := or_u32 (a := a.toNat) (c := b.toNat) (j := 8) (by omega) (by omega) (by omega)
  simp only [show ((8 : Nat) : Int) = 8 from rfl] at o1
  rw [o1]
  have o2 := or_u32 (a := a.toNat + b.toNat * 2 ^ 8) (c := c.toNat) (j := 16) (by omega) (by omega) (by omega)
  simp only [show ((16 : Nat) : Int) = 16 from rfl] at o2
  rw [o2]
  have o3 := or_u32 (a := a.toNat + b.toNat * 2 ^ 8 + c.toNat * 2 ^ 16) (c := d.toNat) (j := 24) (by omega) (by omega) (by omega)
  simp only [show ((24 : Nat) : Int) = 24 from rfl] at o3
  rw [o3]
  congr 1
  omega
theorem low4_X (n : Int) (r : List Int) : wire_low4' (X 4 n ++ r) = some (n % 4294967296) := by
  have b : ∀ x : Int, IsByte (x % 256) := fun x => by constructor <;> omega
  simp only [X, List.cons_append, List.nil_append]
  rw [low4_eq (b _) (b _) (b _) (b _)]
  congr 1
  omega
theorem take_eq {s : Rd} (h : RInv s) (h0 : s.2.2 = 0) {m : Nat} (hm : m ≤ (rest s).length) : wire_Reader_take' s m = some ((rest s).take m, rto s m) := by
  have h1 := h.lo; have h2 := h.hi; have h3 := h.big; have hrl := h.rest_len
  unfold wire_Reader_take'
  rw [fine_eq]
  simp only [Option.bind_some, h0, beq_self_eq_true, Bool.not_true, cond_false]
  rw [i64_in (n := (s.1.length : Int) - s.2.1) (by omega) (by omega), decide_eq_false (by omega : ¬ (m : Int) > (s.1.length : Int) - s.2.1), cond_false]
  rw [i64_in (n := s.2.1 + (m : Int)) (by omega) (by omega), i64_in (n := s.2.1 + (m : Int) - (m : Int)) (by omega) (by omega)]
  rw [decide_eq_true (by omega : (0 : Int) ≤ s.2.1 + (m : Int) - (m : Int)), decide_eq_true (by omega : s.2.1 + (m : Int) - (m : Int) ≤ s.2.1 + (m : Int)), decide_eq_true (by omega : s.2.1 + (m : Int) ≤ (s.1.length : Int))]
  simp only [Bool.and_self, cond_true]
  have ecut : cut s.1 (s.2.1 + (m : Int) - (m : Int)) (s.2.1 + (m : Int)) = (rest s).take m := by
    simp only [cut, rest]
    rw [List.drop_take]
    congr 1
    · omega
    · congr 1; omega
  rw [ecut]; simp [rto, h0]
theorem rFixed4_eq {s : Rd} (h : RInv s) (h0 : s.2.2 = 0) {n : Int} {r : List Int} (hr : rest s = X 4 n ++ r) : wire_Reader_Fixed4' s = some (n % 4294967296, rto s 4) := by
  unfold wire_Reader_Fixed4'
  have e : (rest s).take 4 = X 4 n := by rw [hr, List.take_left' (X_len 4 n)]
  have := take_eq h h0 (m := 4) (by rw [hr]; simp [X_len])
  rw [show (4 : Int) = ((4 : Nat) : Int) from rfl, this, e]
  have l := low4_X n []
  rw [List.append_nil] at l
  simp only [Option.bind_some, l]
  rfl
theorem rFixed8_eq {s : Rd} (h : RInv s) (h0 : s.2.2 = 0) {n : Int} (hn0 : 0 ≤ n) (hn : n < 18446744073709551616) {r : List Int} (hr : rest s = X 8 n ++ r) : wire_Reader_Fixed8' s = some (n, rto s 8) := by
  unfold wire_Reader_Fixed8'
  have e : (rest s).take 8 = X 8 n := by rw [hr, List.take_left' (X_len 8 n)]
  have := take_eq h h0 (m := 8) (by rw [hr]; simp [X_len])
  rw [show (8 : Int) = ((8 : Nat) : Int) from rfl, this, e]
  have e8 : X 8 n = X 4 n ++ X 4 (n / 4294967296) := by rw [show (8 : Nat) = 4 + 4 from rfl, X_add 4 4]; rfl
  have hne : (!(X 8 n).isEmpty) = true := rfl
  have hc : cut (X 8 n) 4 ((X 8 n).length : Int) = X 4 (n / 4294967296) := by
    rw [cut_drop, e8]
    exact List.drop_left' (X_len 4 n)
  have l1 := low4_X n (X 4 (n / 4294967296))
  rw [← e8] at l1
  have l2 := low4_X (n / 4294967296) []
  rw [List.append_nil] at l2
  have hd : (decide ((4 : Int) ≤ ((X 8 n).length : Int)) && decide (((X 8 n).length : Int) ≤ ((X 8 n).length : Int))) = true := by rw [X_len]; rfl
  simp only [Option.bind_some, hne, cond_true, l1, Bool.true_and, hd, hc, l2]
  have w1 : IntKind.wrap .u64 (n % 4294967296) = (((n % 4294967296).toNat : Nat) : Int) := by rw [wrap_u64]; omega
  have w2 : IntKind.wrap .u64 (n / 4294967296 % 4294967296) = (((n / 4294967296).toNat : Nat) : Int) := by rw [wrap_u64]; omega
  rw [w1, w2]
  have o := or_u64 (a := (n % 4294967296).toNat) (c := (n / 4294967296).toNat) (j := 32) (by omega) (by omega) (by omega)
  simp only [show ((32 : Nat) : Int) = 32 from rfl] at o
  rw [o]
  congr 2
  omega
end Go.Proofs.Ytgkdcldmepodfaa.gg
