/- Plain facts on numbers, for the pure laws. -/
import Derived.Test.YtlgfmkccnljhoaaC34
import Derived.IntWalk
namespace Go.GG
theorem wrap_u8 (n : Int) : IntKind.u8.wrap n = n % 256 := IntKind.wrap_u8 n
theorem wrap_u32 (n : Int) : IntKind.u32.wrap n = n % 4294967296 := IntKind.wrap_u32 n
theorem wrap_u64 (n : Int) : IntKind.u64.wrap n = n % 18446744073709551616 := by
  simp [IntKind.wrap, IntKind.bits, IntKind.signed]
theorem wrap_u16 (n : Int) : IntKind.u16.wrap n = n % 65536 := by
  simp [IntKind.wrap, IntKind.bits, IntKind.signed]
theorem i64_in {n : Int} (h0 : -9223372036854775808 ≤ n) (h1 : n ≤ 9223372036854775807) : IntKind.i64.wrap n = n := wrap_i64 h0 h1
theorem u64_in {n : Int} (h0 : 0 ≤ n) (h1 : n < 18446744073709551616) : IntKind.u64.wrap n = n := by rw [wrap_u64]; omega
theorem shr_u64 {n : Int} (s : Nat) (hs : s ≤ 64) : shrv .u64 n s = n / 2 ^ s := by
  unfold shrv
  have h : min (s : Int).toNat IntKind.u64.bits = s := by simp [IntKind.bits]; omega
  rw [h, Int.fdiv_eq_ediv_of_nonneg _ (Int.le_of_lt (Int.pow_pos (by decide)))]
theorem shr_u32 {n : Int} (s : Nat) (hs : s ≤ 32) : shrv .u32 n s = n / 2 ^ s := by
  unfold shrv
  have h : min (s : Int).toNat IntKind.u32.bits = s := by simp [IntKind.bits]; omega
  rw [h, Int.fdiv_eq_ediv_of_nonneg _ (Int.le_of_lt (Int.pow_pos (by decide)))]
theorem or128 {n : Int} (h0 : 0 ≤ n) (h1 : n < 256) : bitv .or .u8 n 128 = n % 128 + 128 := by
  have key : ∀ a : Fin 256, bitv .or .u8 (a.val : Int) 128 = (a.val : Int) % 128 + 128 := by decide +kernel
  have := key ⟨n.toNat, by omega⟩
  simp only at this
  rw [Int.toNat_of_nonneg h0] at this
  exact this
theorem bit64 (op : BinOp) (a b : Int) : bitv op .u64 a b = (match op with
    | .and => ((BitVec.ofInt 64 a &&& BitVec.ofInt 64 b).toNat : Int) % 18446744073709551616
    | .or => ((BitVec.ofInt 64 a ||| BitVec.ofInt 64 b).toNat : Int) % 18446744073709551616
    | .xor => ((BitVec.ofInt 64 a ^^^ BitVec.ofInt 64 b).toNat : Int) % 18446744073709551616
    | _ => ((BitVec.ofInt 64 a &&& ~~~BitVec.ofInt 64 b).toNat : Int) % 18446744073709551616) := by
  cases op <;> exact wrap_u64 _
theorem room_of {n b : Nat} (h : n * b ≤ 140737488355328) : room n b = true := by simp [room, h]
theorem at?_lt {α : Type} {xs : List α} {i : Nat} (h : i < xs.length) : at? xs (i : Int) = some xs[i] := by
  simp [at?, h]
theorem cut_all {α : Type} (xs : List α) : cut xs 0 (xs.length : Int) = xs := by simp [cut]
theorem bulk_len {t : T} : ∀ (xs : List t.den), xs.length ≤ (xs.map t.bulk).sum
  | [] => by simp
  | x :: xs => by
    have h : 1 ≤ t.bulk x := by
      have key : ∀ (t : T) (x : t.den), 1 ≤ t.bulk x := by
        intro t
        induction t with
        | int k => intro x; simp [T.bulk]
        | bool => intro x; simp [T.bulk]
        | str => intro x; simp [T.bulk]
        | slice t _ => intro x; simp [T.bulk]
        | pair a b iha _ => intro x; simp only [T.bulk]; have := iha x.1; omega
      exact key t x
    have := bulk_len xs
    simp only [List.length_cons, List.map_cons, List.sum_cons]; omega
theorem bulk_slice {t : T} (xs : List t.den) : xs.length + 1 ≤ (T.slice t).bulk xs := by
  have := bulk_len xs
  simp only [T.bulk]; omega
end Go.GG
