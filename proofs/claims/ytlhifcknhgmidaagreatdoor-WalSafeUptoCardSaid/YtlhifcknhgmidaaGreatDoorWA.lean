/- A part of our own proof. -/
import Derived.Test.YtlhifcknhgmidaaGreatDoorB
open Go Go.GG
set_option linter.unusedVariables false
namespace Go.Proofs.YtlhifcknhgmidaaGreatDoor.gg
def dgt (n : Nat) : UInt8 := UInt8.ofNat (48 + n % 10)
def dig : Nat → Nat → Str
 | 0, _ => []
 | k + 1, n => dig k (n / 10) ++ [dgt n]
def nm (n : Nat) : Str := [119, 97, 108, 45] ++ dig 8 n
theorem zSa : ∀ k n, (dig k n).length = k
 | 0, n => rfl
 | k + 1, n => by rw [dig, List.length_append, zSa k]; rfl
theorem yMz (n : Nat) : (nm n).length = 12 := by simp [nm, zSa]
theorem yBq (n : Nat) : (dgt n).toNat = 48 + n % 10 := by
 unfold dgt
 rw [UInt8.toNat_ofNat']
 omega
theorem yBt : ∀ {k n : Nat} {b : UInt8}, b ∈ dig k n → 48 ≤ b.toNat ∧ b.toNat ≤ 57
 | 0, n, b, h => by simp [dig] at h
 | k + 1, n, b, h => by
   rw [dig, List.mem_append] at h
   rcases h with h | h
   ·exact yBt h
   ·rw [List.mem_singleton.1 h, yBq]; omega
theorem yMd : ∀ k, dig k 0 = List.replicate k 48
 | 0 => rfl
 | k + 1 => by rw [dig, show (0 : Nat) / 10 = 0 from rfl, yMd k, List.replicate_succ']; rfl
theorem yRs {n : Nat} (h : n < 10) : Lib.decDigits n = [dgt n] := by
 rw [Lib.decDigits, dif_pos h]
 unfold dgt
 rw [Nat.mod_eq_of_lt h]
theorem yUr {n : Nat} (h : ¬ n < 10) : Lib.decDigits n = Lib.decDigits (n / 10) ++ [dgt n] := by
 rw [Lib.decDigits, dif_neg h]
 rfl
theorem yQx : ∀ (k n : Nat), n < 10 ^ (k + 1) → (Lib.decDigits n).length ≤ k + 1 ∧ List.replicate (k + 1 - (Lib.decDigits n).length) 48 ++ Lib.decDigits n = dig (k + 1) n
 | k, n, h => by
   by_cases h10 : n < 10
   ·rw [yRs h10]
    refine ⟨by simp, ?_⟩
    rw [dig, show n / 10 = 0 by omega, yMd]
    rfl
   ·cases k with
    | zero => omega
    | succ k =>
      have ih := yQx k (n / 10) (by rw [Nat.pow_succ] at h; omega)
      rw [yUr h10, List.length_append]
      refine ⟨by simp; exact ih.1, ?_⟩
      rw [dig, ← ih.2, List.append_assoc]
      congr 2
      simp
theorem yUk {n : Nat} (h : n < 100000000) : (Lib.itoa (n : Int)).length ≤ 8 ∧ List.replicate (8 - (Lib.itoa (n : Int)).length) 48 ++ Lib.itoa (n : Int) = dig 8 n := by
 have e : Lib.itoa (n : Int) = Lib.decDigits n := by
  unfold Lib.itoa
  rw [if_neg (by omega)]; simp
 rw [e]
 exact yQx 7 n h
theorem yMw : ∀ {x y : Str} (s t : Str), x.length = y.length → xB x y = true → xB (x ++ s) (y ++ t) = true
 | [], [], s, t, _, h => by rw [zPd] at h; cases h
 | a :: x, b :: y, s, t, hl, h => by
   rw [List.cons_append, List.cons_append, zBe]
   rw [zBe] at h
   simp only [List.length_cons, Nat.add_right_cancel_iff] at hl
   simp only [Bool.or_eq_true, Bool.and_eq_true] at h ⊢
   rcases h with h | ⟨h1, h2⟩
   ·exact .inl h
   ·exact .inr ⟨h1, yMw s t hl h2⟩
theorem yDl : ∀ (x : Str) {s t : Str}, xB s t = true → xB (x ++ s) (x ++ t) = true
 | [], s, t, h => h
 | a :: x, s, t, h => by
   rw [List.cons_append, List.cons_append, zBe, yDl x h]
   simp
theorem yTc {n m : Nat} (h : n % 10 < m % 10) : xB [dgt n] [dgt m] = true := by
 rw [zBe]
 have : decide (dgt n < dgt m) = true := by
  rw [decide_eq_true_eq, UInt8.lt_iff_toNat_lt, yBq, yBq]; omega
 rw [this]; rfl
theorem yKr : ∀ {k n m : Nat}, n < m → m < 10 ^ k → xB (dig k n) (dig k m) = true
 | 0, n, m, h, h2 => by simp at h2; omega
 | k + 1, n, m, h, h2 => by
   rw [dig, dig]
   by_cases hq : n / 10 < m / 10
   ·exact yMw _ _ (by rw [zSa, zSa]) (yKr hq (by rw [Nat.pow_succ] at h2; omega))
   ·rw [show n / 10 = m / 10 by omega]
    exact yDl _ (yTc (by omega))
theorem yUh {n m : Nat} (h : n < m) (h2 : m < 100000000) : xB (nm n) (nm m) = true := yDl _ (yKr h h2)
theorem zZk (b : UInt8) : ∀ (l : Str) (a : Nat), Lib.decFrom a (l ++ [b]) = (Lib.decFrom a l).bind fun x => (Lib.digitVal b).map fun d => x * 10 + d
 | [], a => by
   simp only [List.nil_append, Lib.decFrom, Option.bind_some]
   cases Lib.digitVal b <;> rfl
 | c :: l, a => by
   simp only [List.cons_append, Lib.decFrom]
   cases Lib.digitVal c with
   | none => rfl
   | some d => exact zZk b l _
theorem yCn : ∀ {k n : Nat}, n < 10 ^ k → Lib.decFrom 0 (dig k n) = some n
 | 0, n, h => by simp at h; subst h; rfl
 | k + 1, n, h => by
   rw [dig, zZk, yCn (by rw [Nat.pow_succ] at h; omega)]
   have : Lib.digitVal (dgt n) = some (n % 10) := by
    unfold Lib.digitVal
    rw [yBq, if_pos (by omega)]
    congr 1; omega
   rw [this]
   simp only [Option.bind_some, Option.map_some]
   congr 1; omega
theorem yTq {k n : Nat} (h : n < 10 ^ (k + 1)) : Lib.atoi (dig (k + 1) n) = some (n : Int) := by
 have hl := zSa (k + 1) n
 have hd := yCn h
 have hm : ∀ b ∈ dig (k + 1) n, 48 ≤ b.toNat ∧ b.toNat ≤ 57 := fun b hb => yBt hb
 generalize dig (k + 1) n = l at *
 cases l with
 | nil => simp at hl
 | cons b r =>
   have h1 := hm b (List.mem_cons_self ..)
   unfold Lib.atoi Lib.decNat
   have n1 : (b == 45) = false := by
    rw [beq_eq_false_iff_ne]; intro e; rw [e] at h1; exact absurd h1.1 (by decide)
   have n2 : (b == 43) = false := by
    rw [beq_eq_false_iff_ne]; intro e; rw [e] at h1; exact absurd h1.1 (by decide)
   simp only [n1, n2, Bool.false_eq_true, if_false, List.isEmpty_cons]
   rw [hd]; rfl
def zXv : Str := [48, 49, 50, 51, 52, 53, 54, 55, 56, 57]
theorem yQ2 {b : UInt8} (h : 48 ≤ b.toNat ∧ b.toNat ≤ 57) : zXv.contains b = true := by
 have : b = UInt8.ofNat b.toNat := by simp
 rw [this]
 obtain ⟨h1, h2⟩ := h
 generalize b.toNat = n at *
 have : n = 48 ∨ n = 49 ∨ n = 50 ∨ n = 51 ∨ n = 52 ∨ n = 53 ∨ n = 54 ∨ n = 55 ∨ n = 56 ∨ n = 57 := by omega
 rcases this with h | h | h | h | h | h | h | h | h | h <;> subst h <;> rfl
theorem yQb {b : UInt8} (h : 48 ≤ b.toNat ∧ b.toNat ≤ 57) : zQi.contains b = true := by
 have : b = UInt8.ofNat b.toNat := by simp
 rw [this]
 obtain ⟨h1, h2⟩ := h
 generalize b.toNat = n at *
 have : n = 48 ∨ n = 49 ∨ n = 50 ∨ n = 51 ∨ n = 52 ∨ n = 53 ∨ n = 54 ∨ n = 55 ∨ n = 56 ∨ n = 57 := by omega
 rcases this with h | h | h | h | h | h | h | h | h | h <;> subst h <;> rfl
theorem yTg (k n : Nat) : Lib.trimS (dig k n) zXv = [] := by
 have hm : ∀ b ∈ (dig k n).reverse, zXv.contains b = true := fun b hb => yQ2 (yBt (List.mem_reverse.1 hb))
 show (((dig k n).reverse.dropWhile (zXv.contains ·)).reverse).dropWhile (zXv.contains ·) = []
 have : (dig k n).reverse.dropWhile (zXv.contains ·) = [] := by
  rw [zHp, List.all_eq_true]; exact hm
 rw [this]; rfl
theorem yQf (n : Nat) : zKl (nm n) = true := by
 unfold zKl
 rw [yMz, Bool.and_eq_true, Bool.and_eq_true]
 refine ⟨by decide, by decide, ?_⟩
 unfold nm
 rw [List.all_append, Bool.and_eq_true]
 refine ⟨by decide, ?_⟩
 rw [List.all_eq_true]
 exact fun b hb => yQb (yBt hb)
end Go.Proofs.YtlhifcknhgmidaaGreatDoor.gg
