/- A part of our own proof. -/
import Derived.Test.YtlhifcknhgmidaaGreatDoorK6
import Derived.Test.YtlhifcknhgmidaaGreatDoorM
open Go Go.GG
set_option linter.unusedVariables false
namespace Go.Proofs.YtlhifcknhgmidaaGreatDoor.gg
theorem yVw (b : List Int) : zQe b = some b := by simp [zQe, yUc]
theorem yWl : ∀ (n : Nat) (b : List Int), n < 18446744073709551616 → b.length + (xH n).length ≤ 100000000000000 →
 ∃ (m : Nat) (q : List Int), zD5 n b = some ((m : Int), b ++ q) ∧ q ++ [(m : Int)] = xH n ∧ m < 128 := by
 intro n
 induction n using Nat.strongRecOn with
 | _ n ih =>
   intro b hn hb
   rw [zZ8]
   by_cases h : n < 128
   ·rw [show (decide ((n : Int) ≥ 128)) = false from decide_eq_false (by omega)]
    exact ⟨n, [], by simp, by rw [zOs h]; rfl, h⟩
   ·rw [show (decide ((n : Int) ≥ 128)) = true from decide_eq_true (by omega)]
    have e1 : yD .or .u8 (IntKind.wrap .u8 (n : Int)) 128 = ((n % 128 + 128 : Nat) : Int) := by
     rw [wrap_u8, yWj (by omega) (by omega)]; omega
    have e2 : kA .u64 (n : Int) 7 = ((n / 128 : Nat) : Int) := by
     rw [show (7 : Int) = ((7 : Nat) : Int) from rfl, yU5 7 (by omega)]; omega
    rw [zR9 h] at hb ⊢
    simp only [List.length_cons] at hb
    rw [e1, e2, vV (by simp; omega)]
    obtain ⟨m, q, h1, h2, h3⟩ := ih (n / 128) (by omega) (b ++ [((n % 128 + 128 : Nat) : Int)]) (by omega) (by simp; omega)
    refine ⟨m, ((n % 128 + 128 : Nat) : Int) :: q, ?_, ?_, h3⟩
    ·rw [cond_true, h1]; simp
    ·rw [List.cons_append, h2]
theorem yFz (b : List Int) (n : Nat) (hn : n < 18446744073709551616) (hb : b.length ≤ 10000000000000) : vU b n = some (b ++ xH n) := by
 obtain ⟨m, q, h1, h2, h3⟩ := yWl n b hn (by have := zJt hn; omega)
 unfold vU
 rw [yVw]
 simp only [Option.bind_some, h1]
 have hl := congrArg List.length h2
 have := zJt hn
 simp at hl
 rw [vV (by simp; omega), cond_true, wrap_u8, Int.emod_eq_of_lt (by omega) (by omega), List.append_assoc, h2]
theorem yOh (l : List Int) (hl : l.length ≤ 1000000000000) (hb : ∀ x ∈ l, yQ x) (r : Rd) : ∀ (s : List Int) (k a : Nat), l.drop k = s → k ≤ 9 → a < 128 ^ k →
 vO a l l.length k r = some (match zAt k a s with | none => .inl r | some (v, c) => .inr ((v : Int), (c : Int), r))
 | [], k, a, hs, hk, ha => by
   rw [zKa]
   have := congrArg List.length hs
   simp at this
   rw [show (decide ((k : Int) < (l.length : Int))) = false from decide_eq_false (by omega)]
   simp [zAt]
 | c :: s, k, a, hs, hk, ha => by
   have hlen := congrArg List.length hs
   simp at hlen
   have hkl : k < l.length := by omega
   have hc : l[k] = c := by
    have := congrArg (fun x => x[0]?) hs
    simp at this
    obtain ⟨_, h⟩ := List.getElem?_eq_some_iff.1 this; exact h
   have hcb : yQ c := hb c (hc ▸ List.getElem_mem hkl)
   have hs' : l.drop (k + 1) = s := by rw [← List.drop_drop, hs]; rfl
   rw [zKa, show (decide ((k : Int) < (l.length : Int))) = true from decide_eq_true (by omega), zGj hkl, hc]
   simp only [cond_true, Option.bind_some, zAt, yWq]
   obtain ⟨hc0, hc1⟩ := hcb
   have hroom : decide ((0 : Int) ≤ IntKind.wrap .i64 (7 * (k : Int))) = true := by rw [wY (by omega) (by omega)]; exact decide_eq_true (by omega)
   have hk1 : IntKind.wrap .i64 ((k : Int) + 1) = ((k + 1 : Nat) : Int) := by rw [wY (by omega) (by omega)]; omega
   rw [hroom, hk1]
   by_cases h9 : k = 9 ∧ c > 1
   ·have : ((k : Int) == 9) = true := by simp; omega
    simp [h9.1, h9.2]
   ·have hd : ∀ (_ : k = 9), c % 128 ≤ 1 := fun e => by
     have : ¬ c > 1 := fun h => h9 ⟨e, h⟩
     omega
    have hdig := yV0 (a := a) (k := k) (c := c) ha hk ⟨hc0, hc1⟩ hd
    rw [hdig]
    have ih := fun (h : k + 1 ≤ 9) => yOh l hl hb r s (k + 1) (a + c.toNat % 128 * 128 ^ k) hs' h (yRl ha)
    by_cases h0 : c = 0 ∧ k > 0
    ·simp [h0.1, h0.2]
    ·by_cases hlt : c < 128
     ·have : ¬ ((k = 9 ∧ c > 1) ∨ (c = 0 ∧ k > 0)) := by rintro (h | h); exact h9 h; exact h0 h
      rw [if_neg this, if_pos hlt]
      by_cases hz : c = 0
      ·have hk0 : k = 0 := by omega
       subst hz; subst hk0; simp
      ·by_cases he : (k : Int) = 9
       ·have : ¬ c > 1 := fun h => h9 ⟨by omega, h⟩
        have hzb : (c == 0) = false := by simp; exact hz
        simp [he, hzb, hlt, this]
       ·have he' : k ≠ 9 := by omega
        have h7 : ((k : Int) == 9) = false := by simp; omega
        have hzb : (c == 0) = false := by simp; exact hz
        simp [h7, hzb, hlt]
     ·have hk9 : k ≠ 9 := fun e => h9 ⟨e, by omega⟩
      have : ¬ ((k = 9 ∧ c > 1) ∨ (c = 0 ∧ k > 0)) := by rintro (h | h); exact h9 h; exact h0 h
      rw [if_neg this, if_neg hlt, ← ih (by omega)]
      have h7 : ((k : Int) == 9) = false := by simp; omega
      have hz : (c == 0) = false := by simp; omega
      simp [h7, hz, hlt]
theorem zO1 (xs : List Int) (i : Int) : cut xs i (xs.length : Int) = xs.drop i.toNat := by simp [cut]
theorem yUl {s : Rd} (h : zAq s) : zDg s = some (match zAt 0 0 (rest s) with | none => (0, 0, s) | some (v, c) => ((v : Int), (c : Int), s)) := by
 have h1 := h.lo; have h2 := h.hi; have h3 := h.big
 have hr := h.rest_len
 unfold zDg
 rw [decide_eq_true (by omega : (0 : Int) ≤ s.2.1), decide_eq_true (by omega : s.2.1 ≤ (s.1.length : Int)), decide_eq_true (Int.le_refl _)]
 simp only [Bool.and_self, cond_true, zO1]
 have := yOh (rest s) (by omega) h.rest_byte s (rest s) 0 0 rfl (by omega) (by decide)
 simp only [rest] at this ⊢
 simp only [Int.natCast_zero, show ((0 : Nat) : Int) = 0 from rfl] at this
 rw [this]
 cases zAt 0 0 (s.1.drop s.2.1.toNat) with
 | none => rfl
 | some p => rfl
theorem yVc (s : Rd) : zF7 s = some ((s.2.2 == 0), s) := rfl
theorem yUf (s : Rd) (e : Int) (h : s.2.2 = 0) : zC6 s e = some (zJu s e) := by simp [zC6, h, zJu]
theorem yNl {s : Rd} (h : zAq s) : zA6 s = some (rU s) := by
 have h1 := h.lo; have h2 := h.hi; have h3 := h.big
 unfold zA6 rU
 rw [yVc]
 by_cases h0 : s.2.2 = 0
 ·simp only [Option.bind_some, h0, beq_self_eq_true, Bool.not_true, cond_false, if_true, yUl h]
  cases hg : zAt 0 0 (rest s) with
  | none =>
    simp only [Option.bind_some, beq_self_eq_true, cond_true, yUf s 5 h0]
    have e : IntKind.wrap .i64 ((zJu s 5).2.1 + 0) = s.2.1 := by simp only [zJu]; rw [wY (by omega) (by omega)]; omega
    rw [e]; rfl
  | some p =>
    obtain ⟨v, c⟩ := p
    obtain ⟨_, hc0, _, hc1, _⟩ := zL6 h.rest_byte hg
    have := h.rest_len
    have e0 : ((c : Int) == 0) = false := by simp; omega
    simp only [Option.bind_some, e0, cond_false]
    rw [wY (n := s.2.1 + (c : Int)) (by omega) (by omega)]
    rfl
 ·have : (s.2.2 == 0) = false := by simp [h0]
  simp [this, h0]
theorem ySi (b : List Int) (hb : b.length ≤ 1000000000000) : zMp b = some (b, 0, 0) := by
 unfold zMp zR
 rw [vV (by simp; omega)]; simp
theorem yTs (b : List Int) (hb : b.length ≤ 1000000000000) (h : ∀ x ∈ b, yQ x) : zAq (b, 0, 0) := ⟨h, by simp, by simp, hb⟩
theorem yQz (b : List Int) : rest (b, 0, 0) = b := by simp [rest]
theorem yNw {a b : List Int} (ha : ∀ x ∈ a, yQ x) (hb : ∀ x ∈ b, yQ x) : (wW a == wW b) = true ↔ a = b := by
 rw [beq_iff_eq]
 refine ⟨fun h => ?_, fun h => by rw [h]⟩
 induction a generalizing b with
 | nil => cases b with
   | nil => rfl
   | cons y b => simp [wW] at h
 | cons x a ih => cases b with
   | nil => simp [wW] at h
   | cons y b =>
     simp only [wW, List.map_cons, List.cons.injEq] at h
     have hx := ha x (by simp); have hy := hb y (by simp)
     obtain ⟨hx0, hx1⟩ := hx; obtain ⟨hy0, hy1⟩ := hy
     have h1 := congrArg UInt8.toNat h.1
     simp only [UInt8.toNat_ofNat'] at h1
     rw [Nat.mod_eq_of_lt (by omega), Nat.mod_eq_of_lt (by omega)] at h1
     rw [ih (fun z hz => ha z (by simp [hz])) (fun z hz => hb z (by simp [hz])) h.2]
     congr 1; omega
end Go.Proofs.YtlhifcknhgmidaaGreatDoor.gg
