/- A part of our own proof. -/
import Derived.Test.YtlhifcknhgmidaaGreatDoorFB
open Go Go.GG Go.Proofs
set_option linter.unusedVariables false
namespace Go.Proofs.YtlhifcknhgmidaaGreatDoor.gg
theorem yEo : yQ 1 := ⟨by decide, by decide⟩
theorem yM4 {k : Int} {p : List Int} (hk : yQ k) (hp : ∀ x ∈ p, yQ x) (hl : p.length ≤ 1048571) (t : List Int) : zTn (zGa k p ++ t) = (k, p, ((zGa k p).length : Int), 0) := by
 unfold zTn zGa
 have hs : (zEh (k :: p)).length = p.length + 5 := by rw [zMa, List.length_cons]
 rw [List.append_assoc, zJc (by omega)]
 simp only
 rw [if_neg (by omega), List.length_append, List.length_append, hs, if_neg (by omega), List.drop_left, List.take_left' hs, yPp, if_pos rfl]
 refine Prod.ext ?_ (Prod.ext ?_ (Prod.ext ?_ rfl))
 ·show nth (zEh (k :: p)) 4 0 = k
  rw [zVk (by omega)]
  rfl
 ·show (zEh (k :: p)).drop 5 = p
  rfl
 ·show (((xH (p.length + 5)).length + (p.length + 5) : Nat) : Int) = ((xH (p.length + 5) ++ zEh (k :: p)).length : Int)
  rw [List.length_append, hs]
def Bad (b : List Int) : Prop := (zTn b).2.2.2 ≠ 0
theorem yP7 {v k : Nat} (hv : v < 18446744073709551616) (hk : k < (xH v).length) : zAt 0 0 ((xH v).take k) = none := by
 cases hg : zAt 0 0 ((xH v).take k) with
 | none => rfl
 | some q =>
   obtain ⟨v', c⟩ := q
   have hb : ∀ x ∈ (xH v).take k, yQ x := fun x hx => zP4 v x (List.mem_of_mem_take hx)
   obtain ⟨hv', _, _, hcl, hcv, hbs⟩ := zL6 hb hg
   have e : xH v = xH v' ++ (((xH v).take k).drop c ++ (xH v).drop k) := by
    rw [← List.append_assoc, ← hbs, List.take_append_drop]
   have h1 := zJc (n := v) hv []
   rw [List.append_nil, e, zJc hv'] at h1
   simp only [Option.some.injEq, Prod.mk.injEq] at h1
   rw [List.length_take] at hcl
   have h2 := h1.2
   rw [← e] at h2
   omega
theorem yT1 {p : List Int} {j : Nat} (hl : p.length ≤ 1048571) (hj : j < (zGa 1 p).length) : Bad ((zGa 1 p).take j) := by
 have hs : (zEh (1 :: p)).length = p.length + 5 := by rw [zMa, List.length_cons]
 unfold Bad zTn zGa
 unfold zGa at hj
 rw [List.length_append, hs] at hj
 by_cases h1 : j < (xH (p.length + 5)).length
 ·rw [List.take_append_of_le_length (by omega), yP7 (by omega) h1]
  simp only
  cases yFq _ <;> decide
 ·rw [List.take_append, List.take_of_length_le (by omega), zJc (by omega)]
  simp only
  rw [if_neg (by omega), List.length_append, List.length_take, hs, if_pos (by omega)]
  decide
def rb (i : Nat) (d : List Int) : List Int := zGa 1 (xH i ++ d)
structure ROk (d : List Int) : Prop where
 byte : ∀ x ∈ d, yQ x
 len : d.length ≤ 4096
theorem zV7 {i : Nat} {d : List Int} (h : ROk d) : ∀ x ∈ xH i ++ d, yQ x := by
 intro x hx
 rcases List.mem_append.1 hx with hx | hx
 ·exact zP4 _ x hx
 ·exact h.byte x hx
theorem zL4 {i : Nat} {d : List Int} (hi : i < 18446744073709551616) (h : ROk d) : (xH i ++ d).length ≤ 4106 := by
 have := zJt hi
 have := h.len
 rw [List.length_append]; omega
theorem yAg {i : Nat} {d : List Int} (hi : i < 18446744073709551616) (h : ROk d) : (rb i d).length ≤ 4121 := by
 have h1 := zL4 hi h
 have h2 := yO7 (k := 1) (b := xH i ++ d) (by omega)
 unfold rb; omega
theorem ySb {i : Nat} {d : List Int} : 5 ≤ (rb i d).length := by
 have hs : (zEh (1 :: (xH i ++ d))).length = (xH i ++ d).length + 5 := by rw [zMa, List.length_cons]
 unfold rb zGa
 rw [List.length_append, hs]; omega
theorem yN2 {i : Nat} {d : List Int} (h : ROk d) : ∀ x ∈ rb i d, yQ x := yNc yEo (zV7 h)
theorem yUy {i : Nat} {d : List Int} (hi : i < 18446744073709551616) (h : ROk d) (t : List Int) : zTn (rb i d ++ t) = (1, xH i ++ d, ((rb i d).length : Int), 0) :=
 yM4 yEo (zV7 h) (by have := zL4 hi h; omega) t
theorem yVg {i j : Nat} {d : List Int} (hi : i < 18446744073709551616) (h : ROk d) (hj : j < (rb i d).length) : Bad ((rb i d).take j) :=
 yT1 (by have := zL4 hi h; omega) hj
def enc : Nat → List (List Int) → List Int
 | _, [] => []
 | i, d :: r => rb i d ++ enc (i + 1) r
def xE : Nat → Nat → List (List Int) → List Int
 | _, _, [] => []
 | i, a, d :: r => ((a + (rb i d).length : Nat) : Int) :: xE (i + 1) (a + (rb i d).length) r
def zDj : Nat → List (List Int) → List (Int × List Int)
 | _, [] => []
 | i, d :: r => ((i : Int), d) :: zDj (i + 1) r
theorem zC3 : ∀ i R, (zDj i R).length = R.length
 | _, [] => rfl
 | i, d :: r => by rw [zDj, List.length_cons, zC3, List.length_cons]
theorem kV : ∀ i a R, (xE i a R).length = R.length
 | _, _, [] => rfl
 | i, a, d :: r => by rw [xE, List.length_cons, kV, List.length_cons]
theorem zU2 : ∀ (i : Nat) (R S : List (List Int)), enc i (R ++ S) = enc i R ++ enc (i + R.length) S
 | i, [], S => rfl
 | i, d :: r, S => by
   rw [List.cons_append, enc, enc, zU2 (i + 1) r S, List.append_assoc, List.length_cons, show i + 1 + r.length = i + (r.length + 1) by omega]
theorem zXj : ∀ (i a : Nat) (R S : List (List Int)), xE i a (R ++ S) = xE i a R ++ xE (i + R.length) (a + (enc i R).length) S
 | i, a, [], S => rfl
 | i, a, d :: r, S => by
   rw [List.cons_append, xE, xE, zXj (i + 1) _ r S, enc, List.length_cons, List.length_append, List.cons_append, show i + 1 + r.length = i + (r.length + 1) by omega, Nat.add_assoc]
theorem yEj : ∀ (i : Nat) (R S : List (List Int)), zDj i (R ++ S) = zDj i R ++ zDj (i + R.length) S
 | i, [], S => rfl
 | i, d :: r, S => by
   rw [List.cons_append, zDj, zDj, yEj (i + 1) r S, List.length_cons, show i + 1 + r.length = i + (r.length + 1) by omega, List.cons_append]
theorem zSf : ∀ (i : Nat) (R : List (List Int)) (k : Nat) (h : k < R.length), (zDj i R)[k]'(by rw [zC3]; exact h) = (((i + k : Nat) : Int), R[k])
 | i, d :: r, 0, h => rfl
 | i, d :: r, k + 1, h => by
   have := zSf (i + 1) r k (by simpa using h)
   simp only [zDj, List.getElem_cons_succ, this]
   rw [show i + 1 + k = i + (k + 1) by omega]
theorem yQ8 (i : Nat) (R : List (List Int)) (k : Nat) : zDj i (R.take k) = (zDj i R).take k := by
 by_cases hk : k ≤ R.length
 ·have h := yEj i (R.take k) (R.drop k)
  rw [List.take_append_drop] at h
  rw [h, List.take_left' (by rw [zC3, List.length_take]; omega)]
 ·rw [List.take_of_length_le (by omega), List.take_of_length_le (by rw [zC3]; omega)]
theorem yRx (i a : Nat) (R : List (List Int)) (k : Nat) : xE i a (R.take k) = (xE i a R).take k := by
 by_cases hk : k ≤ R.length
 ·have h := zXj i a (R.take k) (R.drop k)
  rw [List.take_append_drop] at h
  rw [h, List.take_left' (by rw [kV, List.length_take]; omega)]
 ·rw [List.take_of_length_le (by omega), List.take_of_length_le (by rw [kV]; omega)]
theorem zZr (i : Nat) (R : List (List Int)) (k : Nat) : enc i R = enc i (R.take k) ++ enc (i + (R.take k).length) (R.drop k) := by
 rw [← zU2, List.take_append_drop]
theorem zKu (i : Nat) (R : List (List Int)) (k : Nat) : (enc i (R.take k)).length ≤ (enc i R).length := by
 rw [zZr i R k, List.length_append]; omega
theorem yOm (i : Nat) (R : List (List Int)) (k : Nat) : (enc i R).take (enc i (R.take k)).length = enc i (R.take k) := by
 rw [zZr i R k, List.take_left]
theorem yIj : ∀ (i a : Nat) (R : List (List Int)), (R ≠ [] → (xE i a R).getLast? = some ((a + (enc i R).length : Nat) : Int))
 | i, a, [], h => absurd rfl h
 | i, a, [d], _ => by simp [xE, enc]
 | i, a, d :: e :: r, _ => by
   have ih := yIj (i + 1) (a + (rb i d).length) (e :: r) (by simp)
   rw [xE, List.getLast?_cons, ih]
   simp only [enc, List.length_append, Option.getD_some, Nat.add_assoc]
theorem yTk {i : Nat} {R : List (List Int)} (h : 0 < R.length) : nth (xE i 0 R) (R.length - 1) 0 = ((enc i R).length : Int) := by
 have h1 := yIj i 0 R (by intro e; rw [e] at h; simp at h)
 rw [List.getLast?_eq_getElem?, kV, List.getElem?_eq_getElem (by rw [kV]; omega)] at h1
 rw [zVk (by rw [kV]; omega)]
 simpa using h1
structure GOk (i : Nat) (R : List (List Int)) : Prop where
 ok : ∀ d ∈ R, ROk d
 low : 1 ≤ i
 top : i + R.length ≤ 18446744073709551616
theorem GOk.tail {i : Nat} {d : List Int} {r : List (List Int)} (h : GOk i (d :: r)) : GOk (i + 1) r := by
 have := h.top
 rw [List.length_cons] at this
 exact ⟨fun x hx => h.ok x (List.mem_cons_of_mem _ hx), by omega, by omega⟩
theorem GOk.take {i : Nat} {r : List (List Int)} (h : GOk i r) (k : Nat) : GOk i (r.take k) := by
 have := h.top
 exact ⟨fun x hx => h.ok x (List.mem_of_mem_take hx), h.low, by rw [List.length_take]; omega⟩
theorem yDr : ∀ {i : Nat} {R : List (List Int)}, GOk i R → ∀ x ∈ enc i R, yQ x
 | i, [], h, x, hx => by simp [enc] at hx
 | i, d :: r, h, x, hx => by
   rw [enc, List.mem_append] at hx
   rcases hx with hx | hx
   ·exact yN2 (h.ok d (List.mem_cons_self ..)) x hx
   ·exact yDr h.tail x hx
theorem yIm : ∀ (i : Nat) (R : List (List Int)) (p : Nat), GOk i R → p ≤ (enc i R).length →
 ∃ k t, k ≤ R.length ∧ (enc i R).take p = enc i (R.take k) ++ t ∧ (t = [] ∨ Bad t) ∧ (∀ j, j ≤ R.length → (enc i (R.take j)).length ≤ p → j ≤ k)
 | i, [], p, _, hp => ⟨0, [], Nat.le_refl _, by simp [enc], .inl rfl, fun j hj _ => by simpa using hj⟩
 | i, d :: r, p, h, hp => by
   have hd := h.ok d (List.mem_cons_self ..)
   have ht := h.top
   rw [List.length_cons] at ht
   rw [enc, List.length_append] at hp
   by_cases h1 : p < (rb i d).length
   ·refine ⟨0, (rb i d).take p, Nat.zero_le _, ?_, ?_, fun j hj hjp => ?_⟩
    ·rw [enc, List.take_append_of_le_length (by omega)]; rfl
    ·exact .inr (yVg (by omega) hd h1)
    ·cases j with
     | zero => exact Nat.le_refl _
     | succ j => rw [List.take_succ_cons, enc, List.length_append] at hjp; omega
   ·obtain ⟨k, t, hk, e, hb, hm⟩ := yIm (i + 1) r (p - (rb i d).length) h.tail (by omega)
    refine ⟨k + 1, t, by rw [List.length_cons]; omega, ?_, hb, fun j hj hjp => ?_⟩
    ·rw [enc, List.take_append, List.take_of_length_le (by omega), e, List.take_succ_cons, enc, List.append_assoc]
    ·cases j with
     | zero => omega
     | succ j =>
       rw [List.take_succ_cons, enc, List.length_append] at hjp
       have := hm j (by rw [List.length_cons] at hj; omega) (by omega)
       omega
end Go.Proofs.YtlhifcknhgmidaaGreatDoor.gg
