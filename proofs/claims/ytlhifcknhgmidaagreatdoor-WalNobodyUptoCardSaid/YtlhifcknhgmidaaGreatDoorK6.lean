/- A part of our own proof. -/
import Derived.Test.YtlhifcknhgmidaaGreatDoorK5
import Derived.IntWalk
namespace Go.GG
end Go.GG
set_option linter.unusedVariables false
namespace Go.GG
def Lm {α : Type} (f : Nat → Option α) (v : Option α) : Prop :=
  (∀ k y, f k = some y → f (k + 1) = some y) ∧ ∀ y, v = some y ↔ ∃ k, f k = some y
open Classical in
noncomputable def lim {α : Type} (f : Nat → Option α) : Option α := if h : ∃ k, (f k).isSome then f h.choose else none
namespace Lm
variable {α β γ : Type}
theorem up {f : Nat → Option α} {v : Option α} (h : Lm f v) {k j : Nat} (hk : k ≤ j) {y : α} (e : f k = some y) : f j = some y := by
  induction hk with
  | refl => exact e
  | step _ ih => exact h.1 _ _ ih
theorem of_mono {f : Nat → Option α} (h : ∀ k y, f k = some y → f (k + 1) = some y) : Lm f (lim f) := by
  refine ⟨h, fun y => ?_⟩
  have up : ∀ k j, k ≤ j → ∀ y, f k = some y → f j = some y := by
    intro k j hk
    induction hk with
    | refl => exact fun _ e => e
    | step _ ih => exact fun y e => h _ _ (ih y e)
  unfold lim
  constructor
  · intro e
    split at e
    · exact ⟨_, e⟩
    · cases e
  · rintro ⟨k, e⟩
    have hs : ∃ k, (f k).isSome := ⟨k, by rw [e]; rfl⟩
    rw [dif_pos hs]
    have h1 := hs.choose_spec
    obtain ⟨z, hz⟩ := Option.isSome_iff_exists.1 h1
    rw [hz]
    have a := up _ _ (Nat.le_max_left k hs.choose) y e
    have b := up _ _ (Nat.le_max_right k hs.choose) z hz
    rw [a] at b
    exact b.symm
theorem uniq {f : Nat → Option α} {v w : Option α} (h : Lm f v) (h' : Lm f w) : v = w := by
  cases hv : v with
  | some y => exact ((h'.2 y).2 ((h.2 y).1 hv)).symm
  | none =>
    cases hw : w with
    | none => rfl
    | some y => rw [(h.2 y).2 ((h'.2 y).1 hw)] at hv; cases hv
theorem of_some {f : Nat → Option α} {v : Option α} (h : Lm f v) (k : Nat) {y : α} (e : f k = some y) : v = some y := (h.2 y).2 ⟨k, e⟩
theorem const (v : Option α) : Lm (fun _ => v) v := ⟨fun _ _ h => h, fun _ => ⟨fun h => ⟨0, h⟩, fun ⟨_, h⟩ => h⟩⟩
theorem bind {f : Nat → Option α} {v : Option α} {g : Nat → α → Option β} {w : α → Option β} (h : Lm f v) (h' : ∀ x, Lm (fun k => g k x) (w x)) :
    Lm (fun k => (f k).bind fun x => g k x) (v.bind fun x => w x) := by
  refine ⟨fun k y e => ?_, fun y => ⟨fun e => ?_, fun ⟨k, e⟩ => ?_⟩⟩
  · obtain ⟨x, hx, hy⟩ := Option.bind_eq_some_iff.1 e
    exact Option.bind_eq_some_iff.2 ⟨x, h.1 _ _ hx, (h' x).1 _ _ hy⟩
  · obtain ⟨x, hx, hy⟩ := Option.bind_eq_some_iff.1 e
    obtain ⟨k, hk⟩ := (h.2 x).1 hx
    obtain ⟨j, hj⟩ := ((h' x).2 y).1 hy
    exact ⟨max k j, Option.bind_eq_some_iff.2 ⟨x, h.up (Nat.le_max_left k j) hk, (h' x).up (Nat.le_max_right k j) hj⟩⟩
  · obtain ⟨x, hx, hy⟩ := Option.bind_eq_some_iff.1 e
    exact Option.bind_eq_some_iff.2 ⟨x, (h.2 x).2 ⟨k, hx⟩, ((h' x).2 y).2 ⟨k, hy⟩⟩
theorem oelim (o : Option γ) {f : Nat → Option α} {v : Option α} {g : Nat → γ → Option α} {w : γ → Option α} (h : Lm f v) (h' : ∀ x, Lm (fun k => g k x) (w x)) : Lm (fun k => o.elim (f k) fun x => g k x) (o.elim v fun x => w x) := by
  cases o with
  | none => exact h
  | some x => exact h' x
theorem cond (b : Bool) {f g : Nat → Option α} {v w : Option α} (h : Lm f v) (h' : Lm g w) : Lm (fun k => bif b then f k else g k) (bif b then v else w) := by
  cases b
  · exact h'
  · exact h
theorem elim (s : α ⊕ β) {f : Nat → α → Option γ} {g : Nat → β → Option γ} {v : α → Option γ} {w : β → Option γ} (h : ∀ a, Lm (fun k => f k a) (v a)) (h' : ∀ b, Lm (fun k => g k b) (w b)) :
    Lm (fun k => Sum.elim (fun a => f k a) (fun b => g k b) s) (Sum.elim (fun a => v a) (fun b => w b) s) := by
  cases s
  · exact h _
  · exact h' _
theorem shift {f : Nat → Option α} {v : Option α} (h : Lm f v) : Lm (fun k => f (k + 1)) v :=
  ⟨fun k y e => h.1 _ _ e, fun y => ⟨fun e => let ⟨k, hk⟩ := (h.2 y).1 e; ⟨k, h.1 _ _ hk⟩, fun ⟨k, e⟩ => (h.2 y).2 ⟨k + 1, e⟩⟩⟩
theorem loop {V : Type} {p : Nat → V → Option α} (B : Nat → (V → Option α) → V → Option α) (B' : (V → Option α) → V → Option α)
    (h0 : ∀ v, p 0 v = none) (hs : ∀ k v, p (k + 1) v = B k (p k) v)
    (hB : ∀ (q : Nat → V → Option α) (q' : V → Option α), (∀ v, Lm (fun k => q k v) (q' v)) → ∀ v, Lm (fun k => B k (q k) v) (B' q' v)) :
    (∀ v, Lm (fun k => p k v) (lim fun k => p k v)) ∧ ∀ v, (lim fun k => p k v) = B' (fun v => lim fun k => p k v) v := by
  have mono : ∀ n k, k < n → ∀ v y, p k v = some y → p (k + 1) v = some y := by
    intro n
    induction n with
    | zero => intro k h; exact absurd h (Nat.not_lt_zero _)
    | succ n ih =>
      intro k hk v y e
      cases k with
      | zero => rw [h0] at e; cases e
      | succ k =>
        have up : ∀ i j, i ≤ j → j ≤ n → ∀ v y, p i v = some y → p j v = some y := by
          intro i j hij
          induction hij with
          | refl => exact fun _ _ _ e => e
          | step _ ihj => exact fun hj v y e => ih _ (by omega) v y (ihj (by omega) v y e)
        have hq : ∀ v, Lm (fun j => p (min j n) v) (p n v) := by
          intro v
          refine ⟨fun j y e => up _ _ (by omega) (by omega) v y e, fun y => ⟨fun e => ⟨n, by show p (min n n) v = some y; rw [Nat.min_self]; exact e⟩, fun ⟨j, e⟩ => up _ _ (by omega) (by omega) v y e⟩⟩
        have := (hB (fun j => p (min j n)) (p n) hq v).1 k y
        simp only at this
        rw [show min k n = k by omega, show min (k + 1) n = k + 1 by omega, ← hs, ← hs] at this
        exact this e
  have h1 : ∀ v, Lm (fun k => p k v) (lim fun k => p k v) := fun v => of_mono fun k y e => mono (k + 1) k (Nat.lt_succ_self k) v y e
  refine ⟨h1, fun v => ?_⟩
  have h2 := hB p (fun v => lim fun k => p k v) h1 v
  have h3 : (fun k => B k (p k) v) = fun k => p (k + 1) v := by funext k; rw [hs]
  rw [h3] at h2
  exact (h1 v).shift.uniq h2
theorem diag {A B R : Type} {F : Nat → (A → Option B) → Option R} {F' : (A → Option B) → Option R} {g : Nat → A → Option B} {g' : A → Option B}
    (h1 : ∀ k, Lm (fun j => F k (g j)) (F k g')) (h2 : ∀ h, Lm (fun k => F k h) (F' h)) : Lm (fun k => F k (g k)) (F' g') := by
  refine ⟨fun k y e => ?_, fun y => ⟨fun e => ?_, fun ⟨k, e⟩ => ?_⟩⟩
  · exact (h2 (g (k + 1))).1 _ _ ((h1 k).1 _ _ e)
  · obtain ⟨k, hk⟩ := ((h2 g').2 y).1 e
    obtain ⟨j, hj⟩ := ((h1 k).2 y).1 hk
    exact ⟨max k j, (h2 _).up (Nat.le_max_left k j) ((h1 k).up (Nat.le_max_right k j) hj)⟩
  · exact ((h2 g').2 y).2 ⟨k, ((h1 k).2 y).2 ⟨k, e⟩⟩
theorem back {X α : Type} {f : Nat → Nat → α → X → Option X} {f' : Nat → α → X → Option X} (h : ∀ i e x, Lm (fun k => f k i e x) (f' i e x)) (xs : List α) : ∀ (n : Nat) (x : X), Lm (fun k => backN (f k) xs n x) (backN f' xs n x)
  | 0, x => Lm.const _
  | n + 1, x => by
    simp only [backN]
    exact Lm.bind (Lm.const _) fun e => Lm.bind (h n e x) fun y => back h xs n y
theorem fin {F : Nat → Option Bool} {v : Option Bool} (h : Lm F v) (e : v = some true) : ∃ k, F k = some true := (h.2 true).1 e
end Lm
end Go.GG
set_option linter.unusedVariables false
namespace Go.GG
def putU (n : Nat) : List Int := if h : n < 128 then [(n : Int)] else ((n % 128 + 128 : Nat) : Int) :: putU (n / 128)
termination_by n
decreasing_by omega
def getU : Nat → Nat → List Int → Option (Nat × Nat)
  | _, _, [] => none
  | k, a, c :: s => if (k = 9 ∧ c > 1) ∨ (c = 0 ∧ k > 0) then none else if c < 128 then some (a + c.toNat % 128 * 128 ^ k, k + 1) else getU (k + 1) (a + c.toNat % 128 * 128 ^ k) s
def IsByte (c : Int) : Prop := 0 ≤ c ∧ c < 256
theorem putU_lt {n : Nat} (h : n < 128) : putU n = [(n : Int)] := by rw [putU, dif_pos h]
theorem putU_ge {n : Nat} (h : ¬ n < 128) : putU n = ((n % 128 + 128 : Nat) : Int) :: putU (n / 128) := by rw [putU, dif_neg h]
theorem putU_byte (n : Nat) : ∀ c ∈ putU n, IsByte c := by
  induction n using Nat.strongRecOn with
  | _ n ih =>
    by_cases h : n < 128
    · rw [putU_lt h]; intro c hc; simp at hc; subst hc; constructor <;> omega
    · rw [putU_ge h]; intro c hc
      rcases List.mem_cons.1 hc with rfl | hc
      · constructor <;> omega
      · exact ih _ (by omega) c hc
theorem putU_pos (n : Nat) : 0 < (putU n).length := by
  by_cases h : n < 128
  · rw [putU_lt h]; simp
  · rw [putU_ge h]; simp
theorem putU_len : ∀ (j n : Nat), n < 128 ^ (j + 1) → (putU n).length ≤ j + 1
  | 0, n, h => by rw [putU_lt (by simpa using h)]; simp
  | j + 1, n, h => by
    by_cases hn : n < 128
    · rw [putU_lt hn]; simp
    · rw [putU_ge hn]
      have : n / 128 < 128 ^ (j + 1) := by rw [Nat.div_lt_iff_lt_mul (by decide)]; rw [Nat.pow_succ] at h; exact h
      have := putU_len j _ this
      simp; omega
theorem putU_len10 {n : Nat} (h : n < 18446744073709551616) : (putU n).length ≤ 10 := putU_len 9 n (Nat.lt_trans h (by decide))
theorem getU_put (s : List Int) : ∀ (n k a : Nat), n * 128 ^ k < 18446744073709551616 → k ≤ 9 → (0 < k → 0 < n) → getU k a (putU n ++ s) = some (a + n * 128 ^ k, k + (putU n).length) := by
  intro n
  induction n using Nat.strongRecOn with
  | _ n ih =>
    intro k a hn hk h0
    have h9 : k = 9 → n ≤ 1 := by
      rintro rfl
      have : n * 128 ^ 9 < 2 * 128 ^ 9 := by
        have e : (2 * 128 ^ 9 : Nat) = 18446744073709551616 := by decide
        rw [e]; exact hn
      have := Nat.lt_of_mul_lt_mul_right this
      omega
    by_cases h : n < 128
    · rw [putU_lt h]
      simp only [List.cons_append, List.nil_append, getU, List.length_singleton]
      have c1 : ¬ ((k = 9 ∧ (n : Int) > 1) ∨ ((n : Int) = 0 ∧ k > 0)) := by
        rintro (⟨h1, h2⟩ | ⟨h1, h2⟩)
        · have := h9 h1; omega
        · have := h0 h2; omega
      rw [if_neg c1, if_pos (by omega : (n : Int) < 128)]
      simp [Nat.mod_eq_of_lt h]
    · rw [putU_ge h]
      simp only [List.cons_append, getU, List.length_cons]
      have c1 : ¬ ((k = 9 ∧ ((n % 128 + 128 : Nat) : Int) > 1) ∨ (((n % 128 + 128 : Nat) : Int) = 0 ∧ k > 0)) := by
        rintro (⟨h1, h2⟩ | ⟨h1, h2⟩)
        · have := h9 h1; omega
        · omega
      have hk9 : k ≠ 9 := fun e => by have := h9 e; omega
      rw [if_neg c1, if_neg (by omega : ¬ (((n % 128 + 128 : Nat) : Int) < 128))]
      have e1 : ((n % 128 + 128 : Nat) : Int).toNat % 128 = n % 128 := by omega
      rw [e1]
      have e2 : n * 128 ^ k = n % 128 * 128 ^ k + n / 128 * 128 ^ (k + 1) := by
        rw [Nat.pow_succ, Nat.mul_comm (128 ^ k) 128, ← Nat.mul_assoc, ← Nat.add_mul]
        congr 1
        have := Nat.div_add_mod n 128; omega
      rw [ih (n / 128) (by omega) (k + 1) _ (by omega) (by omega) (fun _ => by omega), e2]
      congr 1
      ext <;> simp <;> omega
theorem getU_get : ∀ (s : List Int) (k a v c : Nat), k ≤ 9 → (∀ x ∈ s, IsByte x) → getU k a s = some (v, c) →
    ∃ m, v = a + m * 128 ^ k ∧ m * 128 ^ k < 18446744073709551616 ∧ (0 < k → 0 < m) ∧ c = k + (putU m).length ∧ s = putU m ++ s.drop (putU m).length
  | [], _, _, _, _, _, _, h => by simp [getU] at h
  | x :: s, k, a, v, c, hk, hb, h => by
    have hx := hb x (by simp)
    obtain ⟨hx0, hx1⟩ := hx
    simp only [getU] at h
    split at h
    · simp at h
    · rename_i hc
      have p128 : 128 ^ k ≤ (128 ^ 9 : Nat) := Nat.pow_le_pow_right (by decide) hk
      have pe : (128 ^ 9 : Nat) = 9223372036854775808 := by decide
      split at h
      · rename_i hlt
        simp only [Option.some.injEq, Prod.mk.injEq] at h
        obtain ⟨rfl, rfl⟩ := h
        have hm : x.toNat % 128 = x.toNat := Nat.mod_eq_of_lt (by omega)
        have hput : putU x.toNat = [x] := by rw [putU_lt (by omega)]; simp; omega
        refine ⟨x.toNat, by rw [hm], ?_, fun h0 => ?_, by rw [hput]; simp, by rw [hput]; simp⟩
        · by_cases h9 : k = 9
          · subst h9
            have : x.toNat ≤ 1 := by
              have : ¬ x > 1 := fun h => hc (.inl ⟨rfl, h⟩)
              omega
            calc x.toNat * 128 ^ 9 ≤ 1 * 128 ^ 9 := Nat.mul_le_mul_right _ this
              _ < _ := by decide
          · have p : 128 ^ k ≤ (128 ^ 8 : Nat) := Nat.pow_le_pow_right (by decide) (by omega)
            calc x.toNat * 128 ^ k ≤ 128 * 128 ^ 8 := Nat.mul_le_mul (by omega) p
              _ < _ := by decide
        · have : ¬ x = 0 := fun h => hc (.inr ⟨h, h0⟩)
          omega
      · rename_i hge
        have hk9 : k ≠ 9 := fun e => hc (.inl ⟨e, by omega⟩)
        obtain ⟨m, h1, h2, h3, h4, h5⟩ := getU_get s (k + 1) _ v c (by omega) (fun y hy => hb y (by simp [hy])) h
        have hm0 := h3 (by omega)
        have e128 : x.toNat % 128 = x.toNat - 128 := by omega
        have hput : putU (x.toNat % 128 + m * 128) = x :: putU m := by
          rw [putU_ge (by omega)]
          congr 1
          · omega
          · congr 1; omega
        have e2 : (x.toNat % 128 + m * 128) * 128 ^ k = x.toNat % 128 * 128 ^ k + m * 128 ^ (k + 1) := by
          rw [Nat.add_mul, Nat.pow_succ, Nat.mul_assoc, Nat.mul_comm 128 (128 ^ k)]
        refine ⟨x.toNat % 128 + m * 128, by rw [h1, e2]; omega, ?_,
          fun _ => by omega,
          by rw [hput, h4, List.length_cons]; omega,
          by rw [hput]; simpa using h5⟩
        rw [e2]
        have q : x.toNat % 128 < 128 := Nat.mod_lt _ (by decide)
        have d : (18446744073709551616 : Nat) = 2 * 128 ^ (8 - k) * 128 ^ (k + 1) := by
          rw [Nat.mul_assoc, ← Nat.pow_add, show 8 - k + (k + 1) = 9 by omega]
        rw [d] at h2 ⊢
        have := Nat.lt_of_mul_lt_mul_right h2
        have h6 : m * 128 ^ (k + 1) + 128 ^ (k + 1) ≤ 2 * 128 ^ (8 - k) * 128 ^ (k + 1) := by
          rw [← Nat.succ_mul]; exact Nat.mul_le_mul_right _ this
        have h7 : x.toNat % 128 * 128 ^ k < 128 ^ (k + 1) := by
          rw [Nat.pow_succ, Nat.mul_comm (128 ^ k)]; exact Nat.mul_lt_mul_of_pos_right q (Nat.pow_pos (by decide))
        omega
theorem getU_le {s : List Int} {v c : Nat} (hb : ∀ x ∈ s, IsByte x) (h : getU 0 0 s = some (v, c)) : v < 18446744073709551616 ∧ 0 < c ∧ c ≤ 10 ∧ c ≤ s.length ∧ c = (putU v).length ∧ s = putU v ++ s.drop c := by
  obtain ⟨m, h1, h2, _, h4, h5⟩ := getU_get s 0 0 v c (by omega) hb h
  simp at h1 h2 h4
  subst h1
  have := putU_len10 h2
  have := putU_pos v
  have h6 := congrArg List.length h5
  simp at h6
  rw [← h4] at h5
  exact ⟨h2, by omega, by omega, by omega, h4, h5⟩
theorem getU_putU {n : Nat} (h : n < 18446744073709551616) (s : List Int) : getU 0 0 (putU n ++ s) = some (n, (putU n).length) := by
  have := getU_put s n 0 0 (by simpa using h) (by omega) (by omega)
  simpa using this
end Go.GG
set_option linter.unusedVariables false
namespace Go.GG
abbrev Rd := List Int × Int × Int
structure RInv (s : Rd) : Prop where
  b : ∀ x ∈ s.1, IsByte x
  lo : 0 ≤ s.2.1
  hi : s.2.1 ≤ s.1.length
  big : s.1.length ≤ 1000000000000
def rest (s : Rd) : List Int := s.1.drop s.2.1.toNat
theorem RInv.rest_byte {s : Rd} (h : RInv s) : ∀ x ∈ rest s, IsByte x := fun x hx => h.b x (List.mem_of_mem_drop hx)
theorem RInv.rest_len {s : Rd} (h : RInv s) : ((rest s).length : Int) = s.1.length - s.2.1 := by
  have := h.lo; have := h.hi
  simp [rest]; omega
def rfail (s : Rd) (e : Int) : Rd := (s.1, s.2.1, e)
def rto (s : Rd) (n : Nat) : Rd := (s.1, s.2.1 + n, s.2.2)
def rU (s : Rd) : Int × Rd := if s.2.2 = 0 then (match getU 0 0 (rest s) with | none => (0, rfail s 5) | some (v, c) => ((v : Int), rto s c)) else (0, s)
def rBytes (s : Rd) (most : Int) : List Int × Rd := if s.2.2 = 0 then (match getU 0 0 (rest s) with
  | none => ([], rfail s 5)
  | some (v, c) => if (v : Int) > most then ([], rfail s 3) else if v > (rest s).length - c then ([], rfail s 5) else (((rest s).drop c).take v, rto s (c + v))) else ([], s)
theorem rto_inv {s : Rd} (h : RInv s) {n : Nat} (hn : n ≤ (rest s).length) : RInv (rto s n) := by
  have := h.rest_len
  exact ⟨h.b, by have := h.lo; simp [rto]; omega, by simp [rto]; omega, h.big⟩
theorem rfail_inv {s : Rd} (h : RInv s) (e : Int) : RInv (rfail s e) := ⟨h.b, h.lo, h.hi, h.big⟩
theorem rest_rto {s : Rd} (h : RInv s) (n : Nat) : rest (rto s n) = (rest s).drop n := by
  have := h.lo
  simp only [rest, rto, List.drop_drop]
  congr 1; omega
theorem rU_inv {s : Rd} (h : RInv s) : RInv (rU s).2 := by
  unfold rU
  split
  · split
    · exact rfail_inv h 5
    · rename_i v c hg
      exact rto_inv h (getU_le h.rest_byte hg).2.2.2.1
  · exact h
theorem rBytes_inv {s : Rd} (h : RInv s) (most : Int) : RInv (rBytes s most).2 := by
  unfold rBytes
  split
  · split
    · exact rfail_inv h 5
    · rename_i v c hg
      have := (getU_le h.rest_byte hg).2.2.2.1
      split
      · exact rfail_inv h 3
      · split
        · exact rfail_inv h 5
        · exact rto_inv h (by omega)
  · exact h
theorem rU_range {s : Rd} (h : RInv s) : 0 ≤ (rU s).1 ∧ (rU s).1 < 18446744073709551616 := by
  unfold rU
  split
  · split
    · simp
    · rename_i v c hg
      have := (getU_le h.rest_byte hg).1
      simp; omega
  · simp
theorem rBytes_byte {s : Rd} (h : RInv s) (most : Int) : (∀ x ∈ (rBytes s most).1, IsByte x) ∧ ((rBytes s most).1.length : Int) ≤ max most 0 := by
  unfold rBytes
  split
  · split
    · simp; omega
    · split
      · simp; omega
      · split
        · simp; omega
        · refine ⟨fun x hx => h.rest_byte x (List.mem_of_mem_drop (List.mem_of_mem_take hx)), ?_⟩
          simp; omega
  · simp; omega
theorem rU_ok {s : Rd} (h : RInv s) (e : (rU s).2.2.2 = 0) : s.2.2 = 0 ∧ ∃ n : Nat, n < 18446744073709551616 ∧ (rU s).1 = n ∧ rest s = putU n ++ rest (rU s).2 ∧ (rU s).2.1 = s.1 := by
  unfold rU at *
  by_cases h0 : s.2.2 = 0
  · rw [if_pos h0] at *
    cases hg : getU 0 0 (rest s) with
    | none => simp [hg, rfail] at e
    | some p =>
      obtain ⟨v, c⟩ := p
      obtain ⟨h1, _, _, _, _, h5⟩ := getU_le h.rest_byte hg
      simp only
      exact ⟨h0, v, h1, rfl, by rw [rest_rto h]; exact h5, rfl⟩
  · rw [if_neg h0] at e; exact absurd e h0
theorem rBytes_ok {s : Rd} (h : RInv s) {most : Int} (e : (rBytes s most).2.2.2 = 0) : s.2.2 = 0 ∧ ((rBytes s most).1.length : Int) ≤ most ∧ (rBytes s most).1.length < 18446744073709551616 ∧
    rest s = putU (rBytes s most).1.length ++ (rBytes s most).1 ++ rest (rBytes s most).2 ∧ (rBytes s most).2.1 = s.1 := by
  unfold rBytes at *
  by_cases h0 : s.2.2 = 0
  · rw [if_pos h0] at *
    cases hg : getU 0 0 (rest s) with
    | none => simp [hg, rfail] at e
    | some p =>
      obtain ⟨v, c⟩ := p
      obtain ⟨h1, _, _, h3, _, h5⟩ := getU_le h.rest_byte hg
      simp only [hg] at e
      by_cases hm : (v : Int) > most
      · simp [hm, rfail] at e
      · simp only [if_neg hm] at e ⊢
        by_cases hv : v > (rest s).length - c
        · simp [hv, rfail] at e
        · simp only [if_neg hv]
          have hl : (((rest s).drop c).take v).length = v := by simp; omega
          refine ⟨h0, by rw [hl]; omega, by rw [hl]; exact h1, ?_, rfl⟩
          rw [hl, rest_rto h, ← List.drop_drop]
          rw [List.append_assoc, List.take_append_drop]
          exact h5
  · rw [if_neg h0] at e; exact absurd e h0
theorem rU_read {s : Rd} (h : RInv s) (h0 : s.2.2 = 0) {n : Nat} (hn : n < 18446744073709551616) {r : List Int} (hr : rest s = putU n ++ r) : ∃ s', rU s = ((n : Int), s') ∧ RInv s' ∧ s'.2.2 = 0 ∧ rest s' = r ∧ s'.1 = s.1 := by
  have e : rU s = ((n : Int), rto s (putU n).length) := by unfold rU; rw [if_pos h0, hr, getU_putU hn]
  refine ⟨_, e, rto_inv h (by rw [hr]; simp), h0, ?_, rfl⟩
  rw [rest_rto h, hr]; simp
theorem rBytes_read {s : Rd} (h : RInv s) (h0 : s.2.2 = 0) {x : List Int} (hn : x.length < 18446744073709551616) {most : Int} (hm : (x.length : Int) ≤ most) {r : List Int} (hr : rest s = putU x.length ++ x ++ r) :
    ∃ s', rBytes s most = (x, s') ∧ RInv s' ∧ s'.2.2 = 0 ∧ rest s' = r ∧ s'.1 = s.1 := by
  rw [List.append_assoc] at hr
  have e : rBytes s most = (x, rto s ((putU x.length).length + x.length)) := by
    unfold rBytes
    rw [if_pos h0, hr, getU_putU hn]
    simp only
    rw [if_neg (by omega), if_neg (by simp)]
    simp
  refine ⟨_, e, rto_inv h (by rw [hr]; simp), h0, ?_, rfl⟩
  rw [rest_rto h, hr, ← List.drop_drop]; simp
end Go.GG
set_option linter.unusedVariables false
namespace Go.GG
section
variable {α β : Type}
end
end Go.GG
set_option linter.unusedVariables false
namespace Go.GG
end Go.GG
set_option linter.unusedVariables false
namespace Go.GG
structure Cd (α : Type) where
  enc : α → List Int
  rd : Rd → α × Rd
  ok : α → Prop
  byte : ∀ x, ok x → ∀ y ∈ enc x, IsByte y
  inv : ∀ s, RInv s → RInv (rd s).2 ∧ ok (rd s).1
  was : ∀ s, RInv s → (rd s).2.2.2 = 0 → s.2.2 = 0 ∧ rest s = enc (rd s).1 ++ rest (rd s).2
  read : ∀ s x r, RInv s → s.2.2 = 0 → ok x → rest s = enc x ++ r → ∃ s', rd s = (x, s') ∧ RInv s' ∧ s'.2.2 = 0 ∧ rest s' = r
namespace Cd
variable {α β : Type}
def u : Cd Int where
  enc := fun n => putU n.toNat
  rd := rU
  ok := fun n => 0 ≤ n ∧ n < 18446744073709551616
  byte := fun x _ => putU_byte _
  inv := fun s h => ⟨rU_inv h, rU_range h⟩
  was := fun s h e => by
    obtain ⟨a, n, _, b, c, _⟩ := rU_ok h e
    exact ⟨a, by rw [b, Int.toNat_natCast]; exact c⟩
  read := fun s x r h h0 hx hr => by
    obtain ⟨s', a, b, c, d, _⟩ := rU_read h h0 (n := x.toNat) (by omega) hr
    exact ⟨s', by rw [a, Int.toNat_of_nonneg hx.1], b, c, d⟩
def bytes (most : Nat) (hm : most < 18446744073709551616) : Cd (List Int) where
  enc := fun x => putU x.length ++ x
  rd := fun s => rBytes s most
  ok := fun x => (∀ y ∈ x, IsByte y) ∧ x.length ≤ most
  byte := fun x hx y hy => by
    rcases List.mem_append.1 hy with hy | hy
    · exact putU_byte _ y hy
    · exact hx.1 y hy
  inv := fun s h => ⟨rBytes_inv h most, by have := rBytes_byte h most; exact ⟨this.1, by omega⟩⟩
  was := fun s h e => by
    obtain ⟨a, _, _, c, _⟩ := rBytes_ok h e
    exact ⟨a, c⟩
  read := fun s x r h h0 hx hr => by
    obtain ⟨s', a, b, c, d, _⟩ := rBytes_read h h0 (x := x) (by omega) (most := most) (by omega) hr
    exact ⟨s', a, b, c, d⟩
def iso (c : Cd α) (f : α → β) (g : β → α) (okb : β → Prop) (h1 : ∀ x, c.ok x → okb (f x) ∧ g (f x) = x) (h2 : ∀ y, okb y → c.ok (g y) ∧ f (g y) = y) : Cd β where
  enc := fun y => c.enc (g y)
  rd := fun s => (f (c.rd s).1, (c.rd s).2)
  ok := okb
  byte := fun y hy => c.byte _ (h2 y hy).1
  inv := fun s h => ⟨(c.inv s h).1, (h1 _ (c.inv s h).2).1⟩
  was := fun s h e => by rw [(h1 _ (c.inv s h).2).2]; exact c.was s h e
  read := fun s y r h h0 hy hr => by
    obtain ⟨s', a, b⟩ := c.read s (g y) r h h0 (h2 y hy).1 hr
    exact ⟨s', by rw [a, (h2 y hy).2], b⟩
def pair (c : Cd α) (d : Cd β) : Cd (α × β) where
  enc := fun x => c.enc x.1 ++ d.enc x.2
  rd := fun s => (((c.rd s).1, (d.rd (c.rd s).2).1), (d.rd (c.rd s).2).2)
  ok := fun x => c.ok x.1 ∧ d.ok x.2
  byte := fun x hx y hy => by
    rcases List.mem_append.1 hy with hy | hy
    · exact c.byte _ hx.1 y hy
    · exact d.byte _ hx.2 y hy
  inv := fun s h => by
    have h1 := c.inv s h
    have h2 := d.inv _ h1.1
    exact ⟨h2.1, h1.2, h2.2⟩
  was := fun s h e => by
    have h1 := c.inv s h
    obtain ⟨a, b⟩ := d.was _ h1.1 e
    obtain ⟨a', b'⟩ := c.was s h a
    exact ⟨a', by rw [b', b, List.append_assoc]⟩
  read := fun s x r h h0 hx hr => by
    simp only [List.append_assoc] at hr
    obtain ⟨s1, a1, b1, c1, d1⟩ := c.read s x.1 _ h h0 hx.1 hr
    obtain ⟨s2, a2, b2, c2, d2⟩ := d.read s1 x.2 r b1 c1 hx.2 d1
    exact ⟨s2, by rw [a1, a2], b2, c2, d2⟩
theorem whole (c : Cd α) {b : List Int} (hb : ∀ x ∈ b, IsByte x) (hl : b.length ≤ 1000000000000) : ((c.rd (b, 0, 0)).2.2.2 = 0 ∧ rest (c.rd (b, 0, 0)).2 = []) ↔ c.enc (c.rd (b, 0, 0)).1 = b := by
  have i0 : RInv ((b, 0, 0) : Rd) := ⟨hb, by simp, by simp, hl⟩
  have hr : rest ((b, 0, 0) : Rd) = b := by simp [rest]
  constructor
  · rintro ⟨h1, h2⟩
    obtain ⟨_, q⟩ := c.was _ i0 h1
    rw [hr, h2, List.append_nil] at q
    exact q.symm
  · intro e
    obtain ⟨s', a, _, b', c'⟩ := c.read (b, 0, 0) (c.rd (b, 0, 0)).1 [] i0 rfl (c.inv _ i0).2 (by rw [hr, List.append_nil, e])
    have : (c.rd (b, 0, 0)).2 = s' := by rw [a]
    rw [this]; exact ⟨b', c'⟩
theorem back (c : Cd α) {x : α} (hx : c.ok x) (hl : (c.enc x).length ≤ 1000000000000) : (c.rd (c.enc x, 0, 0)).1 = x := by
  have i0 : RInv ((c.enc x, 0, 0) : Rd) := ⟨c.byte x hx, by simp, by simp, hl⟩
  obtain ⟨s', a, _⟩ := c.read (c.enc x, 0, 0) x [] i0 rfl hx (by simp [rest])
  rw [a]
theorem inj (c : Cd α) {x y : α} (hx : c.ok x) (hy : c.ok y) (hl : (c.enc x).length ≤ 1000000000000) (e : c.enc x = c.enc y) : x = y := by
  have h1 := back c hx hl
  rw [e] at h1 hl
  rw [back c hy hl] at h1
  exact h1.symm
end Cd
theorem toBytes_ofBytes (s : List UInt8) : toBytes (ofBytes s) = s := by
  simp [toBytes, ofBytes, Function.comp_def]
theorem ofBytes_toBytes {x : List Int} (h : ∀ y ∈ x, IsByte y) : ofBytes (toBytes x) = x := by
  induction x with
  | nil => rfl
  | cons a x ih =>
    have ha := h a (by simp)
    obtain ⟨h0, h1⟩ := ha
    have := ih (fun y hy => h y (by simp [hy]))
    simp only [toBytes, ofBytes, List.map_cons, List.map_map] at this ⊢
    rw [this]
    congr 1
    simp only [UInt8.toNat_ofNat']
    omega
theorem ofBytes_byte (s : List UInt8) : ∀ y ∈ ofBytes s, IsByte y := by
  intro y hy
  simp only [ofBytes, List.mem_map] at hy
  obtain ⟨b, _, rfl⟩ := hy
  have := b.toNat_lt
  constructor <;> omega
theorem ofBytes_len (s : List UInt8) : (ofBytes s).length = s.length := by simp [ofBytes]
theorem toBytes_len (x : List Int) : (toBytes x).length = x.length := by simp [toBytes]
def Cd.str (most : Nat) (hm : most < 18446744073709551616) : Cd (List UInt8) :=
  (Cd.bytes most hm).iso toBytes ofBytes (fun s => s.length ≤ most) (fun x hx => ⟨by rw [toBytes_len]; exact hx.2, ofBytes_toBytes hx.1⟩) (fun s hs => ⟨⟨ofBytes_byte s, by rw [ofBytes_len]; exact hs⟩, toBytes_ofBytes s⟩)
end Go.GG
set_option linter.unusedVariables false
namespace Go.GG
end Go.GG
set_option linter.unusedVariables false
namespace Go.GG
section
variable {α R : Type}
end
end Go.GG
set_option linter.unusedVariables false
namespace Go.GG
section
variable {α : Type}
structure Ord (α : Type) where
  lt : α → α → Bool
  irr : ∀ a, lt a a = false
  trans : ∀ a b c, lt a b = true → lt b c = true → lt a c = true
  tot : ∀ a b, lt a b = false → lt b a = false → a = b
variable {K : Type} (O : Ord K) (key : α → K)
def Sorted (l : List α) : Prop := l.Pairwise fun a b => O.lt (key a) (key b) = true
variable {O key}
end
end Go.GG
set_option linter.unusedVariables false
namespace Go.GG
abbrev Rise (l : List Int) : Prop := l.Pairwise (· < ·)
theorem Rise.nodup {l : List Int} (h : Rise l) : l.Nodup := List.Pairwise.imp (fun h => by omega) h
theorem Rise.ext {a b : List Int} (ha : Rise a) (hb : Rise b) (h : ∀ x, x ∈ a ↔ x ∈ b) : a = b :=
  List.Perm.eq_of_pairwise (fun x y _ _ h1 h2 => by omega) ha hb ((List.perm_ext_iff_of_nodup ha.nodup hb.nodup).2 h)
theorem Rise.filter {l : List Int} (h : Rise l) (p : Int → Bool) : Rise (l.filter p) := List.Pairwise.filter p h
section
variable {α R : Type}
end
end Go.GG
