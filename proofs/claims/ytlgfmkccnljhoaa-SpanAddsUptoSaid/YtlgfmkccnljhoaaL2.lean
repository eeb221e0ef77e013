/- Functions with fuel that grow and come to a value: the value without fuel. -/
import Derived.Test.YtlgfmkccnljhoaaL1
set_option linter.unusedVariables false
namespace Go.GG
/-- It grows with the fuel, and comes to v. -/
def Lm {α : Type} (f : Nat → Option α) (v : Option α) : Prop :=
  (∀ k y, f k = some y → f (k + 1) = some y) ∧ ∀ y, v = some y ↔ ∃ k, f k = some y
open Classical in
noncomputable def lim {α : Type} (f : Nat → Option α) : Option α := if h : ∃ k, (f k).isSome then f h.choose else none
namespace Lm
variable {α β γ : Type}
theorem up {f : Nat → Option α} {v : Option α} (h : Lm f v) {k j : Nat} (hk : k ≤ j) {y : α} (e : f k = some y) : f j = some y := by
  induction hk with
  | refl => exact e
  | step _ ih => exact h.1 _ _ ih
theorem of_mono {f : Nat → Option α} (h : ∀ k y, f k = some y → f (k + 1) = some y) : Lm f (lim f) := by
  refine ⟨h, fun y => ?_⟩
  have up : ∀ k j, k ≤ j → ∀ y, f k = some y → f j = some y := by
    intro k j hk
    induction hk with
    | refl => exact fun _ e => e
    | step _ ih => exact fun y e => h _ _ (ih y e)
  unfold lim
  constructor
  · intro e
    split at e
    · exact ⟨_, e⟩
    · cases e
  · rintro ⟨k, e⟩
    have hs : ∃ k, (f k).isSome := ⟨k, by rw [e]; rfl⟩
    rw [dif_pos hs]
    have h1 := hs.choose_spec
    obtain ⟨z, hz⟩ := Option.isSome_iff_exists.1 h1
    rw [hz]
    have a := up _ _ (Nat.le_max_left k hs.choose) y e
    have b := up _ _ (Nat.le_max_right k hs.choose) z hz
    rw [a] at b
    exact b.symm
theorem uniq {f : Nat → Option α} {v w : Option α} (h : Lm f v) (h' : Lm f w) : v = w := by
  cases hv : v with
  | some y => exact ((h'.2 y).2 ((h.2 y).1 hv)).symm
  | none =>
    cases hw : w with
    | none => rfl
    | some y => rw [(h.2 y).2 ((h'.2 y).1 hw)] at hv; cases hv
theorem lim_eq {f : Nat → Option α} {v : Option α} (h : Lm f v) : lim f = v := (of_mono h.1).uniq h
theorem of_some {f : Nat → Option α} {v : Option α} (h : Lm f v) (k : Nat) {y : α} (e : f k = some y) : v = some y := (h.2 y).2 ⟨k, e⟩
theorem const (v : Option α) : Lm (fun _ => v) v := ⟨fun _ _ h => h, fun _ => ⟨fun h => ⟨0, h⟩, fun ⟨_, h⟩ => h⟩⟩
theorem bind {f : Nat → Option α} {v : Option α} {g : Nat → α → Option β} {w : α → Option β} (h : Lm f v) (h' : ∀ x, Lm (fun k => g k x) (w x)) :
    Lm (fun k => (f k).bind fun x => g k x) (v.bind fun x => w x) := by
  refine ⟨fun k y e => ?_, fun y => ⟨fun e => ?_, fun ⟨k, e⟩ => ?_⟩⟩
  · obtain ⟨x, hx, hy⟩ := Option.bind_eq_some_iff.1 e
    exact Option.bind_eq_some_iff.2 ⟨x, h.1 _ _ hx, (h' x).1 _ _ hy⟩
  · obtain ⟨x, hx, hy⟩ := Option.bind_eq_some_iff.1 e
    obtain ⟨k, hk⟩ := (h.2 x).1 hx
    obtain ⟨j, hj⟩ := ((h' x).2 y).1 hy
    exact ⟨max k j, Option.bind_eq_some_iff.2 ⟨x, h.up (Nat.le_max_left k j) hk, (h' x).up (Nat.le_max_right k j) hj⟩⟩
  · obtain ⟨x, hx, hy⟩ := Option.bind_eq_some_iff.1 e
    exact Option.bind_eq_some_iff.2 ⟨x, (h.2 x).2 ⟨k, hx⟩, ((h' x).2 y).2 ⟨k, hy⟩⟩
theorem cond (b : Bool) {f g : Nat → Option α} {v w : Option α} (h : Lm f v) (h' : Lm g w) : Lm (fun k => bif b then f k else g k) (bif b then v else w) := by
  cases b
  · exact h'
  · exact h
theorem elim (s : α ⊕ β) {f : Nat → α → Option γ} {g : Nat → β → Option γ} {v : α → Option γ} {w : β → Option γ} (h : ∀ a, Lm (fun k => f k a) (v a)) (h' : ∀ b, Lm (fun k => g k b) (w b)) :
    Lm (fun k => Sum.elim (fun a => f k a) (fun b => g k b) s) (Sum.elim (fun a => v a) (fun b => w b) s) := by
  cases s
  · exact h _
  · exact h' _
theorem shift {f : Nat → Option α} {v : Option α} (h : Lm f v) : Lm (fun k => f (k + 1)) v :=
  ⟨fun k y e => h.1 _ _ e, fun y => ⟨fun e => let ⟨k, hk⟩ := (h.2 y).1 e; ⟨k, h.1 _ _ hk⟩, fun ⟨k, e⟩ => (h.2 y).2 ⟨k + 1, e⟩⟩⟩
theorem loop {V : Type} {p : Nat → V → Option α} (B : Nat → (V → Option α) → V → Option α) (B' : (V → Option α) → V → Option α)
    (h0 : ∀ v, p 0 v = none) (hs : ∀ k v, p (k + 1) v = B k (p k) v)
    (hB : ∀ (q : Nat → V → Option α) (q' : V → Option α), (∀ v, Lm (fun k => q k v) (q' v)) → ∀ v, Lm (fun k => B k (q k) v) (B' q' v)) :
    (∀ v, Lm (fun k => p k v) (lim fun k => p k v)) ∧ ∀ v, (lim fun k => p k v) = B' (fun v => lim fun k => p k v) v := by
  have mono : ∀ n k, k < n → ∀ v y, p k v = some y → p (k + 1) v = some y := by
    intro n
    induction n with
    | zero => intro k h; exact absurd h (Nat.not_lt_zero _)
    | succ n ih =>
      intro k hk v y e
      cases k with
      | zero => rw [h0] at e; cases e
      | succ k =>
        have up : ∀ i j, i ≤ j → j ≤ n → ∀ v y, p i v = some y → p j v = some y := by
          intro i j hij
          induction hij with
          | refl => exact fun _ _ _ e => e
          | step _ ihj => exact fun hj v y e => ih _ (by omega) v y (ihj (by omega) v y e)
        have hq : ∀ v, Lm (fun j => p (min j n) v) (p n v) := by
          intro v
          refine ⟨fun j y e => up _ _ (by omega) (by omega) v y e, fun y => ⟨fun e => ⟨n, by show p (min n n) v = some y; rw [Nat.min_self]; exact e⟩, fun ⟨j, e⟩ => up _ _ (by omega) (by omega) v y e⟩⟩
        have := (hB (fun j => p (min j n)) (p n) hq v).1 k y
        simp only at this
        rw [show min k n = k by omega, show min (k + 1) n = k + 1 by omega, ← hs, ← hs] at this
        exact this e
  have h1 : ∀ v, Lm (fun k => p k v) (lim fun k => p k v) := fun v => of_mono fun k y e => mono (k + 1) k (Nat.lt_succ_self k) v y e
  refine ⟨h1, fun v => ?_⟩
  have h2 := hB p (fun v => lim fun k => p k v) h1 v
  have h3 : (fun k => B k (p k) v) = fun k => p (k + 1) v := by funext k; rw [hs]
  rw [h3] at h2
  exact (h1 v).shift.uniq h2
/-- Functions that take functions. -/
theorem diag {A B R : Type} {F : Nat → (A → Option B) → Option R} {F' : (A → Option B) → Option R} {g : Nat → A → Option B} {g' : A → Option B}
    (h1 : ∀ k, Lm (fun j => F k (g j)) (F k g')) (h2 : ∀ h, Lm (fun k => F k h) (F' h)) : Lm (fun k => F k (g k)) (F' g') := by
  refine ⟨fun k y e => ?_, fun y => ⟨fun e => ?_, fun ⟨k, e⟩ => ?_⟩⟩
  · exact (h2 (g (k + 1))).1 _ _ ((h1 k).1 _ _ e)
  · obtain ⟨k, hk⟩ := ((h2 g').2 y).1 e
    obtain ⟨j, hj⟩ := ((h1 k).2 y).1 hk
    exact ⟨max k j, (h2 _).up (Nat.le_max_left k j) ((h1 k).up (Nat.le_max_right k j) hj)⟩
  · exact ((h2 g').2 y).2 ⟨k, ((h1 k).2 y).2 ⟨k, e⟩⟩
theorem fin {F : Nat → Option Bool} {v : Option Bool} (h : Lm F v) (e : v = some true) : ∃ k, F k = some true := (h.2 true).1 e
end Lm
theorem map_cond {α β : Type} (f : α → β) (b : Bool) (x y : Option α) : (cond b x y).map f = cond b (x.map f) (y.map f) := by cases b <;> rfl
end Go.GG
