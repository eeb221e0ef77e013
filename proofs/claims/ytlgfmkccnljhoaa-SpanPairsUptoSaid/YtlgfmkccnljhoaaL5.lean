/- Loops, as rules; lists, place by place. -/
import Derived.Test.YtlgfmkccnljhoaaL4
set_option linter.unusedVariables false
namespace Go.GG
theorem wrap_succ {i : Nat} (h : i ≤ 1000000000000000000) : IntKind.wrap .i64 ((i : Int) + 1) = ((i + 1 : Nat) : Int) := by rw [i64_in (by omega) (by omega)]; omega
theorem wrap_pred {i : Nat} (h : i ≤ 1000000000000000000) (h0 : 0 < i) : IntKind.wrap .i64 ((i : Int) - 1) = ((i - 1 : Nat) : Int) := by rw [i64_in (by omega) (by omega)]; omega
/-- A loop with what holds at each round. -/
theorem loop_inv {S R : Type} (n : Nat) (P : Nat → S → R) (Inv : Nat → S → Prop) (Post : R → Prop)
    (hstep : ∀ i s, i < n → Inv i s → (∃ s', P i s = P (i + 1) s' ∧ Inv (i + 1) s') ∨ Post (P i s)) (hend : ∀ s, Inv n s → Post (P n s)) :
    ∀ i s, i ≤ n → Inv i s → Post (P i s) := by
  have key : ∀ m i s, i + m = n → Inv i s → Post (P i s) := by
    intro m
    induction m with
    | zero => intro i s h hi; have : i = n := by omega
              subst this; exact hend s hi
    | succ m ih =>
      intro i s h hi
      rcases hstep i s (by omega) hi with ⟨s', e, hi'⟩ | hp
      · rw [e]; exact ih (i + 1) s' (by omega) hi'
      · exact hp
  intro i s h hi
  exact key (n - i) i s (by omega) hi
/-- A loop that looks at each place, and leaves at the first that is wrong. -/
def allB (n : Nat) (ok : Nat → Bool) : Bool := (List.range n).all ok
theorem allB_iff {n : Nat} {ok : Nat → Bool} : allB n ok = true ↔ ∀ i, i < n → ok i = true := by simp [allB]
theorem allB_congr {n : Nat} {ok ok' : Nat → Bool} (h : ∀ i, i < n → ok i = ok' i) : allB n ok = allB n ok' := by
  rw [Bool.eq_iff_iff, allB_iff, allB_iff]
  exact ⟨fun a i hi => by rw [← h i hi]; exact a i hi, fun a i hi => by rw [h i hi]; exact a i hi⟩
theorem check_loop {R : Type} (n : Nat) (P : Nat → R) (ok : Nat → Bool) {a b : R} (h : ∀ i, i < n → P i = bif ok i then P (i + 1) else b) (he : P n = a) : P 0 = bif allB n ok then a else b := by
  have key : ∀ i (s : Unit), i ≤ n → (∀ j, j < i → ok j = true) → P i = bif allB n ok then a else b := by
    apply loop_inv n (fun i (_ : Unit) => P i) (fun i _ => ∀ j, j < i → ok j = true) (fun r => r = bif allB n ok then a else b)
    · intro i s hi hj
      rw [h i hi]
      cases hok : ok i with
      | true => exact .inl ⟨(), rfl, fun j hj' => by
          rcases Nat.lt_succ_iff_lt_or_eq.1 hj' with h1 | h1
          · exact hj j h1
          · rw [h1]; exact hok⟩
      | false =>
        refine .inr ?_
        have : allB n ok = false := by
          cases hh : allB n ok with
          | false => rfl
          | true => rw [allB_iff.1 hh i hi] at hok; cases hok
        rw [this]; rfl
    · intro s hj
      rw [he, allB_iff.2 hj]; rfl
  exact key 0 () (by omega) (fun j hj => absurd hj (Nat.not_lt_zero _))
/-- A loop that looks for a place. -/
def firstB (n : Nat) (ok : Nat → Bool) : Option Nat := (List.range n).find? ok
theorem firstB_none {n : Nat} {ok : Nat → Bool} : firstB n ok = none ↔ ∀ i, i < n → ok i = false := by
  simp [firstB]
theorem firstB_some {n : Nat} {ok : Nat → Bool} {i : Nat} : firstB n ok = some i ↔ i < n ∧ ok i = true ∧ ∀ j, j < i → ok j = false := by
  unfold firstB
  rw [List.find?_eq_some_iff_getElem]
  constructor
  · rintro ⟨h1, k, hk, h2, h3⟩
    simp at hk h2
    subst h2
    exact ⟨hk, h1, fun j hj => by have := h3 j hj; simpa using this⟩
  · rintro ⟨h1, h2, h3⟩
    exact ⟨h2, i, by simpa using h1, by simp, fun j hj => by simp [h3 j hj]⟩
theorem firstB_congr {n : Nat} {ok ok' : Nat → Bool} (h : ∀ i, i < n → ok i = ok' i) : firstB n ok = firstB n ok' := by
  cases hf : firstB n ok' with
  | none => rw [firstB_none] at hf ⊢; exact fun i hi => by rw [h i hi]; exact hf i hi
  | some i =>
    rw [firstB_some] at hf ⊢
    exact ⟨hf.1, by rw [h i hf.1]; exact hf.2.1, fun j hj => by rw [h j (by omega)]; exact hf.2.2 j hj⟩
theorem find_loop {R : Type} (n : Nat) (P : Nat → R) (ok : Nat → Bool) {f : Nat → R} {a : R} (h : ∀ i, i < n → P i = bif ok i then f i else P (i + 1)) (he : P n = a) :
    P 0 = match firstB n ok with | some i => f i | none => a := by
  have key : ∀ i (s : Unit), i ≤ n → (∀ j, j < i → ok j = false) → P i = match firstB n ok with | some i => f i | none => a := by
    apply loop_inv n (fun i (_ : Unit) => P i) (fun i _ => ∀ j, j < i → ok j = false) (fun r => r = match firstB n ok with | some i => f i | none => a)
    · intro i s hi hj
      rw [h i hi]
      cases hok : ok i with
      | false => exact .inl ⟨(), rfl, fun j hj' => by
          rcases Nat.lt_succ_iff_lt_or_eq.1 hj' with h1 | h1
          · exact hj j h1
          · rw [h1]; exact hok⟩
      | true =>
        refine .inr ?_
        rw [firstB_some.2 ⟨hi, hok, hj⟩]; rfl
    · intro s hj
      rw [he, firstB_none.2 hj]
  exact key 0 () (by omega) (fun j hj => absurd hj (Nat.not_lt_zero _))
/-! ### Places -/
section
variable {α β : Type}
theorem get?_nat (l : List α) (i : Nat) : l[Int.toNat (i : Int)]? = l[i]? := by simp
theorem at?_nat {l : List α} {i : Nat} (h : i < l.length) : at? l (i : Int) = some l[i] := at?_lt h
theorem take_succ' {l : List α} {i : Nat} (h : i < l.length) : l.take (i + 1) = l.take i ++ [l[i]] := by
  rw [List.take_add_one, List.getElem?_eq_getElem h]; rfl
theorem map_mix_len {l : List α} {f : α → α} {i : Nat} (h : i ≤ l.length) : ((l.take i).map f ++ l.drop i).length = l.length := by simp; omega
theorem map_mix_get {l : List α} {f : α → α} {i : Nat} (h : i < l.length) : ((l.take i).map f ++ l.drop i)[i]? = some l[i] := by
  rw [List.getElem?_append_right (by simp; omega)]
  simp [show min i l.length = i by omega, h]
theorem map_mix_set {l : List α} {f : α → α} {i : Nat} (h : i < l.length) : ((l.take i).map f ++ l.drop i).set i (f l[i]) = (l.take (i + 1)).map f ++ l.drop (i + 1) := by
  rw [List.set_append_right _ _ (by simp; omega)]
  have e : i - ((l.take i).map f).length = 0 := by simp; omega
  rw [e, List.drop_eq_getElem_cons h, List.set_cons_zero, take_succ' h, List.map_append, List.append_assoc]
  rfl
end
def T.dflt : (t : T) → t.den
  | .int _ => (0 : Int)
  | .bool => false
  | .str => ([] : List UInt8)
  | .slice _ => []
  | .pair a b => (a.dflt, b.dflt)
/-- The element at a place. -/
def nth {α : Type} (l : List α) (i : Nat) (d : α) : α := l.getD i d
theorem at?_getD {α : Type} {l : List α} {i : Nat} (h : i < l.length) (d : α) : at? l (i : Int) = some (nth l i d) := by
  unfold nth; rw [at?_lt h, List.getD_eq_getElem?_getD, List.getElem?_eq_getElem h]; rfl
theorem get?_getD {α : Type} {l : List α} {i : Nat} (h : i < l.length) (d : α) : l[i]? = some (nth l i d) := by
  unfold nth; rw [List.getD_eq_getElem?_getD, List.getElem?_eq_getElem h]; rfl
theorem getD_lt {α : Type} {l : List α} {i : Nat} (h : i < l.length) (d : α) : nth l i d = l[i] := by
  unfold nth; rw [List.getD_eq_getElem?_getD, List.getElem?_eq_getElem h]; rfl
/-! ### Equality of flat values -/
theorem eqb_iff : ∀ {t : T} (h : t.flat = true) (x y : t.den), t.eqb x y = true ↔ x = y
  | .int _, _, x, y => by simp [T.eqb]
  | .bool, _, x, y => by simp [T.eqb]
  | .str, _, x, y => by simp [T.eqb]
  | .slice _, h, _, _ => by simp [T.flat] at h
  | .pair a b, h, x, y => by
    simp only [T.flat, Bool.and_eq_true] at h
    simp only [T.eqb, Bool.and_eq_true, eqb_iff h.1, eqb_iff h.2]
    obtain ⟨x1, x2⟩ := x
    obtain ⟨y1, y2⟩ := y
    simp
theorem list_eq_iff {α : Type} {a b : List α} (h : a.length = b.length) : a = b ↔ ∀ i, (hi : i < a.length) → a[i] = b[i]'(by omega) := by
  constructor
  · rintro rfl i hi; rfl
  · intro hh
    exact List.ext_getElem h fun i h1 h2 => hh i h1
/-- Lists that are looked at place by place. -/
theorem same_loop {t : T} (hf : t.flat = true) (a b : List t.den) (hl : a.length = b.length) : allB a.length (fun i => t.eqb (nth a i t.dflt) (nth b i t.dflt)) = true ↔ a = b := by
  rw [allB_iff, list_eq_iff hl]
  constructor
  · intro h i hi
    have := h i hi
    rw [eqb_iff hf] at this
    simpa [nth, List.getD_eq_getElem?_getD, hi, (by omega : i < b.length)] using this
  · intro h i hi
    rw [eqb_iff hf]
    have := h i hi
    simpa [nth, List.getD_eq_getElem?_getD, hi, (by omega : i < b.length)] using this
end Go.GG
