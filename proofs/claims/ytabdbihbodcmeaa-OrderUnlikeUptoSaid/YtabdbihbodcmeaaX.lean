/- Orders: which are alike; the three laws. -/
import Derived.Test.YtabdbihbodcmeaaD
open Go Go.GG
set_option linter.unusedVariables false
set_option linter.unusedSimpArgs false
namespace Go.Proofs.Ytabdbihbodcmeaa.gg
theorem same_loop {α : Type} [DecidableEq α] (f : α → α → Bool) (hf : ∀ x y, f x y = decide (x = y)) (a b : List α) (hl : a.length = b.length) (F : Nat → Option (Unit ⊕ Bool))
    (h : ∀ i (h1 : i < a.length) (h2 : i < b.length), F i = bif f a[i] b[i] then F (i + 1) else some (.inr false)) (he : F a.length = some (.inl ())) : F 0 = bif decide (a = b) then some (.inl ()) else some (.inr false) := by
  have key := check_loop a.length F (fun i => if hh : i < a.length then f a[i] (b[i]'(by omega)) else true) (a := some (.inl ())) (b := some (.inr false)) (fun i hi => by
    rw [h i hi (by omega), dif_pos hi]) he
  rw [key]
  congr 1
  rw [Bool.eq_iff_iff, allB_iff, decide_eq_true_eq]
  constructor
  · intro hh
    refine List.ext_getElem hl fun i h1 h2 => ?_
    have := hh i h1
    rw [dif_pos h1, hf, decide_eq_true_eq] at this
    exact this
  · rintro rfl i hi
    rw [dif_pos hi, hf, decide_eq_true_eq]
theorem eqb_dec {t : T} [DecidableEq t.den] (h : t.flat = true) (x y : t.den) : t.eqb x y = decide (x = y) := by
  rw [Bool.eq_iff_iff, decide_eq_true_eq]; exact eqb_iff h x y
theorem bne_dec {α : Type} [BEq α] [LawfulBEq α] [DecidableEq α] (a b : α) : (a == b) = decide (a = b) := by
  by_cases h : a = b
  · subst h; simp
  · rw [decide_eq_false h, beq_eq_false_iff_ne]; exact h
theorem len_bne {α : Type} [DecidableEq α] {a b : List α} (h : a.length ≠ b.length) : ((a.length : Int) != (b.length : Int)) = true ∧ decide (a = b) = false := by
  refine ⟨bne_iff_ne.2 (by omega), decide_eq_false fun e => h (congrArg List.length e)⟩
theorem len_beq {α : Type} {a b : List α} (h : a.length = b.length) : ((a.length : Int) != (b.length : Int)) = false := by rw [h]; simp
theorem slices_Equal_string_string_dec (a b : List Str) (hl : a.length ≤ 1048576) : slices_Equal_string_string' a b = some (decide (a = b)) := by
  unfold slices_Equal_string_string'
  by_cases h : a.length = b.length
  · have key := same_loop (fun x y : Str => x == y) (fun x y => bne_dec x y) a b h (fun i => slices_Equal_string_string_p14' a b (a.length : Int) (i : Int)) (fun i h1 h2 => by
      try dsimp only
      rw [slices_Equal_string_string_p14_eq, decide_eq_true (by omega : (i : Int) < (a.length : Int)), at?_lt h1, at?_lt h2, wrap_succ (by omega)]
      simp only [Int.reduceBEq, w0, w1, w2, w3, w4, w5, w6, w7, w8, w9, w10, w11, w12, w13, w14, w15, w16, bne]
      generalize hq : (a[i] == b[i]) = q
      cases q <;> rfl) (by
      try dsimp only
      rw [slices_Equal_string_string_p14_eq, decide_eq_false (by omega : ¬ (a.length : Int) < (a.length : Int))]; rfl)
    simp only [show ((0 : Nat) : Int) = 0 from rfl] at key
    rw [len_beq h, cond_false, key]
    cases decide (a = b) <;> rfl
  · obtain ⟨h1, h2⟩ := len_bne h
    rw [h1, h2]; rfl
theorem slices_Equal_int_int_dec (a b : List Int) (hl : a.length ≤ 1048576) : slices_Equal_int_int' a b = some (decide (a = b)) := by
  unfold slices_Equal_int_int'
  by_cases h : a.length = b.length
  · have key := same_loop (fun x y : Int => x == y) (fun x y => bne_dec x y) a b h (fun i => slices_Equal_int_int_p14' a b (a.length : Int) (i : Int)) (fun i h1 h2 => by
      try dsimp only
      rw [slices_Equal_int_int_p14_eq, decide_eq_true (by omega : (i : Int) < (a.length : Int)), at?_lt h1, at?_lt h2, wrap_succ (by omega)]
      simp only [Int.reduceBEq, w0, w1, w2, w3, w4, w5, w6, w7, w8, w9, w10, w11, w12, w13, w14, w15, w16, bne]
      generalize hq : (a[i] == b[i]) = q
      cases q <;> rfl) (by
      try dsimp only
      rw [slices_Equal_int_int_p14_eq, decide_eq_false (by omega : ¬ (a.length : Int) < (a.length : Int))]; rfl)
    simp only [show ((0 : Nat) : Int) = 0 from rfl] at key
    rw [len_beq h, cond_false, key]
    cases decide (a = b) <;> rfl
  · obtain ⟨h1, h2⟩ := len_bne h
    rw [h1, h2]; rfl
theorem slices_Equal_api_Hold_api_Hold_dec (a b : List Hl) (hl : a.length ≤ 1048576) : slices_Equal_api_Hold_api_Hold' a b = some (decide (a = b)) := by
  unfold slices_Equal_api_Hold_api_Hold'
  by_cases h : a.length = b.length
  · have key := same_loop (fun x y : Hl => T.eqb (.pair .str (.pair (.int .u64) (.int .i64))) x y) (fun x y => eqb_dec (t := .pair .str (.pair (.int .u64) (.int .i64))) rfl x y) a b h (fun i => slices_Equal_api_Hold_api_Hold_p14' a b (a.length : Int) (i : Int)) (fun i h1 h2 => by
      try dsimp only
      rw [slices_Equal_api_Hold_api_Hold_p14_eq, decide_eq_true (by omega : (i : Int) < (a.length : Int)), at?_lt h1, at?_lt h2, wrap_succ (by omega)]
      simp only [Int.reduceBEq, w0, w1, w2, w3, w4, w5, w6, w7, w8, w9, w10, w11, w12, w13, w14, w15, w16, bne]
      generalize hq : T.eqb (.pair .str (.pair (.int .u64) (.int .i64))) a[i] b[i] = q
      cases q <;> rfl) (by
      try dsimp only
      rw [slices_Equal_api_Hold_api_Hold_p14_eq, decide_eq_false (by omega : ¬ (a.length : Int) < (a.length : Int))]; rfl)
    simp only [show ((0 : Nat) : Int) = 0 from rfl] at key
    rw [len_beq h, cond_false, key]
    cases decide (a = b) <;> rfl
  · obtain ⟨h1, h2⟩ := len_bne h
    rw [h1, h2]; rfl
theorem slices_Equal_api_Mark_api_Mark_dec (a b : List Mk) (hl : a.length ≤ 1048576) : slices_Equal_api_Mark_api_Mark' a b = some (decide (a = b)) := by
  unfold slices_Equal_api_Mark_api_Mark'
  by_cases h : a.length = b.length
  · have key := same_loop (fun x y : Mk => T.eqb (.pair .str (.int .u64)) x y) (fun x y => eqb_dec (t := .pair .str (.int .u64)) rfl x y) a b h (fun i => slices_Equal_api_Mark_api_Mark_p14' a b (a.length : Int) (i : Int)) (fun i h1 h2 => by
      try dsimp only
      rw [slices_Equal_api_Mark_api_Mark_p14_eq, decide_eq_true (by omega : (i : Int) < (a.length : Int)), at?_lt h1, at?_lt h2, wrap_succ (by omega)]
      simp only [Int.reduceBEq, w0, w1, w2, w3, w4, w5, w6, w7, w8, w9, w10, w11, w12, w13, w14, w15, w16, bne]
      generalize hq : T.eqb (.pair .str (.int .u64)) a[i] b[i] = q
      cases q <;> rfl) (by
      try dsimp only
      rw [slices_Equal_api_Mark_api_Mark_p14_eq, decide_eq_false (by omega : ¬ (a.length : Int) < (a.length : Int))]; rfl)
    simp only [show ((0 : Nat) : Int) = 0 from rfl] at key
    rw [len_beq h, cond_false, key]
    cases decide (a = b) <;> rfl
  · obtain ⟨h1, h2⟩ := len_bne h
    rw [h1, h2]; rfl
theorem ref20_Texts_dec (a b : List Str) (hl : a.length ≤ 1048576) : ref20_Texts' a b = some (decide (a = b)) := by
  unfold ref20_Texts'
  by_cases h : a.length = b.length
  · have key := same_loop (fun x y : Str => x == y) (fun x y => bne_dec x y) a b h (fun i => ref20_Texts_p14' a b (i : Int)) (fun i h1 h2 => by
      try dsimp only
      rw [ref20_Texts_p14_eq, decide_eq_true (by omega : (i : Int) < (a.length : Int)), at?_lt h1, at?_lt h2, wrap_succ (by omega)]
      simp only [Int.reduceBEq, w0, w1, w2, w3, w4, w5, w6, w7, w8, w9, w10, w11, w12, w13, w14, w15, w16, bne]
      generalize hq : (a[i] == b[i]) = q
      cases q <;> rfl) (by
      try dsimp only
      rw [ref20_Texts_p14_eq, decide_eq_false (by omega : ¬ (a.length : Int) < (a.length : Int))]; rfl)
    simp only [show ((0 : Nat) : Int) = 0 from rfl] at key
    rw [len_beq h, cond_false, key]
    cases decide (a = b) <;> rfl
  · obtain ⟨h1, h2⟩ := len_bne h
    rw [h1, h2]; rfl
theorem ref12_Ints_dec (a b : List Int) (hl : a.length ≤ 1048576) : ref12_Ints' a b = some (decide (a = b)) := by
  unfold ref12_Ints'
  by_cases h : a.length = b.length
  · have key := same_loop (fun x y : Int => x == y) (fun x y => bne_dec x y) a b h (fun i => ref12_Ints_p14' a b (i : Int)) (fun i h1 h2 => by
      try dsimp only
      rw [ref12_Ints_p14_eq, decide_eq_true (by omega : (i : Int) < (a.length : Int)), at?_lt h1, at?_lt h2, wrap_succ (by omega)]
      simp only [Int.reduceBEq, w0, w1, w2, w3, w4, w5, w6, w7, w8, w9, w10, w11, w12, w13, w14, w15, w16, bne]
      generalize hq : (a[i] == b[i]) = q
      cases q <;> rfl) (by
      try dsimp only
      rw [ref12_Ints_p14_eq, decide_eq_false (by omega : ¬ (a.length : Int) < (a.length : Int))]; rfl)
    simp only [show ((0 : Nat) : Int) = 0 from rfl] at key
    rw [len_beq h, cond_false, key]
    cases decide (a = b) <;> rfl
  · obtain ⟨h1, h2⟩ := len_bne h
    rw [h1, h2]; rfl
theorem ref17_Same_dec (a b : List Hl) (hl : a.length ≤ 1048576) : ref17_Same' a b = some (decide (a = b)) := by
  unfold ref17_Same'
  by_cases h : a.length = b.length
  · have key := same_loop (fun x y : Hl => T.eqb (.pair .str (.pair (.int .u64) (.int .i64))) x y) (fun x y => eqb_dec (t := .pair .str (.pair (.int .u64) (.int .i64))) rfl x y) a b h (fun i => ref17_Same_p14' a b (i : Int)) (fun i h1 h2 => by
      try dsimp only
      rw [ref17_Same_p14_eq, decide_eq_true (by omega : (i : Int) < (a.length : Int)), at?_lt h1, at?_lt h2, wrap_succ (by omega)]
      simp only [Int.reduceBEq, w0, w1, w2, w3, w4, w5, w6, w7, w8, w9, w10, w11, w12, w13, w14, w15, w16, bne]
      generalize hq : T.eqb (.pair .str (.pair (.int .u64) (.int .i64))) a[i] b[i] = q
      cases q <;> rfl) (by
      try dsimp only
      rw [ref17_Same_p14_eq, decide_eq_false (by omega : ¬ (a.length : Int) < (a.length : Int))]; rfl)
    simp only [show ((0 : Nat) : Int) = 0 from rfl] at key
    rw [len_beq h, cond_false, key]
    cases decide (a = b) <;> rfl
  · obtain ⟨h1, h2⟩ := len_bne h
    rw [h1, h2]; rfl
theorem ref17_SameMarks_dec (a b : List Mk) (hl : a.length ≤ 1048576) : ref17_SameMarks' a b = some (decide (a = b)) := by
  unfold ref17_SameMarks'
  by_cases h : a.length = b.length
  · have key := same_loop (fun x y : Mk => T.eqb (.pair .str (.int .u64)) x y) (fun x y => eqb_dec (t := .pair .str (.int .u64)) rfl x y) a b h (fun i => ref17_SameMarks_p14' a b (i : Int)) (fun i h1 h2 => by
      try dsimp only
      rw [ref17_SameMarks_p14_eq, decide_eq_true (by omega : (i : Int) < (a.length : Int)), at?_lt h1, at?_lt h2, wrap_succ (by omega)]
      simp only [Int.reduceBEq, w0, w1, w2, w3, w4, w5, w6, w7, w8, w9, w10, w11, w12, w13, w14, w15, w16, bne]
      generalize hq : T.eqb (.pair .str (.int .u64)) a[i] b[i] = q
      cases q <;> rfl) (by
      try dsimp only
      rw [ref17_SameMarks_p14_eq, decide_eq_false (by omega : ¬ (a.length : Int) < (a.length : Int))]; rfl)
    simp only [show ((0 : Nat) : Int) = 0 from rfl] at key
    rw [len_beq h, cond_false, key]
    cases decide (a = b) <;> rfl
  · obtain ⟨h1, h2⟩ := len_bne h
    rw [h1, h2]; rfl
noncomputable def alike (a b : Or) : Bool := @decide (a = b) (Classical.propDecidable _)
theorem alike_iff {a b : Or} : alike a b = true ↔ a = b := by unfold alike; exact @decide_eq_true_iff _ (Classical.propDecidable _)
theorem alike_self (a : Or) : alike a a = true := alike_iff.2 rfl
theorem alike_ne {a b : Or} (h : a ≠ b) : alike a b = false := by
  cases hh : alike a b with
  | false => rfl
  | true => exact absurd (alike_iff.1 hh) h
theorem Same_dec (a b : Or) (hz : Sz a) : order_Same' a b = some (alike a b) := by
  obtain ⟨z1, z2, z3, z4⟩ := hz
  obtain ⟨k, id, ⟨ck, keys, tok, ttl⟩, groups, group, code, token, take, plan, ⟨qp, qs, holds, marks⟩, key, n⟩ := a
  obtain ⟨k2, id2, ⟨ck2, keys2, tok2, ttl2⟩, groups2, group2, code2, token2, take2, plan2, ⟨qp2, qs2, holds2, marks2⟩, key2, n2⟩ := b
  simp only at z1 z2 z3 z4
  unfold order_Same'
  simp only [slices_Equal_string_string_dec _ _ z1, slices_Equal_int_int_dec _ _ z2, slices_Equal_api_Hold_api_Hold_dec _ _ z3, slices_Equal_api_Mark_api_Mark_dec _ _ z4, Option.bind_some, eqb_dec (t := .pair (.int .i64) (.int .u64)) rfl, eqb_dec (t := .pair (.int .u64) (.pair (.pair .str .str) (.pair (.int .i64) (.pair (.int .i64) (.int .i64))))) rfl, eqb_dec (t := .pair .str .str) rfl, bne_dec]
  by_cases h : k = k2
  case neg =>
    have e : ∀ p : Prop, [Decidable p] → (p → False) → decide p = false := fun p _ hp => decide_eq_false hp
    simp only [e _ h, cond_false, Bool.not_false, cond_true, Option.bind_some]
    congr 1
    exact (alike_ne (by rintro ⟨⟩; exact h rfl)).symm
  subst h
  simp only [decide_true, cond_true, Bool.not_true, cond_false, Option.bind_some]
  by_cases h : id = id2
  case neg =>
    have e : ∀ p : Prop, [Decidable p] → (p → False) → decide p = false := fun p _ hp => decide_eq_false hp
    simp only [e _ h, cond_false, Bool.not_false, cond_true, Option.bind_some]
    congr 1
    exact (alike_ne (by rintro ⟨⟩; exact h rfl)).symm
  subst h
  simp only [decide_true, cond_true, Bool.not_true, cond_false, Option.bind_some]
  by_cases h : ck = ck2
  case neg =>
    have e : ∀ p : Prop, [Decidable p] → (p → False) → decide p = false := fun p _ hp => decide_eq_false hp
    simp only [e _ h, cond_false, Bool.not_false, cond_true, Option.bind_some]
    congr 1
    exact (alike_ne (by rintro ⟨⟩; exact h rfl)).symm
  subst h
  simp only [decide_true, cond_true, Bool.not_true, cond_false, Option.bind_some]
  by_cases h : keys = keys2
  case neg =>
    have e : ∀ p : Prop, [Decidable p] → (p → False) → decide p = false := fun p _ hp => decide_eq_false hp
    simp only [e _ h, cond_false, Bool.not_false, cond_true, Option.bind_some]
    congr 1
    exact (alike_ne (by rintro ⟨⟩; exact h rfl)).symm
  subst h
  simp only [decide_true, cond_true, Bool.not_true, cond_false, Option.bind_some]
  by_cases h : tok = tok2
  case neg =>
    have e : ∀ p : Prop, [Decidable p] → (p → False) → decide p = false := fun p _ hp => decide_eq_false hp
    simp only [e _ h, cond_false, Bool.not_false, cond_true, Option.bind_some]
    congr 1
    exact (alike_ne (by rintro ⟨⟩; exact h rfl)).symm
  subst h
  simp only [decide_true, cond_true, Bool.not_true, cond_false, Option.bind_some]
  by_cases h : ttl = ttl2
  case neg =>
    have e : ∀ p : Prop, [Decidable p] → (p → False) → decide p = false := fun p _ hp => decide_eq_false hp
    simp only [e _ h, cond_false, Bool.not_false, cond_true, Option.bind_some]
    congr 1
    exact (alike_ne (by rintro ⟨⟩; exact h rfl)).symm
  subst h
  simp only [decide_true, cond_true, Bool.not_true, cond_false, Option.bind_some]
  by_cases h : groups = groups2
  case neg =>
    have e : ∀ p : Prop, [Decidable p] → (p → False) → decide p = false := fun p _ hp => decide_eq_false hp
    simp only [e _ h, cond_false, Bool.not_false, cond_true, Option.bind_some]
    congr 1
    exact (alike_ne (by rintro ⟨⟩; exact h rfl)).symm
  subst h
  simp only [decide_true, cond_true, Bool.not_true, cond_false, Option.bind_some]
  by_cases h : group = group2
  case neg =>
    have e : ∀ p : Prop, [Decidable p] → (p → False) → decide p = false := fun p _ hp => decide_eq_false hp
    simp only [e _ h, cond_false, Bool.not_false, cond_true, Option.bind_some]
    congr 1
    exact (alike_ne (by rintro ⟨⟩; exact h rfl)).symm
  subst h
  simp only [decide_true, cond_true, Bool.not_true, cond_false, Option.bind_some]
  by_cases h : code = code2
  case neg =>
    have e : ∀ p : Prop, [Decidable p] → (p → False) → decide p = false := fun p _ hp => decide_eq_false hp
    simp only [e _ h, cond_false, Bool.not_false, cond_true, Option.bind_some]
    congr 1
    exact (alike_ne (by rintro ⟨⟩; exact h rfl)).symm
  subst h
  simp only [decide_true, cond_true, Bool.not_true, cond_false, Option.bind_some]
  by_cases h : token = token2
  case neg =>
    have e : ∀ p : Prop, [Decidable p] → (p → False) → decide p = false := fun p _ hp => decide_eq_false hp
    simp only [e _ h, cond_false, Bool.not_false, cond_true, Option.bind_some]
    congr 1
    exact (alike_ne (by rintro ⟨⟩; exact h rfl)).symm
  subst h
  simp only [decide_true, cond_true, Bool.not_true, cond_false, Option.bind_some]
  by_cases h : take = take2
  case neg =>
    have e : ∀ p : Prop, [Decidable p] → (p → False) → decide p = false := fun p _ hp => decide_eq_false hp
    simp only [e _ h, cond_false, Bool.not_false, cond_true, Option.bind_some]
    congr 1
    exact (alike_ne (by rintro ⟨⟩; exact h rfl)).symm
  subst h
  simp only [decide_true, cond_true, Bool.not_true, cond_false, Option.bind_some]
  by_cases h : plan = plan2
  case neg =>
    have e : ∀ p : Prop, [Decidable p] → (p → False) → decide p = false := fun p _ hp => decide_eq_false hp
    simp only [e _ h, cond_false, Bool.not_false, cond_true, Option.bind_some]
    congr 1
    exact (alike_ne (by rintro ⟨⟩; exact h rfl)).symm
  subst h
  simp only [decide_true, cond_true, Bool.not_true, cond_false, Option.bind_some]
  by_cases h : qp = qp2
  case neg =>
    have e : ∀ p : Prop, [Decidable p] → (p → False) → decide p = false := fun p _ hp => decide_eq_false hp
    simp only [e _ h, cond_false, Bool.not_false, cond_true, Option.bind_some]
    congr 1
    exact (alike_ne (by rintro ⟨⟩; exact h rfl)).symm
  subst h
  simp only [decide_true, cond_true, Bool.not_true, cond_false, Option.bind_some]
  by_cases h : qs = qs2
  case neg =>
    have e : ∀ p : Prop, [Decidable p] → (p → False) → decide p = false := fun p _ hp => decide_eq_false hp
    simp only [e _ h, cond_false, Bool.not_false, cond_true, Option.bind_some]
    congr 1
    exact (alike_ne (by rintro ⟨⟩; exact h rfl)).symm
  subst h
  simp only [decide_true, cond_true, Bool.not_true, cond_false, Option.bind_some]
  by_cases h : holds = holds2
  case neg =>
    have e : ∀ p : Prop, [Decidable p] → (p → False) → decide p = false := fun p _ hp => decide_eq_false hp
    simp only [e _ h, cond_false, Bool.not_false, cond_true, Option.bind_some]
    congr 1
    exact (alike_ne (by rintro ⟨⟩; exact h rfl)).symm
  subst h
  simp only [decide_true, cond_true, Bool.not_true, cond_false, Option.bind_some]
  by_cases h : marks = marks2
  case neg =>
    have e : ∀ p : Prop, [Decidable p] → (p → False) → decide p = false := fun p _ hp => decide_eq_false hp
    simp only [e _ h, cond_false, Bool.not_false, cond_true, Option.bind_some]
    congr 1
    exact (alike_ne (by rintro ⟨⟩; exact h rfl)).symm
  subst h
  simp only [decide_true, cond_true, Bool.not_true, cond_false, Option.bind_some]
  by_cases h : key = key2
  case neg =>
    have e : ∀ p : Prop, [Decidable p] → (p → False) → decide p = false := fun p _ hp => decide_eq_false hp
    simp only [e _ h, cond_false, Bool.not_false, cond_true, Option.bind_some]
    congr 1
    exact (alike_ne (by rintro ⟨⟩; exact h rfl)).symm
  subst h
  simp only [decide_true, cond_true, Bool.not_true, cond_false, Option.bind_some]
  by_cases h : n = n2
  case neg =>
    have e : ∀ p : Prop, [Decidable p] → (p → False) → decide p = false := fun p _ hp => decide_eq_false hp
    simp only [e _ h, cond_false, Bool.not_false, cond_true, Option.bind_some]
    congr 1
    exact (alike_ne (by rintro ⟨⟩; exact h rfl)).symm
  subst h
  simp only [decide_true, cond_true, Bool.not_true, cond_false, Option.bind_some]
  rw [alike_self]
theorem refSame_dec (a b : Or) (hz : Sz a) : ref22_Same' a b = some (alike a b) := by
  obtain ⟨z1, z2, z3, z4⟩ := hz
  obtain ⟨k, id, ⟨ck, keys, tok, ttl⟩, groups, group, code, token, take, plan, ⟨qp, qs, holds, marks⟩, key, n⟩ := a
  obtain ⟨k2, id2, ⟨ck2, keys2, tok2, ttl2⟩, groups2, group2, code2, token2, take2, plan2, ⟨qp2, qs2, holds2, marks2⟩, key2, n2⟩ := b
  simp only at z1 z2 z3 z4
  unfold ref22_Same' ref20_SameCall'
  simp only [ref20_Texts_dec _ _ z1, ref12_Ints_dec _ _ z2, ref17_Same_dec _ _ z3, ref17_SameMarks_dec _ _ z4, Option.bind_some, eqb_dec (t := .pair (.int .i64) (.int .u64)) rfl, eqb_dec (t := .pair (.int .u64) (.pair (.pair .str .str) (.pair (.int .i64) (.pair (.int .i64) (.int .i64))))) rfl, eqb_dec (t := .pair .str .str) rfl, bne, bne_dec]
  by_cases h : k = k2
  case neg =>
    have e : ∀ p : Prop, [Decidable p] → (p → False) → decide p = false := fun p _ hp => decide_eq_false hp
    simp only [e _ h, cond_false, Bool.not_false, cond_true, Option.bind_some]
    congr 1
    exact (alike_ne (by rintro ⟨⟩; exact h rfl)).symm
  subst h
  simp only [decide_true, cond_true, Bool.not_true, cond_false, Option.bind_some]
  by_cases h : id = id2
  case neg =>
    have e : ∀ p : Prop, [Decidable p] → (p → False) → decide p = false := fun p _ hp => decide_eq_false hp
    simp only [e _ h, cond_false, Bool.not_false, cond_true, Option.bind_some]
    congr 1
    exact (alike_ne (by rintro ⟨⟩; exact h rfl)).symm
  subst h
  simp only [decide_true, cond_true, Bool.not_true, cond_false, Option.bind_some]
  by_cases h : ck = ck2
  case neg =>
    have e : ∀ p : Prop, [Decidable p] → (p → False) → decide p = false := fun p _ hp => decide_eq_false hp
    simp only [e _ h, cond_false, Bool.not_false, cond_true, Option.bind_some]
    congr 1
    exact (alike_ne (by rintro ⟨⟩; exact h rfl)).symm
  subst h
  simp only [decide_true, cond_true, Bool.not_true, cond_false, Option.bind_some]
  by_cases h : tok = tok2
  case neg =>
    have e : ∀ p : Prop, [Decidable p] → (p → False) → decide p = false := fun p _ hp => decide_eq_false hp
    simp only [e _ h, cond_false, Bool.not_false, cond_true, Option.bind_some]
    congr 1
    exact (alike_ne (by rintro ⟨⟩; exact h rfl)).symm
  subst h
  simp only [decide_true, cond_true, Bool.not_true, cond_false, Option.bind_some]
  by_cases h : ttl = ttl2
  case neg =>
    have e : ∀ p : Prop, [Decidable p] → (p → False) → decide p = false := fun p _ hp => decide_eq_false hp
    simp only [e _ h, cond_false, Bool.not_false, cond_true, Option.bind_some]
    congr 1
    exact (alike_ne (by rintro ⟨⟩; exact h rfl)).symm
  subst h
  simp only [decide_true, cond_true, Bool.not_true, cond_false, Option.bind_some]
  by_cases h : keys = keys2
  case neg =>
    have e : ∀ p : Prop, [Decidable p] → (p → False) → decide p = false := fun p _ hp => decide_eq_false hp
    simp only [e _ h, cond_false, Bool.not_false, cond_true, Option.bind_some]
    congr 1
    exact (alike_ne (by rintro ⟨⟩; exact h rfl)).symm
  subst h
  simp only [decide_true, cond_true, Bool.not_true, cond_false, Option.bind_some]
  by_cases h : groups = groups2
  case neg =>
    have e : ∀ p : Prop, [Decidable p] → (p → False) → decide p = false := fun p _ hp => decide_eq_false hp
    simp only [e _ h, cond_false, Bool.not_false, cond_true, Option.bind_some]
    congr 1
    exact (alike_ne (by rintro ⟨⟩; exact h rfl)).symm
  subst h
  simp only [decide_true, cond_true, Bool.not_true, cond_false, Option.bind_some]
  by_cases h : group = group2
  case neg =>
    have e : ∀ p : Prop, [Decidable p] → (p → False) → decide p = false := fun p _ hp => decide_eq_false hp
    simp only [e _ h, cond_false, Bool.not_false, cond_true, Option.bind_some]
    congr 1
    exact (alike_ne (by rintro ⟨⟩; exact h rfl)).symm
  subst h
  simp only [decide_true, cond_true, Bool.not_true, cond_false, Option.bind_some]
  by_cases h : code = code2
  case neg =>
    have e : ∀ p : Prop, [Decidable p] → (p → False) → decide p = false := fun p _ hp => decide_eq_false hp
    simp only [e _ h, cond_false, Bool.not_false, cond_true, Option.bind_some]
    congr 1
    exact (alike_ne (by rintro ⟨⟩; exact h rfl)).symm
  subst h
  simp only [decide_true, cond_true, Bool.not_true, cond_false, Option.bind_some]
  by_cases h : token = token2
  case neg =>
    have e : ∀ p : Prop, [Decidable p] → (p → False) → decide p = false := fun p _ hp => decide_eq_false hp
    simp only [e _ h, cond_false, Bool.not_false, cond_true, Option.bind_some]
    congr 1
    exact (alike_ne (by rintro ⟨⟩; exact h rfl)).symm
  subst h
  simp only [decide_true, cond_true, Bool.not_true, cond_false, Option.bind_some]
  by_cases h : take = take2
  case neg =>
    have e : ∀ p : Prop, [Decidable p] → (p → False) → decide p = false := fun p _ hp => decide_eq_false hp
    simp only [e _ h, cond_false, Bool.not_false, cond_true, Option.bind_some]
    congr 1
    exact (alike_ne (by rintro ⟨⟩; exact h rfl)).symm
  subst h
  simp only [decide_true, cond_true, Bool.not_true, cond_false, Option.bind_some]
  by_cases h : plan = plan2
  case neg =>
    have e : ∀ p : Prop, [Decidable p] → (p → False) → decide p = false := fun p _ hp => decide_eq_false hp
    simp only [e _ h, cond_false, Bool.not_false, cond_true, Option.bind_some]
    congr 1
    exact (alike_ne (by rintro ⟨⟩; exact h rfl)).symm
  subst h
  simp only [decide_true, cond_true, Bool.not_true, cond_false, Option.bind_some]
  by_cases h : qp = qp2
  case neg =>
    have e : ∀ p : Prop, [Decidable p] → (p → False) → decide p = false := fun p _ hp => decide_eq_false hp
    simp only [e _ h, cond_false, Bool.not_false, cond_true, Option.bind_some]
    congr 1
    exact (alike_ne (by rintro ⟨⟩; exact h rfl)).symm
  subst h
  simp only [decide_true, cond_true, Bool.not_true, cond_false, Option.bind_some]
  by_cases h : qs = qs2
  case neg =>
    have e : ∀ p : Prop, [Decidable p] → (p → False) → decide p = false := fun p _ hp => decide_eq_false hp
    simp only [e _ h, cond_false, Bool.not_false, cond_true, Option.bind_some]
    congr 1
    exact (alike_ne (by rintro ⟨⟩; exact h rfl)).symm
  subst h
  simp only [decide_true, cond_true, Bool.not_true, cond_false, Option.bind_some]
  by_cases h : holds = holds2
  case neg =>
    have e : ∀ p : Prop, [Decidable p] → (p → False) → decide p = false := fun p _ hp => decide_eq_false hp
    simp only [e _ h, cond_false, Bool.not_false, cond_true, Option.bind_some]
    congr 1
    exact (alike_ne (by rintro ⟨⟩; exact h rfl)).symm
  subst h
  simp only [decide_true, cond_true, Bool.not_true, cond_false, Option.bind_some]
  by_cases h : marks = marks2
  case neg =>
    have e : ∀ p : Prop, [Decidable p] → (p → False) → decide p = false := fun p _ hp => decide_eq_false hp
    simp only [e _ h, cond_false, Bool.not_false, cond_true, Option.bind_some]
    congr 1
    exact (alike_ne (by rintro ⟨⟩; exact h rfl)).symm
  subst h
  simp only [decide_true, cond_true, Bool.not_true, cond_false, Option.bind_some]
  by_cases h : key = key2
  case neg =>
    have e : ∀ p : Prop, [Decidable p] → (p → False) → decide p = false := fun p _ hp => decide_eq_false hp
    simp only [e _ h, cond_false, Bool.not_false, cond_true, Option.bind_some]
    congr 1
    exact (alike_ne (by rintro ⟨⟩; exact h rfl)).symm
  subst h
  simp only [decide_true, cond_true, Bool.not_true, cond_false, Option.bind_some]
  by_cases h : n = n2
  case neg =>
    have e : ∀ p : Prop, [Decidable p] → (p → False) → decide p = false := fun p _ hp => decide_eq_false hp
    simp only [e _ h, cond_false, Bool.not_false, cond_true, Option.bind_some]
    congr 1
    exact (alike_ne (by rintro ⟨⟩; exact h rfl)).symm
  subst h
  simp only [decide_true, cond_true, Bool.not_true, cond_false, Option.bind_some]
  rw [alike_self]
/-! ### The laws -/
structure Wf (o : Or) : Prop where
  seq : U64 o.2.1.2
  tok : U64 o.2.2.1.2.2.1
  token : U64 o.2.2.2.2.2.2.1
  pid : U64 o.2.2.2.2.2.2.2.2.1.1
  qplan : U64 o.2.2.2.2.2.2.2.2.2.1.1
  holds : ∀ h ∈ o.2.2.2.2.2.2.2.2.2.1.2.2.1, U64 h.2.1
  marks : ∀ m ∈ o.2.2.2.2.2.2.2.2.2.1.2.2.2, U64 m.2
theorem btw_n {x m : Int} (hm : m ≤ 2147483647) (h : btw x m = true) : nC.ok x := by
  simp only [btw, Bool.and_eq_true, decide_eq_true_eq] at h
  exact ⟨h.1, by have := h.2; show x ≤ 2147483647; omega⟩
theorem key_le {s : Str} (h : keyB s = true) : s.length ≤ 64 := by
  simp only [keyB, decide_eq_true_eq] at h; omega
theorem ok_of {o : Or} (h : orMay o = true) (w : Wf o) : orC.ok o := by
  obtain ⟨w1, w2, w3, w4, w5, w6, w7⟩ := w
  obtain ⟨kind, ⟨client, seq⟩, ⟨ck, keys, tok, ttl⟩, groups, group, code, token, take, ⟨pid, ⟨pf, pt⟩, pfrom, pto, pstep⟩, ⟨qplan, ⟨qf, qt⟩, holds, marks⟩, key, n⟩ := o
  simp only [orMay, calB, pclB, hlB, Bool.and_eq_true, List.all_append, List.all_cons, List.all_nil, List.all_eq_true, decide_eq_true_eq] at h
  obtain ⟨a1, a2, a3, ⟨a4, a5, a6, a7⟩, a8, ⟨⟨a9, a10, a11, _⟩, a12⟩, a13, a14, ⟨a15, a16, a17, _⟩, a18, ⟨a19, a20, _⟩, a21, a22, a23, a24⟩ := h
  refine ⟨⟨by omega, by show kind ≤ 2147483647; omega⟩, ⟨btw_n (by decide) a3, w1⟩, ⟨btw_n (by decide) a4, ⟨by simp only; omega, fun s hs => key_le (a6 s hs)⟩, w2, btw_n (by decide) a7⟩, ⟨by simp only; omega, fun g hg => btw_n (by decide) (a12 g hg)⟩, btw_n (by decide) a9, btw_n (by decide) a13, w3, trivial,
    ⟨w4, ⟨key_le a15, key_le a16⟩, btw_n (by decide) a10, btw_n (by decide) a11, btw_n (by decide) a14⟩, ⟨w5, ⟨key_le a19, key_le a20⟩, ⟨by simp only; omega, fun x hx => ⟨key_le (a23 x hx).1, w6 x hx, btw_n (by decide) (a23 x hx).2⟩⟩, ⟨by simp only; omega, fun x hx => ⟨key_le (a24 x hx), w7 x hx⟩⟩⟩, key_le a17, btw_n (by decide) a18⟩
theorem cond_ex {α : Type} (b : Bool) {x y : Option α} (hx : ∃ z, x = some z) (hy : ∃ z, y = some z) : ∃ z, (bif b then x else y) = some z := by
  cases b
  · exact hy
  · exact hx
theorem light_some (o : Or) (hz : Sz o) : ∃ bl, law22_light' o = some bl := by
  obtain ⟨z1, _, _, _⟩ := hz
  unfold law22_light'
  have h := loop_inv o.2.2.1.2.1.length (fun i s => law22_light_p8' s (i : Int) (o.1, o.2.1.1, o.2.1.2, o.2.2.1.1, o.2.2.1.2.1, o.2.2.1.2.2.1, o.2.2.1.2.2.2, o.2.2.2.1, o.2.2.2.2.1, o.2.2.2.2.2.1, o.2.2.2.2.2.2.1, o.2.2.2.2.2.2.2.1, o.2.2.2.2.2.2.2.2.1.1, o.2.2.2.2.2.2.2.2.1.2.1.1, o.2.2.2.2.2.2.2.2.1.2.1.2, o.2.2.2.2.2.2.2.2.1.2.2.1, o.2.2.2.2.2.2.2.2.1.2.2.2.1, o.2.2.2.2.2.2.2.2.1.2.2.2.2, o.2.2.2.2.2.2.2.2.2.1.1, o.2.2.2.2.2.2.2.2.2.1.2.1.1, o.2.2.2.2.2.2.2.2.2.1.2.1.2, o.2.2.2.2.2.2.2.2.2.1.2.2.1, o.2.2.2.2.2.2.2.2.2.1.2.2.2, o.2.2.2.2.2.2.2.2.2.2.1, o.2.2.2.2.2.2.2.2.2.2.2)) (fun _ _ => True) (fun r => ∃ x, r = some x) (fun i s hi _ => by
    try dsimp only
    rw [law22_light_p8_eq]
    simp only
    rw [decide_eq_true (by omega : (i : Int) < (o.2.2.1.2.1.length : Int)), at?_lt hi, wrap_succ (by omega)]
    cases decide ((i : Int) < 40) with
    | true => exact .inl ⟨_, rfl, trivial⟩
    | false => exact .inr ⟨_, rfl⟩) (fun s _ => by
    try dsimp only
    rw [law22_light_p8_eq]
    simp only
    rw [decide_eq_false (by omega : ¬ (o.2.2.1.2.1.length : Int) < (o.2.2.1.2.1.length : Int))]
    exact ⟨_, rfl⟩) 0 0 (by omega) trivial
  obtain ⟨x, hx⟩ := h
  simp only [show ((0 : Nat) : Int) = 0 from rfl] at hx
  rw [hx]
  simp only [Option.bind_some]
  exact cond_ex _ (cond_ex _ (cond_ex _ (cond_ex _ ⟨_, rfl⟩ ⟨_, rfl⟩) ⟨_, rfl⟩) ⟨_, rfl⟩) ⟨_, rfl⟩
theorem or0_sz : Sz or0 := ⟨by simp, by simp, by simp, by simp⟩
abbrev orA : Or := (1, (0, 0), (0, [], 0, 0), [], 0, 0, 0, false, (0, ([], []), 0, 0, 0), (0, ([], []), [], []), [], 5)
theorem orA_ok : orC.ok orA := ok_of (by decide) ⟨⟨by decide, by decide⟩, ⟨by decide, by decide⟩, ⟨by decide, by decide⟩, ⟨by decide, by decide⟩, ⟨by decide, by decide⟩, by simp, by simp⟩
theorem orA_len : (orC.enc orA).length ≤ 4096 := by
  rw [← bytes_enc]
  simp only [bytesF, strsF, putsF, strF, List.length_append, List.flatMap_nil, List.length_nil]
  have h : ∀ n : Nat, n < 128 → (putU n).length = 1 := fun n hn => by rw [putU_lt hn]; rfl
  simp only [show ofBytes ([] : Str) = [] from rfl, List.length_nil]
  rw [h _ (by decide), h _ (by decide), h _ (by decide), h _ (by decide), h _ (by decide)]
  decide
theorem Decode_back {o : Or} (h : orC.ok o) (hm : orMay o = true) (hl : (orC.enc o).length ≤ 4096) : order_Decode' (orC.enc o) = some (o, 0) := by
  rw [Decode_eq (orC.byte o h) hl, Cd.back orC h (by omega), hm]
  simp
theorem awake_eq : law22_awake' = some true := by
  unfold law22_awake'
  have hz : Sz orA := sz_of orA_ok
  have he := Encode_eq orA hz (fun _ => fits_of orA_ok)
  rw [show orMay orA = true by decide, decide_eq_false (by have := orA_len; omega : ¬ ((orC.enc orA).length : Int) > 4096)] at he
  simp only [cond_true, cond_false] at he
  have hd := Decode_back orA_ok (by decide) orA_len
  have hc := Check_eq or0 or0_sz
  rw [show orMay or0 = false by decide] at hc
  simp only [cond_false] at hc
  rw [he]
  simp only [Option.bind_some]
  rw [hd]
  simp only [Option.bind_some]
  rw [hc]
  rfl
theorem rd_sz {b : List Int} (hb : ∀ x ∈ b, IsByte x) (hl : b.length ≤ 1000000000000) : Sz (orC.rd (b, 0, 0)).1 := sz_of (orC.inv _ (read_inv b hl hb)).2
theorem law_OrderDecodes (b : List Int) (hb : ∀ x ∈ b, IsByte x) : ∃ k, law22_OrderDecodes k b = some true := by
  refine (law22_OrderDecodes_lm b).fin ?_
  unfold law22_OrderDecodes'
  rw [awake_eq]
  by_cases h : (b.length : Int) > 4096
  · unfold order_Decode'
    rw [decide_eq_true h]
    simp only [Int.reduceBEq, w0, w1, w2, w3, w4, w5, w6, w7, w8, w9, w10, w11, w12, w13, w14, w15, w16]
    rw [refSame_dec _ _ or0_sz, alike_self]
    rfl
  · rw [decide_eq_false h, Decode_eq hb (by omega), refDecode_eq hb (by omega)]
    have hz := rd_sz hb (by omega)
    cases (decide (orC.enc (orC.rd (b, 0, 0)).1 = b) && orMay (orC.rd (b, 0, 0)).1) with
    | true =>
      simp only [Int.reduceBEq, w0, w1, w2, w3, w4, w5, w6, w7, w8, w9, w10, w11, w12, w13, w14, w15, w16]
      rw [refSame_dec _ _ hz, alike_self]
      simp only [Int.reduceBEq, w0, w1, w2, w3, w4, w5, w6, w7, w8, w9, w10, w11, w12, w13, w14, w15, w16, decide_true]
    | false =>
      simp only [Int.reduceBEq, w0, w1, w2, w3, w4, w5, w6, w7, w8, w9, w10, w11, w12, w13, w14, w15, w16]
      rw [refSame_dec _ _ or0_sz, alike_self]
      simp only [Int.reduceBEq, w0, w1, w2, w3, w4, w5, w6, w7, w8, w9, w10, w11, w12, w13, w14, w15, w16, decide_true]
theorem law_OrderCodes (o : Or) (hz : Sz o) (w : Wf o) : ∃ k, law22_OrderCodes k o = some true := by
  refine (law22_OrderCodes_lm o).fin ?_
  unfold law22_OrderCodes'
  obtain ⟨bl, hbl⟩ := light_some o hz
  rw [hbl, awake_eq, Encode_eq o hz (fun hm => fits_of (ok_of hm w)), refMay_eq o hz, Check_eq o hz]
  simp only [Int.reduceBEq, w0, w1, w2, w3, w4, w5, w6, w7, w8, w9, w10, w11, w12, w13, w14, w15, w16]
  cases bl with
  | false => rfl
  | true =>
    cases hm : orMay o with
    | false => rfl
    | true =>
      have hc := ok_of hm w
      simp only [Int.reduceBEq, w0, w1, w2, w3, w4, w5, w6, w7, w8, w9, w10, w11, w12, w13, w14, w15, w16]
      rw [refBytes_all o (fits_of hc)]
      simp only [Int.reduceBEq, w0, w1, w2, w3, w4, w5, w6, w7, w8, w9, w10, w11, w12, w13, w14, w15, w16]
      by_cases hl : ((orC.enc o).length : Int) > 4096
      · rw [decide_eq_true hl]; rfl
      · rw [decide_eq_false hl]
        simp only [Int.reduceBEq, w0, w1, w2, w3, w4, w5, w6, w7, w8, w9, w10, w11, w12, w13, w14, w15, w16]
        rw [Decode_back hc hm (by omega)]
        simp only [Int.reduceBEq, w0, w1, w2, w3, w4, w5, w6, w7, w8, w9, w10, w11, w12, w13, w14, w15, w16]
        rw [refSame_dec _ _ hz, alike_self]
        simp only [Int.reduceBEq, w0, w1, w2, w3, w4, w5, w6, w7, w8, w9, w10, w11, w12, w13, w14, w15, w16, decide_true]
theorem law_OrderUnlike (a b : Or) (za : Sz a) (zb : Sz b) (wa : Wf a) (wb : Wf b) : ∃ k, law22_OrderUnlike k a b = some true := by
  refine (law22_OrderUnlike_lm a b).fin ?_
  unfold law22_OrderUnlike'
  obtain ⟨ba, hba⟩ := light_some a za
  obtain ⟨bb, hbb⟩ := light_some b zb
  rw [hba, hbb, awake_eq, Encode_eq a za (fun hm => fits_of (ok_of hm wa)), Encode_eq b zb (fun hm => fits_of (ok_of hm wb)), Same_dec a b za, refSame_dec a b za, Same_dec a a za, alike_self]
  simp only [Int.reduceBEq, w0, w1, w2, w3, w4, w5, w6, w7, w8, w9, w10, w11, w12, w13, w14, w15, w16, decide_true]
  cases ba with
  | false => rfl
  | true =>
  cases bb with
  | false => rfl
  | true =>
  cases hma : orMay a with
  | false => rfl
  | true =>
  by_cases hla : ((orC.enc a).length : Int) > 4096
  · rw [decide_eq_true hla]; rfl
  rw [decide_eq_false hla]
  cases hmb : orMay b with
  | false => rfl
  | true =>
  by_cases hlb : ((orC.enc b).length : Int) > 4096
  · rw [decide_eq_true hlb]; rfl
  rw [decide_eq_false hlb]
  simp only [Int.reduceBEq, w0, w1, w2, w3, w4, w5, w6, w7, w8, w9, w10, w11, w12, w13, w14, w15, w16]
  have hca := ok_of hma wa
  have hcb := ok_of hmb wb
  have ht := toBytes_inj (orC.byte a hca) (orC.byte b hcb)
  have : (toBytes (orC.enc a) == toBytes (orC.enc b)) = alike a b := by
    rw [Bool.eq_iff_iff, ht, alike_iff]
    exact ⟨fun e => Cd.inj orC hca hcb (by omega) e, fun e => congrArg _ e⟩
  rw [this]
  simp only [Int.reduceBEq, w0, w1, w2, w3, w4, w5, w6, w7, w8, w9, w10, w11, w12, w13, w14, w15, w16, Int.reduceBNe]
end Go.Proofs.Ytabdbihbodcmeaa.gg
