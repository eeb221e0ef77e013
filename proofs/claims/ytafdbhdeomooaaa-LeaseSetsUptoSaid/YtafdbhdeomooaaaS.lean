/- Marks and holds: what the library's functions on them come to. -/
import Derived.Test.YtafdbhdeomooaaaA
open Go Go.GG
set_option linter.unusedVariables false
namespace Go.Proofs.Ytafdbhdeomooaaa.gg
abbrev Mk := List UInt8 × Int
theorem slices_BinarySearchFunc_api_Mark_api_Mark_string_is (l : List (Mk)) (key : List UInt8) (f : (Mk) × List UInt8 → Option Int) (g : Mk → Int) (lt : Mk → Bool) (hl : l.length ≤ 1000000000000) (hf : ∀ x, f (x, key) = some (g x)) (hlt : ∀ x, decide (g x < 0) = lt x) (hfore : Fore lt l) :
    slices_BinarySearchFunc_api_Mark_api_Mark_string' l key f = some (((cutAt lt l : Nat) : Int), thereAt lt (fun x => g x == 0) l) := by
  have hcl := cutAt_le lt l
  have key0 := bs_loop (n := l.length) (cut := cutAt lt l) (fun i j => slices_BinarySearchFunc_api_Mark_api_Mark_string_q_p8' l key f (l.length : Int) i j) (fun i => some (l, key, (l.length : Int), (i : Int))) hcl (fun i j hij hj => by
    try dsimp only
    rw [slices_BinarySearchFunc_api_Mark_api_Mark_string_q_p8_eq, decide_eq_true (by omega : (i : Int) < (j : Int)), bs_mid (by omega), at?_lt (by omega : (i + j) / 2 < l.length)]
    simp only [cond_true, Option.bind_some, hf, hlt]
    rw [wrap_succ (by omega)]
    have := cutAt_iff hfore ((i + j) / 2) (by omega)
    cases hh : lt l[(i + j) / 2] with
    | true => rw [decide_eq_true (this.1 hh)]
    | false => rw [decide_eq_false (fun h => by rw [this.2 h] at hh; cases hh)]) (fun i hi => by
    try dsimp only
    rw [slices_BinarySearchFunc_api_Mark_api_Mark_string_q_p8_eq, decide_eq_false (by omega : ¬ (i : Int) < (i : Int))]; rfl)
  unfold slices_BinarySearchFunc_api_Mark_api_Mark_string' slices_BinarySearchFunc_api_Mark_api_Mark_string_q'
  try dsimp only at key0
  rw [key0]
  simp only [Option.bind_some]
  by_cases hc : cutAt lt l < l.length
  · rw [decide_eq_true (by omega : ((cutAt lt l : Nat) : Int) < (l.length : Int)), at?_lt hc, there_lt hc]
    simp only [cond_true, Option.bind_some, hf]
  · rw [decide_eq_false (by omega : ¬ ((cutAt lt l : Nat) : Int) < (l.length : Int)), there_ge hc]
    rfl
theorem slices_BinarySearchFunc_api_Hold_api_Hold_string_is (l : List (Hold)) (key : List UInt8) (f : (Hold) × List UInt8 → Option Int) (g : Hold → Int) (lt : Hold → Bool) (hl : l.length ≤ 1000000000000) (hf : ∀ x, f (x, key) = some (g x)) (hlt : ∀ x, decide (g x < 0) = lt x) (hfore : Fore lt l) :
    slices_BinarySearchFunc_api_Hold_api_Hold_string' l key f = some (((cutAt lt l : Nat) : Int), thereAt lt (fun x => g x == 0) l) := by
  have hcl := cutAt_le lt l
  have key0 := bs_loop (n := l.length) (cut := cutAt lt l) (fun i j => slices_BinarySearchFunc_api_Hold_api_Hold_string_q_p8' l key f (l.length : Int) i j) (fun i => some (l, key, (l.length : Int), (i : Int))) hcl (fun i j hij hj => by
    try dsimp only
    rw [slices_BinarySearchFunc_api_Hold_api_Hold_string_q_p8_eq, decide_eq_true (by omega : (i : Int) < (j : Int)), bs_mid (by omega), at?_lt (by omega : (i + j) / 2 < l.length)]
    simp only [cond_true, Option.bind_some, hf, hlt]
    rw [wrap_succ (by omega)]
    have := cutAt_iff hfore ((i + j) / 2) (by omega)
    cases hh : lt l[(i + j) / 2] with
    | true => rw [decide_eq_true (this.1 hh)]
    | false => rw [decide_eq_false (fun h => by rw [this.2 h] at hh; cases hh)]) (fun i hi => by
    try dsimp only
    rw [slices_BinarySearchFunc_api_Hold_api_Hold_string_q_p8_eq, decide_eq_false (by omega : ¬ (i : Int) < (i : Int))]; rfl)
  unfold slices_BinarySearchFunc_api_Hold_api_Hold_string' slices_BinarySearchFunc_api_Hold_api_Hold_string_q'
  try dsimp only at key0
  rw [key0]
  simp only [Option.bind_some]
  by_cases hc : cutAt lt l < l.length
  · rw [decide_eq_true (by omega : ((cutAt lt l : Nat) : Int) < (l.length : Int)), at?_lt hc, there_lt hc]
    simp only [cond_true, Option.bind_some, hf]
  · rw [decide_eq_false (by omega : ¬ ((cutAt lt l : Nat) : Int) < (l.length : Int)), there_ge hc]
    rfl
theorem slices_IndexFunc_api_Mark_api_Mark_is (l : List (Mk)) (f : Mk → Option Bool) (p : Mk → Bool) (hl : l.length ≤ 1000000000000) (hf : ∀ x, f x = some (p x)) : slices_IndexFunc_api_Mark_api_Mark' l f = some (match l.findIdx? p with | some i => (i : Int) | none => -1) := by
  have key0 := index_loop l p (fun i => slices_IndexFunc_api_Mark_api_Mark_p6' l f (l.length : Int) (i : Int)) (f := fun i => some (.inr (i : Int))) (a := some (.inl ())) (fun i hi => by
    try dsimp only
    rw [slices_IndexFunc_api_Mark_api_Mark_p6_eq, decide_eq_true (by omega : (i : Int) < (l.length : Int)), at?_lt hi]
    simp only [cond_true, Option.bind_some, hf]
    rw [wrap_succ (by omega)]) (by
    try dsimp only
    rw [slices_IndexFunc_api_Mark_api_Mark_p6_eq, decide_eq_false (by omega : ¬ (l.length : Int) < (l.length : Int))]; rfl)
  unfold slices_IndexFunc_api_Mark_api_Mark'
  simp only [show ((0 : Nat) : Int) = 0 from rfl] at key0
  rw [key0]
  cases l.findIdx? p <;> rfl
theorem slices_IndexFunc_api_Hold_api_Hold_is (l : List (Hold)) (f : Hold → Option Bool) (p : Hold → Bool) (hl : l.length ≤ 1000000000000) (hf : ∀ x, f x = some (p x)) : slices_IndexFunc_api_Hold_api_Hold' l f = some (match l.findIdx? p with | some i => (i : Int) | none => -1) := by
  have key0 := index_loop l p (fun i => slices_IndexFunc_api_Hold_api_Hold_p6' l f (l.length : Int) (i : Int)) (f := fun i => some (.inr (i : Int))) (a := some (.inl ())) (fun i hi => by
    try dsimp only
    rw [slices_IndexFunc_api_Hold_api_Hold_p6_eq, decide_eq_true (by omega : (i : Int) < (l.length : Int)), at?_lt hi]
    simp only [cond_true, Option.bind_some, hf]
    rw [wrap_succ (by omega)]) (by
    try dsimp only
    rw [slices_IndexFunc_api_Hold_api_Hold_p6_eq, decide_eq_false (by omega : ¬ (l.length : Int) < (l.length : Int))]; rfl)
  unfold slices_IndexFunc_api_Hold_api_Hold'
  simp only [show ((0 : Nat) : Int) = 0 from rfl] at key0
  rw [key0]
  cases l.findIdx? p <;> rfl
theorem slices_Clone_api_Mark_api_Mark_is (l : List (Mk)) (hl : l.length ≤ 4398046511104 / 24) : slices_Clone_api_Mark_api_Mark' l = some l := by
  unfold slices_Clone_api_Mark_api_Mark'
  rw [room_of (by simp; omega)]
  rfl
theorem slices_Clone_api_Hold_api_Hold_is (l : List (Hold)) (hl : l.length ≤ 4398046511104 / 32) : slices_Clone_api_Hold_api_Hold' l = some l := by
  unfold slices_Clone_api_Hold_api_Hold'
  rw [room_of (by simp; omega)]
  rfl
theorem slices_DeleteFunc_api_Hold_api_Hold_is (l : List (Hold)) (f : Hold → Option Bool) (p : Hold → Bool) (hl : l.length ≤ 1000000000000) (hf : ∀ x, f x = some (p x)) : slices_DeleteFunc_api_Hold_api_Hold' l f = some (l.filter fun x => !p x) := by
  unfold slices_DeleteFunc_api_Hold_api_Hold'
  rw [slices_IndexFunc_api_Hold_api_Hold_is l f p hl hf]
  simp only [Option.bind_some]
  cases hi : l.findIdx? p with
  | none =>
    rw [List.findIdx?_eq_none_iff] at hi
    simp only [show ((-1 : Int) == -1) = true from rfl, cond_true]
    rw [List.filter_eq_self.2 fun x hx => by rw [hi x hx]; rfl]
  | some i =>
    obtain ⟨hil, hpi, hpre⟩ := List.findIdx?_eq_some_iff_getElem.1 hi
    have e1 : (((i : Nat) : Int) == -1) = false := by rw [beq_eq_false_iff_ne]; omega
    simp only [e1, cond_false]
    have ht : l.take i = (l.take (i + 1)).filter (fun x => !p x) := by
      rw [take_succ' hil, List.filter_append, List.filter_eq_self.2]
      · simp [hpi]
      · intro x hx
        obtain ⟨j, hj, rfl⟩ := List.getElem_of_mem hx
        simp only [List.length_take] at hj
        rw [List.getElem_take]
        have := hpre j (by omega)
        simpa using this
    obtain ⟨s', h1, h2, h3⟩ := delete_loop l p (fun i j s => slices_DeleteFunc_api_Hold_api_Hold_p16' f i j s) (fun i s => some (i, s)) (fun i j s hj hij hs => by
      try dsimp only
      have hi2 : i < s.length := by omega
      rw [slices_DeleteFunc_api_Hold_api_Hold_p16_eq, decide_eq_true (by omega : (j : Int) < (s.length : Int)), decide_eq_true (by omega : (0 : Int) ≤ (j : Int))]
      simp only [Bool.and_self, cond_true, Int.toNat_natCast, List.getElem?_eq_getElem hj, Option.bind_some, hf]
      rw [wrap_succ (by omega), wrap_succ (by omega), decide_eq_true (by omega : (0 : Int) ≤ (i : Int)), decide_eq_true (by omega : (i : Int) < (s.length : Int)), List.getElem?_eq_getElem hi2]
      simp only [Bool.and_self, cond_true, Option.bind_some]
      cases p s[j] <;> rfl) (fun i s hs => by
      try dsimp only
      rw [slices_DeleteFunc_api_Hold_api_Hold_p16_eq, decide_eq_false (by omega : ¬ ((l.length : Nat) : Int) < (s.length : Int))]; rfl) i (i + 1) l (by omega) (by omega) rfl ht rfl
    try dsimp only at h2
    rw [wrap_succ (by omega), h2]
    have hfl : (l.filter fun x => !p x).length ≤ l.length := List.length_filter_le _ _
    generalize hm : (l.filter fun x => !p x).length = m at *
    simp only [Option.bind_some, ble_iff, Int.toNat_natCast, List.length_replicate, Bool.true_and]
    rw [decide_eq_true (by omega : (0 : Int) ≤ (m : Int)), decide_eq_true (by omega : (m : Int) ≤ (s'.length : Int)), decide_eq_true (Nat.le_refl _), decide_eq_true (by omega : m + (s'.length - m) ≤ s'.length)]
    simp only [Bool.and_self, cond_true]
    have hsp : ∀ ys : List (Hold), ys.length = s'.length - m → (splice s' m ys).take m = s'.take m ∧ (splice s' m ys).length = s'.length := by
      intro ys hy
      constructor
      · unfold splice
        rw [List.append_assoc, List.take_append_of_le_length (by simp; omega), List.take_take, Nat.min_self]
      · simp [splice, hy]; omega
    have q1 : ∀ z : Hold, (splice s' m (List.replicate (s'.length - m) z)).take m = s'.take m := fun z => (hsp _ List.length_replicate).1
    have q2 : ∀ z : Hold, (splice s' m (List.replicate (s'.length - m) z)).length = s'.length := fun z => (hsp _ List.length_replicate).2
    simp only [q2, Bool.true_and]
    rw [decide_eq_true (by omega : (m : Int) ≤ (s'.length : Int))]
    simp only [cond_true]
    have : ∀ ys : List (Hold), cut ys 0 (m : Int) = ys.take m := by intro ys; simp [cut]
    rw [this, q1, h3]
end Go.Proofs.Ytafdbhdeomooaaa.gg
