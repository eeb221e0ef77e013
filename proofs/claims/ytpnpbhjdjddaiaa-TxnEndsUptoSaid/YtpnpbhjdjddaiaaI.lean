/- Lists of whole numbers: what the functions on them come to. -/
import Derived.Test.YtpnpbhjdjddaiaaK6
import Derived.Test.YtpnpbhjdjddaiaaM
open Go Go.GG
set_option linter.unusedVariables false
namespace Go.Proofs.Ytpnpbhjdjddaiaa.gg
theorem In_eq {l : List Int} (hl : l.length ≤ 1000000000000) (n : Int) : ref12_In' l n = some (l.contains n) := by
  have key := any_loop l (fun x => x == n) (fun i => ref12_In_p6' l n (i : Int)) (b := some (.inr true)) (a := some (.inl ())) (fun i hi => by
    try dsimp only
    rw [ref12_In_p6_eq, decide_eq_true (by omega : (i : Int) < (l.length : Int)), at?_lt hi, wrap_succ (by omega)]
    simp only [cond_true, Option.bind_some]) (by
    try dsimp only
    rw [ref12_In_p6_eq, decide_eq_false (by omega : ¬ (l.length : Int) < (l.length : Int))]; rfl)
  unfold ref12_In'
  simp only [show ((0 : Nat) : Int) = 0 from rfl] at key
  rw [key, any_beq]
  cases l.contains n <;> rfl
theorem Ints_eq {a b : List Int} (hl : a.length ≤ 1000000000000) : ref12_Ints' a b = some (decide (a = b)) := by
  unfold ref12_Ints'
  by_cases hab : a.length = b.length
  · have key := check_loop a.length (fun i => ref12_Ints_p14' a b (i : Int)) (fun i => T.eqb (.int .i64) (nth a i (0 : Int)) (nth b i (0 : Int))) (a := some (.inl ())) (b := some (.inr false)) (fun i hi => by
      try dsimp only
      rw [ref12_Ints_p14_eq, decide_eq_true (by omega : (i : Int) < (a.length : Int)), at?_getD hi (0 : Int), at?_getD (by omega : i < b.length) (0 : Int), wrap_succ (by omega)]
      simp only [cond_true, Option.bind_some, T.eqb, bne]
      cases (nth a i (0 : Int) == nth b i (0 : Int)) <;> rfl) (by
      try dsimp only
      rw [ref12_Ints_p14_eq, decide_eq_false (by omega : ¬ (a.length : Int) < (a.length : Int))]; rfl)
    simp only [show ((0 : Nat) : Int) = 0 from rfl] at key
    have h1 : ((a.length : Int) != (b.length : Int)) = false := by simp [hab]
    rw [h1, key]
    have h2 := same_loop (t := .int .i64) rfl a b hab
    have h3 : allB a.length (fun i => T.eqb (.int .i64) (nth a i (0 : Int)) (nth b i (0 : Int))) = decide (a = b) := by
      rw [Bool.eq_iff_iff, decide_eq_true_eq]; exact h2
    rw [h3]
    cases decide (a = b) <;> rfl
  · have h1 : ((a.length : Int) != (b.length : Int)) = true := by simp; omega
    rw [h1, decide_eq_false fun e => hab (by rw [e])]; rfl
theorem Texts_eq {a b : List (List UInt8)} (hl : a.length ≤ 1000000000000) : ref20_Texts' a b = some (decide (a = b)) := by
  unfold ref20_Texts'
  by_cases hab : a.length = b.length
  · have key := check_loop a.length (fun i => ref20_Texts_p14' a b (i : Int)) (fun i => T.eqb .str (nth a i ([] : List UInt8)) (nth b i ([] : List UInt8))) (a := some (.inl ())) (b := some (.inr false)) (fun i hi => by
      try dsimp only
      rw [ref20_Texts_p14_eq, decide_eq_true (by omega : (i : Int) < (a.length : Int)), at?_getD hi ([] : List UInt8), at?_getD (by omega : i < b.length) ([] : List UInt8), wrap_succ (by omega)]
      simp only [cond_true, Option.bind_some, T.eqb]
      cases (nth a i ([] : List UInt8) == nth b i ([] : List UInt8)) <;> rfl) (by
      try dsimp only
      rw [ref20_Texts_p14_eq, decide_eq_false (by omega : ¬ (a.length : Int) < (a.length : Int))]; rfl)
    simp only [show ((0 : Nat) : Int) = 0 from rfl] at key
    have h1 : ((a.length : Int) != (b.length : Int)) = false := by simp [hab]
    rw [h1, key]
    have h2 := same_loop (t := .str) rfl a b hab
    have h3 : allB a.length (fun i => T.eqb .str (nth a i ([] : List UInt8)) (nth b i ([] : List UInt8))) = decide (a = b) := by
      rw [Bool.eq_iff_iff, decide_eq_true_eq]; exact h2
    rw [h3]
    cases decide (a = b) <;> rfl
  · have h1 : ((a.length : Int) != (b.length : Int)) = true := by simp; omega
    rw [h1, decide_eq_false fun e => hab (by rw [e])]; rfl
theorem Contains_eq {l : List Int} (hl : l.length ≤ 1000000000000) (n : Int) : slices_Contains_int_int' l n = some (l.contains n) := by
  have key := index_loop l (fun x => n == x) (fun i => slices_Index_int_int_p6' l n (l.length : Int) (i : Int)) (f := fun i => some (.inr (i : Int))) (a := some (.inl ())) (fun i hi => by
    try dsimp only
    rw [slices_Index_int_int_p6_eq, decide_eq_true (by omega : (i : Int) < (l.length : Int)), at?_lt hi, wrap_succ (by omega)]
    simp only [cond_true, Option.bind_some]) (by
    try dsimp only
    rw [slices_Index_int_int_p6_eq, decide_eq_false (by omega : ¬ (l.length : Int) < (l.length : Int))]; rfl)
  unfold slices_Contains_int_int' slices_Index_int_int'
  simp only [show ((0 : Nat) : Int) = 0 from rfl] at key
  rw [key]
  cases hi : l.findIdx? (fun x => n == x) with
  | none =>
    rw [List.findIdx?_eq_none_iff] at hi
    have : l.contains n = false := by
      rw [Bool.eq_false_iff]
      intro hc
      rw [List.contains_iff_mem] at hc
      have := hi n hc
      simp at this
    rw [this]; rfl
  | some i =>
    obtain ⟨h1, h2, _⟩ := List.findIdx?_eq_some_iff_getElem.1 hi
    rw [beq_iff_eq] at h2
    have : l.contains n = true := by rw [List.contains_iff_mem, h2]; exact List.getElem_mem h1
    rw [this]
    simp only [Option.bind_some, Sum.elim_inr]
    rw [decide_eq_true (by omega : (i : Int) ≥ 0)]
theorem Less_eq (a b : Int) : cmp_Less_int' a b = some (decide (a < b)) := by
  unfold cmp_Less_int' cmp_isNaN_int'
  simp
theorem bsI_eq {l : List Int} (hl : l.length ≤ 1000000000000) (h : Rise l) (n : Int) : slices_BinarySearch_int_int' l n = some (((cutAt (fun x => decide (x < n)) l : Nat) : Int), l.contains n) := by
  have hfore := rise_fore h n
  have hcl := cutAt_le (fun x => decide (x < n)) l
  have key0 := bs_loop (n := l.length) (cut := cutAt (fun x => decide (x < n)) l) (fun i j => slices_BinarySearch_int_int_p8' l n (l.length : Int) i j) (fun i => some (l, n, (l.length : Int), (i : Int))) hcl (fun i j hij hj => by
    try dsimp only
    rw [slices_BinarySearch_int_int_p8_eq, decide_eq_true (by omega : (i : Int) < (j : Int)), bs_mid (by omega), at?_lt (by omega : (i + j) / 2 < l.length)]
    simp only [cond_true, Option.bind_some, Less_eq]
    rw [wrap_succ (by omega)]
    have := cutAt_iff hfore ((i + j) / 2) (by omega)
    by_cases hh : l[(i + j) / 2] < n
    · rw [decide_eq_true hh, decide_eq_true (this.1 (decide_eq_true hh))]
    · rw [decide_eq_false hh, decide_eq_false (fun h => hh (of_decide_eq_true (this.2 h)))]) (fun i hi => by
    try dsimp only
    rw [slices_BinarySearch_int_int_p8_eq, decide_eq_false (by omega : ¬ (i : Int) < (i : Int))]; rfl)
  unfold slices_BinarySearch_int_int'
  try dsimp only at key0
  rw [key0, ← rise_there h n]
  simp only [Option.bind_some]
  by_cases hc : cutAt (fun x => decide (x < n)) l < l.length
  · rw [decide_eq_true (by omega : ((cutAt (fun x => decide (x < n)) l : Nat) : Int) < (l.length : Int)), at?_lt hc, there_lt hc]
    simp only [cond_true, Option.bind_some, slices_isNaN_int', bne_self_eq_false, cond_false]
    cases (l[cutAt (fun x => decide (x < n)) l] == n) <;> rfl
  · rw [decide_eq_false (by omega : ¬ ((cutAt (fun x => decide (x < n)) l : Nat) : Int) < (l.length : Int)), there_ge hc]
    rfl
theorem slices_Clone_int_int_is (l : List (Int)) (hl : l.length ≤ 4398046511104 / 8) : slices_Clone_int_int' l = some l := by
  unfold slices_Clone_int_int'
  rw [room_of (by simp; omega)]
  rfl
theorem slices_Clone_string_string_is (l : List (List UInt8)) (hl : l.length ≤ 4398046511104 / 16) : slices_Clone_string_string' l = some l := by
  unfold slices_Clone_string_string'
  rw [room_of (by simp; omega)]
  rfl
theorem slices_IndexFunc_int_int_is (l : List (Int)) (f : Int → Option Bool) (p : Int → Bool) (hl : l.length ≤ 1000000000000) (hf : ∀ x, f x = some (p x)) : slices_IndexFunc_int_int' l f = some (match l.findIdx? p with | some i => (i : Int) | none => -1) := by
  have key0 := index_loop l p (fun i => slices_IndexFunc_int_int_p6' l f (l.length : Int) (i : Int)) (f := fun i => some (.inr (i : Int))) (a := some (.inl ())) (fun i hi => by
    try dsimp only
    rw [slices_IndexFunc_int_int_p6_eq, decide_eq_true (by omega : (i : Int) < (l.length : Int)), at?_lt hi]
    simp only [cond_true, Option.bind_some, hf]
    rw [wrap_succ (by omega)]) (by
    try dsimp only
    rw [slices_IndexFunc_int_int_p6_eq, decide_eq_false (by omega : ¬ (l.length : Int) < (l.length : Int))]; rfl)
  unfold slices_IndexFunc_int_int'
  simp only [show ((0 : Nat) : Int) = 0 from rfl] at key0
  rw [key0]
  cases l.findIdx? p <;> rfl
theorem slices_ContainsFunc_int_int_is (l : List (Int)) (f : Int → Option Bool) (p : Int → Bool) (hl : l.length ≤ 1000000000000) (hf : ∀ x, f x = some (p x)) : slices_ContainsFunc_int_int' l f = some (l.any p) := by
  unfold slices_ContainsFunc_int_int'
  rw [slices_IndexFunc_int_int_is l f p hl hf]
  simp only [Option.bind_some]
  cases hi : l.findIdx? p with
  | none =>
    rw [List.findIdx?_eq_none_iff] at hi
    have : l.any p = false := by
      rw [List.any_eq_false]
      intro x hx
      rw [hi x hx]; simp
    rw [this]; rfl
  | some i =>
    obtain ⟨h1, h2, _⟩ := List.findIdx?_eq_some_iff_getElem.1 hi
    have : l.any p = true := List.any_eq_true.2 ⟨_, List.getElem_mem h1, h2⟩
    rw [this]
    simp only
    rw [decide_eq_true (by omega : (i : Int) ≥ 0)]
theorem slices_DeleteFunc_int_int_is (l : List (Int)) (f : Int → Option Bool) (p : Int → Bool) (hl : l.length ≤ 1000000000000) (hf : ∀ x, f x = some (p x)) : slices_DeleteFunc_int_int' l f = some (l.filter fun x => !p x) := by
  unfold slices_DeleteFunc_int_int'
  rw [slices_IndexFunc_int_int_is l f p hl hf]
  simp only [Option.bind_some]
  cases hi : l.findIdx? p with
  | none =>
    rw [List.findIdx?_eq_none_iff] at hi
    simp only [show ((-1 : Int) == -1) = true from rfl, cond_true]
    rw [List.filter_eq_self.2 fun x hx => by rw [hi x hx]; rfl]
  | some i =>
    obtain ⟨hil, hpi, hpre⟩ := List.findIdx?_eq_some_iff_getElem.1 hi
    have e1 : (((i : Nat) : Int) == -1) = false := by rw [beq_eq_false_iff_ne]; omega
    simp only [e1, cond_false]
    have ht : l.take i = (l.take (i + 1)).filter (fun x => !p x) := by
      rw [take_succ' hil, List.filter_append, List.filter_eq_self.2]
      · simp [hpi]
      · intro x hx
        obtain ⟨j, hj, rfl⟩ := List.getElem_of_mem hx
        simp only [List.length_take] at hj
        rw [List.getElem_take]
        have := hpre j (by omega)
        simpa using this
    obtain ⟨s', h1, h2, h3⟩ := delete_loop l p (fun i j s => slices_DeleteFunc_int_int_p16' f i j s) (fun i s => some (i, s)) (fun i j s hj hij hs => by
      try dsimp only
      have hi2 : i < s.length := by omega
      rw [slices_DeleteFunc_int_int_p16_eq, decide_eq_true (by omega : (j : Int) < (s.length : Int)), decide_eq_true (by omega : (0 : Int) ≤ (j : Int))]
      simp only [Bool.and_self, cond_true, Int.toNat_natCast, List.getElem?_eq_getElem hj, Option.bind_some, hf]
      rw [wrap_succ (by omega), wrap_succ (by omega), decide_eq_true (by omega : (0 : Int) ≤ (i : Int)), decide_eq_true (by omega : (i : Int) < (s.length : Int)), List.getElem?_eq_getElem hi2]
      simp only [Bool.and_self, cond_true, Option.bind_some]
      cases p s[j] <;> rfl) (fun i s hs => by
      try dsimp only
      rw [slices_DeleteFunc_int_int_p16_eq, decide_eq_false (by omega : ¬ ((l.length : Nat) : Int) < (s.length : Int))]; rfl) i (i + 1) l (by omega) (by omega) rfl ht rfl
    try dsimp only at h2
    rw [wrap_succ (by omega), h2]
    have hfl : (l.filter fun x => !p x).length ≤ l.length := List.length_filter_le _ _
    generalize hm : (l.filter fun x => !p x).length = m at *
    simp only [Option.bind_some, ble_iff, Int.toNat_natCast, List.length_replicate, Bool.true_and]
    rw [decide_eq_true (by omega : (0 : Int) ≤ (m : Int)), decide_eq_true (by omega : (m : Int) ≤ (s'.length : Int)), decide_eq_true (Nat.le_refl _), decide_eq_true (by omega : m + (s'.length - m) ≤ s'.length)]
    simp only [Bool.and_self, cond_true]
    have hsp : ∀ ys : List (Int), ys.length = s'.length - m → (splice s' m ys).take m = s'.take m ∧ (splice s' m ys).length = s'.length := by
      intro ys hy
      constructor
      · unfold splice
        rw [List.append_assoc, List.take_append_of_le_length (by simp; omega), List.take_take, Nat.min_self]
      · simp [splice, hy]; omega
    have q1 : ∀ z : Int, (splice s' m (List.replicate (s'.length - m) z)).take m = s'.take m := fun z => (hsp _ List.length_replicate).1
    have q2 : ∀ z : Int, (splice s' m (List.replicate (s'.length - m) z)).length = s'.length := fun z => (hsp _ List.length_replicate).2
    simp only [q2, Bool.true_and]
    rw [decide_eq_true (by omega : (m : Int) ≤ (s'.length : Int))]
    simp only [cond_true]
    have : ∀ ys : List (Int), cut ys 0 (m : Int) = ys.take m := by intro ys; simp [cut]
    rw [this, q1, h3]
theorem Insert_eq {l : List Int} (hl : l.length ≤ 1000000000000) (n : Int) : slices_Insert_int_int' l ((cutAt (fun x => decide (x < n)) l : Nat) : Int) [n] = some (addI l n) := by
  have := cutAt_le (fun x => decide (x < n)) l
  unfold slices_Insert_int_int' insertF
  rw [decide_eq_true (by omega), decide_eq_true (by omega), show Nat.beq [n].length 1 = true from rfl, room_of (by simp; omega)]
  simp only [Bool.and_self, cond_true, Int.toNat_natCast, insert_at]
end Go.Proofs.Ytpnpbhjdjddaiaa.gg
