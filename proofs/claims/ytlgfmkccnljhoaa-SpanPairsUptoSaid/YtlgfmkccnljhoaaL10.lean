/- Lists that are ordered by a key. -/
import Derived.Test.YtlgfmkccnljhoaaL9
set_option linter.unusedVariables false
namespace Go.GG
section
variable {α : Type}
theorem strCmp_neg (a b : Str) : decide (strCmp a b < 0) = strLess a b := by
  unfold strCmp
  cases h : strLess a b with
  | true => rfl
  | false => cases strLess b a <;> rfl
theorem strCmp_zero (a b : Str) : (strCmp a b == 0) = (a == b) := by
  unfold strCmp
  cases h : strLess a b with
  | true => have := strLess_ne h; simp [this]
  | false =>
    cases h2 : strLess b a with
    | true => have := strLess_ne h2; simp only [cond_false, cond_true]; rw [show ((1 : Int) == 0) = false from rfl]; symm; rw [beq_eq_false_iff_ne]; exact fun e => this e.symm
    | false =>
      rcases strLess_total a b with h3 | h3 | h3
      · rw [h] at h3; cases h3
      · subst h3; simp
      · rw [h2] at h3; cases h3
/-- An order on keys. -/
structure Ord (α : Type) where
  lt : α → α → Bool
  irr : ∀ a, lt a a = false
  trans : ∀ a b c, lt a b = true → lt b c = true → lt a c = true
  tot : ∀ a b, lt a b = false → lt b a = false → a = b
def strOrd : Ord Str := ⟨strLess, strLess_irrefl, fun _ _ _ h1 h2 => strLess_trans h1 h2, fun a b h1 h2 => by
  rcases strLess_total a b with h3 | h3 | h3
  · rw [h1] at h3; cases h3
  · exact h3
  · rw [h2] at h3; cases h3⟩
def intOrd : Ord Int := ⟨fun a b => decide (a < b), fun a => by simp, fun a b c h1 h2 => by simp at *; omega, fun a b h1 h2 => by simp at *; omega⟩
variable {K : Type} (O : Ord K) (key : α → K)
def Sorted (l : List α) : Prop := l.Pairwise fun a b => O.lt (key a) (key b) = true
variable {O key}
theorem sorted_of_steps {l : List α} {d : α} (h : ∀ i, i < l.length → i = 0 ∨ O.lt (key (nth l (i - 1) d)) (key (nth l i d)) = true) : Sorted O key l := by
  unfold Sorted
  rw [List.pairwise_iff_getElem]
  have key0 : ∀ (m i : Nat), i + m + 1 < l.length → O.lt (key (nth l i d)) (key (nth l (i + m + 1) d)) = true := by
    intro m
    induction m with
    | zero =>
      intro i hi
      rcases h (i + 1) (by omega) with h1 | h1
      · omega
      · simpa using h1
    | succ m ih =>
      intro i hi
      have h1 := ih i (by omega)
      rcases h (i + (m + 1) + 1) (by omega) with h2 | h2
      · omega
      · exact O.trans _ _ _ h1 (by simpa [Nat.add_assoc] using h2)
  intro i j hi hj hij
  have := key0 (j - i - 1) i (by omega)
  rw [show i + (j - i - 1) + 1 = j by omega, getD_lt hi, getD_lt hj] at this
  exact this
theorem Sorted.fore {l : List α} (h : Sorted O key l) (k : K) : Fore (fun x => O.lt (key x) k) l := by
  intro i j hi hj hij hlt
  have := List.pairwise_iff_getElem.1 h i j hi hj hij
  exact O.trans _ _ _ this hlt
theorem dropWhile_head {p : α → Bool} {l : List α} {x : α} {r : List α} (h : l.dropWhile p = x :: r) : p x = false := by
  induction l with
  | nil => cases h
  | cons y l ih =>
    rw [List.dropWhile_cons] at h
    cases hp : p y with
    | true => rw [hp] at h; exact ih h
    | false => rw [hp] at h; simp at h; rw [← h.1]; exact hp
theorem Sorted.single [BEq K] [LawfulBEq K] {l : List α} (h : Sorted O key l) (k : K) : Single (fun x => O.lt (key x) k) (fun x => key x == k) l := by
  intro y hy
  cases hd : l.dropWhile (fun x => O.lt (key x) k) with
  | nil => rw [hd] at hy; simp at hy
  | cons x r =>
    rw [hd] at hy
    simp only [List.tail_cons] at hy
    have hx := dropWhile_head hd
    have hl := List.takeWhile_append_dropWhile (p := fun x => O.lt (key x) k) (l := l)
    rw [hd] at hl
    unfold Sorted at h
    rw [← hl] at h
    have h2 := (List.pairwise_append.1 h).2.1
    have h3 := (List.pairwise_cons.1 h2).1 y hy
    rw [beq_eq_false_iff_ne]
    intro e
    rw [e] at h3
    rw [hx] at h3; cases h3
theorem mem_takeWhile {p : α → Bool} : ∀ {l : List α} {x : α}, x ∈ l.takeWhile p → p x = true
  | [], _, h => by simp at h
  | y :: l, x, h => by
    rw [List.takeWhile_cons] at h
    cases hp : p y with
    | true =>
      rw [hp] at h
      simp only [if_true, List.mem_cons] at h
      rcases h with rfl | h
      · exact hp
      · exact mem_takeWhile h
    | false => rw [hp] at h; simp at h
theorem lt_ne [BEq K] [LawfulBEq K] (k : K) (x : α) (h : O.lt (key x) k = true) : (key x == k) = false := by
  rw [beq_eq_false_iff_ne]
  intro e
  rw [e, O.irr] at h; cases h
theorem sorted_put {lt eq : α → Bool} {l : List α} {h : α} (P : α → α → Prop) (hs : l.Pairwise P) (h1 : ∀ x ∈ l, lt x = true → P x h) (h2 : ∀ x ∈ l.dropWhile lt, eq x = false → P h x) : (placeF lt eq l h).Pairwise P := by
  have hl := List.takeWhile_append_dropWhile (p := lt) (l := l)
  rw [← hl] at hs
  have hp := List.pairwise_append.1 hs
  unfold placeF
  rw [List.append_assoc, List.pairwise_append]
  refine ⟨hp.1, ?_, ?_⟩
  · rw [List.singleton_append, List.pairwise_cons]
    refine ⟨fun x hx => ?_, hp.2.1.sublist List.filter_sublist⟩
    have := List.mem_filter.1 hx
    exact h2 x this.1 (by simpa using this.2)
  · intro x hx y hy
    simp only [List.mem_append, List.mem_singleton] at hy
    rcases hy with rfl | hy
    · have hm := mem_takeWhile hx
      exact h1 x (by rw [← hl]; exact List.mem_append_left _ hx) hm
    · exact hp.2.2 x hx y (List.mem_filter.1 hy).1
/-- Found where a search ends. -/
theorem find_there {lt eq : α → Bool} {l : List α} (hne : ∀ x, lt x = true → eq x = false) (hs : Single lt eq l) : l.find? eq = if thereAt lt eq l then l[cutAt lt l]? else none := by
  have hl := List.takeWhile_append_dropWhile (p := lt) (l := l)
  have h1 : l.find? eq = (l.dropWhile lt).find? eq := by
    conv => lhs; rw [← hl]
    rw [List.find?_append]
    have : (l.takeWhile lt).find? eq = none := by
      rw [List.find?_eq_none]
      intro x hx
      rw [hne x (mem_takeWhile hx)]; simp
    rw [this]; rfl
  rw [h1]
  unfold thereAt
  unfold Single at hs
  have h2 := (cut_split lt l).2
  cases hd : l.dropWhile lt with
  | nil => rfl
  | cons x r =>
    rw [hd] at hs h2
    simp only [List.tail_cons] at hs
    have h3 : l[cutAt lt l]? = some x := by
      have := congrArg (fun z => z[0]?) h2
      simpa using this
    rw [h3]
    simp only
    by_cases hx : eq x = true
    · rw [if_pos hx, List.find?_cons_of_pos hx]
    · rw [if_neg hx, List.find?_cons_of_neg hx]
      rw [List.find?_eq_none]
      intro y hy
      rw [hs y hy]; simp
theorem find_place {lt eq : α → Bool} {l : List α} {h : α} (hne : ∀ x, lt x = true → eq x = false) (he : eq h = true) : (placeF lt eq l h).find? eq = some h := by
  unfold placeF
  rw [List.append_assoc, List.find?_append]
  have : (l.takeWhile lt).find? eq = none := by
    rw [List.find?_eq_none]
    intro x hx
    rw [hne x (mem_takeWhile hx)]; simp
  rw [this]
  simp [he]
theorem put_len {lt eq : α → Bool} {h : α} : ∀ (l : List α) (s : Bool × List α), (l.foldl (putStep lt eq h) s).2.length ≤ s.2.length + 2 * l.length
  | [], s => by simp
  | x :: l, s => by
    rw [List.foldl_cons]
    have := put_len (lt := lt) (eq := eq) (h := h) l (putStep lt eq h s x)
    have h2 : (putStep lt eq h s x).2.length ≤ s.2.length + 2 := by
      unfold putStep
      cases (!s.1 && !lt x) <;> cases eq x <;> simp <;> omega
    simp only [List.length_cons]; omega
theorem placeF_len (lt eq : α → Bool) (l : List α) (h : α) : (placeF lt eq l h).length ≤ l.length + 1 := by
  have hl := congrArg List.length (List.takeWhile_append_dropWhile (p := lt) (l := l))
  rw [List.length_append] at hl
  have := List.length_filter_le (fun x => !eq x) (l.dropWhile lt)
  simp only [placeF, List.length_append, List.length_singleton]; omega
/-- Where it is found, and what is there. -/
theorem findIdx_find (p : α → Bool) (l : List α) : (match l.findIdx? p with | some i => l[i]? | none => none) = l.find? p := by
  cases h : l.findIdx? p with
  | none =>
    rw [List.findIdx?_eq_none_iff] at h
    symm
    simp only
    rw [List.find?_eq_none]
    intro x hx
    rw [h x hx]; simp
  | some i =>
    obtain ⟨hi, hp, hpre⟩ := List.findIdx?_eq_some_iff_getElem.1 h
    simp only
    rw [List.getElem?_eq_getElem hi]
    symm
    rw [List.find?_eq_some_iff_getElem]
    exact ⟨hp, i, hi, rfl, fun j hj => by simpa using hpre j hj⟩
end
end Go.GG
