/- Searching, deleting and putting in lists: what loops over them come to. -/
import Derived.Test.YtlgfmkccnljhoaaL8
set_option linter.unusedVariables false
namespace Go.GG
section
variable {α R : Type}
/-- A loop that looks for the first element of a kind. -/
theorem index_loop (l : List α) (p : α → Bool) (F : Nat → R) {f : Nat → R} {a : R} (h : ∀ i (hi : i < l.length), F i = bif p l[i] then f i else F (i + 1)) (he : F l.length = a) :
    F 0 = match l.findIdx? p with | some i => f i | none => a := by
  have key : ∀ (m : Nat) (k : Nat), k + m = l.length → F k = match (l.drop k).findIdx? p with | some i => f (k + i) | none => a := by
    intro m
    induction m with
    | zero =>
      intro k hk
      have : k = l.length := by omega
      subst this
      rw [he, List.drop_length]; rfl
    | succ m ih =>
      intro k hk
      have hlt : k < l.length := by omega
      rw [h k hlt, List.drop_eq_getElem_cons hlt, List.findIdx?_cons]
      cases hp : p l[k] with
      | true => simp
      | false =>
        rw [ih (k + 1) (by omega)]
        simp only [cond_false, Bool.false_eq_true, if_false]
        cases (l.drop (k + 1)).findIdx? p with
        | none => rfl
        | some i => simp only [Option.map_some]; rw [show k + 1 + i = k + (i + 1) by omega]
  have := key l.length 0 (by omega)
  simpa using this
/-- A loop that takes each element into account. -/
theorem fold_loop {S : Type} (l : List α) (g : S → α → S) (s0 : S) (F : Nat → S → R) {out : S → R}
    (h : ∀ i (hi : i < l.length), F i ((l.take i).foldl g s0) = F (i + 1) (g ((l.take i).foldl g s0) l[i])) (he : F l.length (l.foldl g s0) = out (l.foldl g s0)) : F 0 s0 = out (l.foldl g s0) := by
  have key : ∀ i, i ≤ l.length → F 0 s0 = F i ((l.take i).foldl g s0) := by
    intro i
    induction i with
    | zero => intro _; rfl
    | succ i ih =>
      intro hi
      rw [ih (by omega), h i (by omega), take_succ' (by omega), List.foldl_append]
      rfl
  rw [key l.length (Nat.le_refl _), List.take_length, he]
/-- Halving. -/
theorem bs_mid {i j : Nat} (h : i + j ≤ 1000000000000000000) : IntKind.wrap .i64 (shrv .u64 (IntKind.wrap .u64 (IntKind.wrap .i64 ((i : Int) + (j : Int)))) 1) = (((i + j) / 2 : Nat) : Int) := by
  have e1 : IntKind.wrap .i64 ((i : Int) + (j : Int)) = (i : Int) + (j : Int) := i64_in (by omega) (by omega)
  rw [e1, u64_in (by omega) (by omega)]
  rw [show (1 : Int) = ((1 : Nat) : Int) from rfl, shr_u64 1 (by decide)]
  rw [i64_in (by omega) (by omega)]
  omega
theorem bs_loop {n cut : Nat} (F : Int → Int → Option R) (out : Nat → Option R) (hc : cut ≤ n)
    (hlt : ∀ i j : Nat, i < j → j ≤ n → F i j = bif decide ((i + j) / 2 < cut) then F (((i + j) / 2 + 1 : Nat) : Int) j else F i (((i + j) / 2 : Nat) : Int))
    (heq : ∀ i : Nat, i ≤ n → F i i = out i) : F 0 n = out cut := by
  have key : ∀ (m i j : Nat), j - i ≤ m → i ≤ cut → cut ≤ j → j ≤ n → F i j = out cut := by
    intro m
    induction m with
    | zero =>
      intro i j hm h1 h2 h3
      have e1 : i = cut := by omega
      have e2 : j = cut := by omega
      subst e1; subst e2
      exact heq _ hc
    | succ m ih =>
      intro i j hm h1 h2 h3
      by_cases hij : i < j
      · rw [hlt i j hij h3]
        by_cases hq : (i + j) / 2 < cut
        · rw [decide_eq_true hq]
          exact ih _ _ (by omega) (by omega) h2 h3
        · rw [decide_eq_false hq]
          exact ih _ _ (by omega) h1 (by omega) (by omega)
      · have e1 : i = cut := by omega
        have e2 : j = cut := by omega
        subst e1; subst e2
        exact heq _ hc
  exact key n 0 n (by omega) (by omega) hc (Nat.le_refl _)
/-- Where a search ends. -/
def cutAt (lt : α → Bool) (l : List α) : Nat := (l.takeWhile lt).length
theorem cutAt_le (lt : α → Bool) (l : List α) : cutAt lt l ≤ l.length := by
  unfold cutAt
  have := List.takeWhile_append_dropWhile (p := lt) (l := l)
  have h2 := congrArg List.length this
  rw [List.length_append] at h2
  omega
/-- Those of a kind come first. -/
def Fore (lt : α → Bool) (l : List α) : Prop := ∀ i j (hi : i < l.length) (hj : j < l.length), i < j → lt l[j] = true → lt l[i] = true
theorem cutAt_iff {lt : α → Bool} : ∀ {l : List α}, Fore lt l → ∀ i (hi : i < l.length), (lt l[i] = true ↔ i < cutAt lt l)
  | [], _, i, hi => by simp at hi
  | x :: l, h, i, hi => by
    have hl : Fore lt l := fun a b ha hb hab hlt => h (a + 1) (b + 1) (by simpa using ha) (by simpa using hb) (by omega) (by simpa using hlt)
    unfold cutAt
    rw [List.takeWhile_cons]
    cases hx : lt x with
    | true =>
      cases i with
      | zero => simp [hx]
      | succ i =>
        have := cutAt_iff hl i (by simpa using hi)
        simp only [List.getElem_cons_succ, if_true, List.length_cons]
        rw [this]; unfold cutAt; omega
    | false =>
      simp only [Bool.false_eq_true, if_false, List.length_nil, Nat.not_lt_zero, iff_false]
      intro hh
      cases i with
      | zero => simp [hx] at hh
      | succ i =>
        have := h 0 (i + 1) (by simp) hi (by omega) hh
        simp [hx] at this
theorem cut_split (lt : α → Bool) (l : List α) : l.take (cutAt lt l) = l.takeWhile lt ∧ l.drop (cutAt lt l) = l.dropWhile lt := by
  have h := List.takeWhile_append_dropWhile (p := lt) (l := l)
  unfold cutAt
  constructor
  · have := List.take_left (l₁ := l.takeWhile lt) (l₂ := l.dropWhile lt)
    rw [h] at this; exact this
  · have := List.drop_left (l₁ := l.takeWhile lt) (l₂ := l.dropWhile lt)
    rw [h] at this; exact this
/-- Is there one at the place where a search ends? -/
def thereAt (lt eq : α → Bool) (l : List α) : Bool := match l.dropWhile lt with | [] => false | x :: _ => eq x
theorem there_lt {lt eq : α → Bool} {l : List α} (h : cutAt lt l < l.length) : thereAt lt eq l = eq l[cutAt lt l] := by
  have h1 := (cut_split lt l).2
  unfold thereAt
  rw [← h1, List.drop_eq_getElem_cons h]
theorem there_ge {lt eq : α → Bool} {l : List α} (h : ¬ cutAt lt l < l.length) : thereAt lt eq l = false := by
  have h1 := (cut_split lt l).2
  unfold thereAt
  rw [← h1, List.drop_of_length_le (by omega)]
/-- Put in its place; one of its kind goes. -/
def placeF (lt eq : α → Bool) (l : List α) (h : α) : List α := l.takeWhile lt ++ [h] ++ (l.dropWhile lt).filter fun x => !eq x
/-- Only the first that is not ahead may be of the kind. -/
def Single (lt eq : α → Bool) (l : List α) : Prop := ∀ x ∈ (l.dropWhile lt).tail, eq x = false
theorem place_there {lt eq : α → Bool} {l : List α} {h : α} (hs : Single lt eq l) (ht : thereAt lt eq l = true) : cutAt lt l < l.length ∧ l.set (cutAt lt l) h = placeF lt eq l h := by
  have hsp := cut_split lt l
  have hl := List.takeWhile_append_dropWhile (p := lt) (l := l)
  unfold thereAt at ht
  unfold Single at hs
  unfold placeF cutAt
  cases hd : l.dropWhile lt with
  | nil => rw [hd] at ht; cases ht
  | cons x r =>
    rw [hd] at hs hl ht
    simp only at ht
    have hlen := congrArg List.length hl
    simp only [List.length_append, List.length_cons] at hlen
    refine ⟨by omega, ?_⟩
    have hf : (x :: r).filter (fun x => !eq x) = r := by
      rw [List.filter_cons_of_neg (by simp [ht])]
      exact List.filter_eq_self.2 fun y hy => by rw [hs y hy]; rfl
    rw [hf]
    have hset : (l.takeWhile lt ++ x :: r).set (l.takeWhile lt).length h = l.takeWhile lt ++ h :: r := by
      rw [List.set_append_right _ _ (Nat.le_refl _), Nat.sub_self, List.set_cons_zero]
    rw [hl] at hset
    rw [hset]
    simp
theorem place_new {lt eq : α → Bool} {l : List α} {h : α} (hs : Single lt eq l) (ht : thereAt lt eq l = false) : l.take (cutAt lt l) ++ [h] ++ l.drop (cutAt lt l) = placeF lt eq l h := by
  have hsp := cut_split lt l
  rw [hsp.1, hsp.2]
  unfold placeF
  congr 1
  unfold thereAt at ht
  unfold Single at hs
  cases hd : l.dropWhile lt with
  | nil => rfl
  | cons x r =>
    rw [hd] at hs ht
    simp only at ht
    exact (List.filter_eq_self.2 fun y hy => by
      cases hy with
      | head => rw [ht]; rfl
      | tail _ hy => rw [hs y hy]; rfl).symm
/-- Putting, one after the other. -/
def putStep (lt eq : α → Bool) (h : α) (s : Bool × List α) (x : α) : Bool × List α :=
  ((!s.1 && !lt x) || s.1, s.2 ++ (bif !s.1 && !lt x then [h] else []) ++ (bif eq x then [] else [x]))
theorem put_done {lt eq : α → Bool} {h : α} : ∀ (l : List α) (o : List α), l.foldl (putStep lt eq h) (true, o) = (true, o ++ l.filter fun x => !eq x)
  | [], o => by simp
  | x :: l, o => by
    rw [List.foldl_cons]
    have : putStep lt eq h (true, o) x = (true, o ++ (bif eq x then [] else [x])) := by simp [putStep]
    rw [this, put_done l]
    cases hx : eq x <;> simp [hx]
theorem put_all {lt eq : α → Bool} {h : α} (hne : ∀ x, lt x = true → eq x = false) : ∀ (l : List α) (o : List α),
    (let r := l.foldl (putStep lt eq h) (false, o); bif r.1 then r.2 else r.2 ++ [h]) = o ++ placeF lt eq l h
  | [], o => by simp [placeF]
  | x :: l, o => by
    simp only [List.foldl_cons]
    cases hx : lt x with
    | true =>
      have : putStep lt eq h (false, o) x = (false, o ++ [x]) := by simp [putStep, hx, hne x hx]
      rw [this]
      have := put_all (h := h) hne l (o ++ [x])
      simp only at this
      rw [this]
      simp [placeF, hx]
    | false =>
      have : putStep lt eq h (false, o) x = (true, o ++ [h] ++ (bif eq x then [] else [x])) := by simp [putStep, hx]
      rw [this, put_done]
      simp only [cond_true]
      cases he : eq x <;> simp [placeF, hx, he]
/-- Deleting in place. -/
theorem delete_loop (l : List α) (p : α → Bool) (F : Int → Int → List α → Option R) (out : Int → List α → Option R)
    (hF : ∀ (i j : Nat) (s : List α) (hj : j < s.length), i ≤ j → s.length = l.length → F i j s = bif p s[j] then F i ((j + 1 : Nat) : Int) s else F ((i + 1 : Nat) : Int) ((j + 1 : Nat) : Int) (s.set i s[j]))
    (hE : ∀ (i : Nat) (s : List α), s.length = l.length → F i (l.length : Nat) s = out i s) (i j : Nat) (s : List α) (hij : i ≤ j) (hjl : j ≤ l.length) (hs : s.length = l.length)
    (ht : s.take i = (l.take j).filter fun x => !p x) (hd : s.drop j = l.drop j) :
    ∃ s', s'.length = l.length ∧ F i j s = out (((l.filter fun x => !p x).length : Nat) : Int) s' ∧ s'.take (l.filter fun x => !p x).length = l.filter fun x => !p x := by
  have key : ∀ (m i j : Nat) (s : List α), j + m = l.length → i ≤ j → s.length = l.length → s.take i = ((l.take j).filter fun x => !p x) → s.drop j = l.drop j →
      ∃ s', s'.length = l.length ∧ F i j s = out (((l.filter fun x => !p x).length : Nat) : Int) s' ∧ s'.take (l.filter fun x => !p x).length = l.filter fun x => !p x := by
    intro m
    induction m with
    | zero =>
      intro i j s hj hij hs ht hd
      obtain rfl : j = l.length := by omega
      rw [List.take_length] at ht
      have hi : i = (l.filter fun x => !p x).length := by
        have := congrArg List.length ht
        rw [List.length_take] at this
        omega
      refine ⟨s, hs, ?_, by rw [← hi]; exact ht⟩
      rw [hE i s hs, hi]
    | succ m ih =>
      intro i j s hj hij hs ht hd
      have hjs : j < s.length := by omega
      have hjl : j < l.length := by omega
      have he : s[j] = l[j] := by
        have h1 : (s.drop j)[0]? = (l.drop j)[0]? := by rw [hd]
        simp only [List.getElem?_drop, Nat.add_zero] at h1
        rw [List.getElem?_eq_getElem hjs, List.getElem?_eq_getElem hjl] at h1
        exact Option.some.inj h1
      have hd' : s.drop (j + 1) = l.drop (j + 1) := by
        have := congrArg (List.drop 1) hd
        simpa [List.drop_drop] using this
      rw [hF i j s hjs hij hs]
      have hft : (l.take (j + 1)).filter (fun x => !p x) = (l.take j).filter (fun x => !p x) ++ (bif p l[j] then [] else [l[j]]) := by
        rw [take_succ' hjl, List.filter_append]
        cases hp : p l[j] <;> simp [hp]
      rw [he]
      cases hp : p l[j] with
      | true =>
        simp only [cond_true]
        exact ih i (j + 1) s (by omega) (by omega) hs (by rw [hft, hp]; simpa using ht) hd'
      | false =>
        simp only [cond_false]
        refine ih (i + 1) (j + 1) _ (by omega) (by omega) (by simpa using hs) ?_ ?_
        · rw [hft, hp]
          have hi : i < s.length := by omega
          rw [take_succ' (by simpa using hi), List.take_set_of_le (Nat.le_refl _), ht]
          simp
        · rw [List.drop_set_of_lt (by omega)]; exact hd'
  exact key (l.length - j) i j s (by omega) hij hs ht hd
end
end Go.GG
