/- Lists of spans in form: what they have tells which they are; runs between places. -/
import Derived.Test.YtdmegcnkfngojaaSA
open Go Go.GG
set_option linter.unusedVariables false
namespace Go.Proofs.Ytdmegcnkfngojaa.gg.sp
def ne (s : Sp) : Prop := s.2 = [] ∨ strLess s.1 s.2 = true
def Ah (s x : Sp) : Prop := s.2 ≠ [] ∧ strLess s.2 x.1 = true
structure Canon (l : List Sp) : Prop where
  ne : ∀ s ∈ l, ne s
  gap : l.Pairwise Ah
def inL (l : List Sp) (k : Str) : Bool := l.any fun s => has s k
theorem inL_cons (s : Sp) (l : List Sp) (k : Str) : inL (s :: l) k = (has s k || inL l k) := rfl
theorem inL_append (a b : List Sp) (k : Str) : inL (a ++ b) k = (inL a k || inL b k) := by simp [inL, List.any_append]
theorem inL_iff {l : List Sp} {k : Str} : inL l k = true ↔ ∃ s ∈ l, has s k = true := by simp [inL]
theorem has_iff {s : Sp} {k : Str} : has s k = true ↔ leS s.1 k = true ∧ (s.2 = [] ∨ strLess k s.2 = true) := by
  simp [has]
theorem Canon.tail {s : Sp} {l : List Sp} (h : Canon (s :: l)) : Canon l := ⟨fun x hx => h.ne x (by simp [hx]), (List.pairwise_cons.1 h.gap).2⟩
theorem Canon.head {s : Sp} {l : List Sp} (h : Canon (s :: l)) : ∀ x ∈ l, Ah s x := (List.pairwise_cons.1 h.gap).1
theorem has_from {s : Sp} (h : ne s) : has s s.1 = true := has_iff.2 ⟨leS_refl _, h⟩
theorem first_least {s : Sp} {l : List Sp} (h : Canon (s :: l)) {k : Str} (hk : inL (s :: l) k = true) : leS s.1 k = true := by
  obtain ⟨x, hx, hh⟩ := inL_iff.1 hk
  have h1 := (has_iff.1 hh).1
  rcases List.mem_cons.1 hx with rfl | hx
  · exact h1
  · obtain ⟨h2, h3⟩ := h.head x hx
    have h4 := (h.ne s (by simp)).resolve_left h2
    exact leS_trans (leS_of_less h4) (leS_trans (leS_of_less h3) h1)
theorem end_out {s : Sp} {l : List Sp} (h : Canon (s :: l)) (h2 : s.2 ≠ []) : inL (s :: l) s.2 = false := by
  cases hc : inL (s :: l) s.2 with
  | false => rfl
  | true =>
    obtain ⟨x, hx, hh⟩ := inL_iff.1 hc
    obtain ⟨h3, h4⟩ := has_iff.1 hh
    rcases List.mem_cons.1 hx with rfl | hx
    · have := h4.resolve_left h2
      rw [strLess_irrefl] at this; cases this
    · have := (h.head x hx).2
      rw [leS_iff'] at h3
      rw [h3] at this; cases this
theorem rest_out {s : Sp} {l : List Sp} (h : Canon (s :: l)) {k : Str} (hk : inL l k = true) : has s k = false := by
  obtain ⟨x, hx, hh⟩ := inL_iff.1 hk
  obtain ⟨h3, _⟩ := has_iff.1 hh
  obtain ⟨h1, h2⟩ := h.head x hx
  cases hc : has s k with
  | false => rfl
  | true =>
    have h4 := (has_iff.1 hc).2.resolve_left h1
    have := less_of_less_le h2 h3
    rw [strLess_asymm this] at h4; cases h4
theorem canon_ext : ∀ {a b : List Sp}, Canon a → Canon b → (∀ k, inL a k = inL b k) → a = b
  | [], [], _, _, _ => rfl
  | [], t :: q, _, hb, h => by
    have := h t.1
    rw [inL_cons, has_from (hb.ne t (by simp))] at this
    cases this
  | s :: r, [], ha, _, h => by
    have := h s.1
    rw [inL_cons, has_from (ha.ne s (by simp))] at this
    cases this
  | s :: r, t :: q, ha, hb, h => by
    have e1 : s.1 = t.1 := by
      refine leS_antisymm ?_ ?_
      · exact first_least ha (by rw [h]; rw [inL_cons, has_from (hb.ne t (by simp))]; rfl)
      · exact first_least hb (by rw [← h]; rw [inL_cons, has_from (ha.ne s (by simp))]; rfl)
    have half : ∀ {s t : Sp} {r q : List Sp}, Canon (s :: r) → Canon (t :: q) → s.1 = t.1 → (∀ k, inL (s :: r) k = inL (t :: q) k) → t.2 ≠ [] → s.2 ≠ [] ∧ leS s.2 t.2 = true := by
      intro s t r q ha hb e1 h ht
      have ho := end_out hb ht
      rw [← h, inL_cons, Bool.or_eq_false_iff] at ho
      have h1 := ho.1
      have h2 : leS s.1 t.2 = true := by rw [e1]; exact leS_of_less ((hb.ne t (by simp)).resolve_left ht)
      unfold has at h1
      rw [h2, Bool.true_and, Bool.or_eq_false_iff] at h1
      refine ⟨by intro e; rw [e] at h1; simp at h1, ?_⟩
      rw [leS_iff']; exact h1.2
    have e2 : s.2 = t.2 := by
      by_cases ht : t.2 = []
      · by_cases hs : s.2 = []
        · rw [hs, ht]
        · exact absurd ht (half hb ha e1.symm (fun k => (h k).symm) hs).1
      · obtain ⟨hs, h1⟩ := half ha hb e1 h ht
        exact leS_antisymm h1 (half hb ha e1.symm (fun k => (h k).symm) hs).2
    have est : s = t := by
      obtain ⟨s1, s2⟩ := s
      obtain ⟨t1, t2⟩ := t
      simp only at e1 e2
      rw [e1, e2]
    subst est
    rw [canon_ext ha.tail hb.tail (fun k => by
      have hk := h k
      rw [inL_cons, inL_cons] at hk
      cases h1 : inL r k with
      | true => rw [rest_out ha h1, h1, Bool.false_or, Bool.false_or] at hk; exact hk
      | false =>
        cases h2 : inL q k with
        | false => rfl
        | true => rw [rest_out hb h2, h1, h2] at hk; cases hk)]
/-- Runs of places. -/
def runs (is : Str → Bool) : List Str → Option Str → List Sp
  | [], none => []
  | [], some f => [(f, [])]
  | e :: p, none => bif is e then runs is p (some e) else runs is p none
  | e :: p, some f => bif is e then runs is p (some f) else (f, e) :: runs is p none
/-- What is at the last place that is not behind a key. -/
def lastAt (is : Str → Bool) : List Str → Bool → Str → Bool
  | [], d, _ => d
  | e :: p, d, k => bif leS e k then lastAt is p (is e) k else d
theorem runs_from (is : Str → Bool) : ∀ (p : List Str), (∀ s ∈ runs is p none, s.1 ∈ p) ∧ ∀ f, ∀ s ∈ runs is p (some f), s.1 = f ∨ s.1 ∈ p
  | [] => ⟨by simp [runs], by simp [runs]⟩
  | e :: p => by
    obtain ⟨h1, h2⟩ := runs_from is p
    constructor
    · intro s hs
      simp only [runs] at hs
      cases hi : is e with
      | true =>
        rw [hi] at hs
        rcases h2 e s hs with h | h
        · simp [h]
        · simp [h]
      | false => rw [hi] at hs; simp [h1 s hs]
    · intro f s hs
      simp only [runs] at hs
      cases hi : is e with
      | true =>
        rw [hi] at hs
        rcases h2 f s hs with h | h
        · exact .inl h
        · simp [h]
      | false =>
        rw [hi] at hs
        simp only [cond_false, List.mem_cons] at hs
        rcases hs with rfl | hs
        · exact .inl rfl
        · simp [h1 s hs]
def Rises (p : List Str) : Prop := p.Pairwise fun a b => strLess a b = true
theorem lastAt_high {is : Str → Bool} {p : List Str} {d : Bool} {k : Str} (h : ∀ e ∈ p, strLess k e = true) : lastAt is p d k = d := by
  cases p with
  | nil => rfl
  | cons e p =>
    have : leS e k = false := by rw [← not_less, h e (by simp)]; rfl
    simp [lastAt, this]
theorem runs_ok (is : Str → Bool) : ∀ (p : List Str), Rises p →
    (Canon (runs is p none) ∧ ∀ k, inL (runs is p none) k = lastAt is p false k) ∧
    ∀ f, (∀ e ∈ p, strLess f e = true) → Canon (runs is p (some f)) ∧ ∀ k, inL (runs is p (some f)) k = (leS f k && lastAt is p true k)
  | [], _ => ⟨⟨⟨by simp [runs], by simp [runs]⟩, fun k => rfl⟩, fun f _ => ⟨⟨by simp [runs, ne], by simp [runs]⟩, fun k => by simp [runs, inL, has, lastAt]⟩⟩
  | e :: p, hp => by
    have hp' := List.pairwise_cons.1 hp
    obtain ⟨⟨c1, m1⟩, h2⟩ := runs_ok is p hp'.2
    obtain ⟨c2, m2⟩ := h2 e hp'.1
    have low : ∀ (k : Str), leS e k = false → ∀ x ∈ p, strLess k x = true := fun k hk x hx => by
      have : strLess k e = true := by rw [less_iff']; exact hk
      exact strLess_trans this (hp'.1 x hx)
    constructor
    · simp only [runs, lastAt]
      cases hi : is e with
      | true =>
        simp only [cond_true]
        refine ⟨c2, fun k => ?_⟩
        rw [m2 k]
        cases leS e k <;> rfl
      | false =>
        simp only [cond_false]
        refine ⟨c1, fun k => ?_⟩
        rw [m1 k]
        cases hk : leS e k with
        | true => rfl
        | false => exact lastAt_high (low k hk)
    · intro f hf
      have hfe := hf e (by simp)
      simp only [runs, lastAt]
      cases hi : is e with
      | true =>
        obtain ⟨c3, m3⟩ := h2 f (fun x hx => hf x (by simp [hx]))
        simp only [cond_true]
        refine ⟨c3, fun k => ?_⟩
        rw [m3 k]
        cases hk : leS e k with
        | true => rfl
        | false => rw [lastAt_high (low k hk)]; rfl
      | false =>
        simp only [cond_false]
        have hne : e ≠ [] := fun h => by rw [h, strLess_nil] at hfe; cases hfe
        refine ⟨⟨fun s hs => ?_, List.pairwise_cons.2 ⟨fun x hx => ⟨hne, hp'.1 x.1 ((runs_from is p).1 x hx)⟩, c1.gap⟩⟩, fun k => ?_⟩
        · rcases List.mem_cons.1 hs with rfl | hs
          · exact .inr hfe
          · exact c1.ne s hs
        · rw [inL_cons, m1 k]
          unfold has
          simp only
          have hb : (e == ([] : Str)) = false := by rw [beq_eq_false_iff_ne]; exact hne
          rw [hb, Bool.false_or]
          cases hk : leS e k with
          | true =>
            have h3 : strLess k e = false := leS_iff'.1 hk
            have h4 : leS f k = true := leS_trans (leS_of_less hfe) hk
            rw [h3, h4]; simp
          | false =>
            have h3 : strLess k e = true := by rw [less_iff']; exact hk
            rw [h3, lastAt_high (low k hk)]; simp
/-- What does not change between places is at the last one as it is at the key. -/
theorem lastAt_is {is : Str → Bool} {k : Str} : ∀ {p : List Str} {d : Bool}, Rises p → (∀ b ∈ p, leS b k = true → (∀ e ∈ p, leS e k = true → leS e b = true) → is b = is k) → (∃ e ∈ p, leS e k = true) → lastAt is p d k = is k
  | [], _, _, _, h => by obtain ⟨e, he, _⟩ := h; simp at he
  | e :: p, d, hp, h, hex => by
    have hp' := List.pairwise_cons.1 hp
    have hek : leS e k = true := by
      obtain ⟨x, hx, hk⟩ := hex
      rcases List.mem_cons.1 hx with rfl | hx
      · exact hk
      · exact leS_trans (leS_of_less (hp'.1 x hx)) hk
    simp only [lastAt, hek, cond_true]
    by_cases hq : ∃ x ∈ p, leS x k = true
    · refine lastAt_is hp'.2 (fun b hb hbk hmax => h b (by simp [hb]) hbk (fun x hx hxk => ?_)) hq
      rcases List.mem_cons.1 hx with rfl | hx
      · exact leS_of_less (hp'.1 b hb)
      · exact hmax x hx hxk
    · rw [lastAt_high (fun x hx => ?_)]
      · refine h e (by simp) hek (fun x hx hxk => ?_)
        rcases List.mem_cons.1 hx with rfl | hx
        · exact leS_refl _
        · exact absurd ⟨x, hx, hxk⟩ hq
      · rw [less_iff']
        cases hc : leS x k with
        | false => rfl
        | true => exact absurd ⟨x, hx, hc⟩ hq
/-- Between places that hold all ends a span has a key just if it has the last place. -/
theorem has_last {s : Sp} {p : List Str} {b k : Str} (h1 : s.1 ∈ p) (h2 : s.2 ∈ p ∨ s.2 = []) (hbk : leS b k = true) (hmax : ∀ e ∈ p, leS e k = true → leS e b = true) : has s b = has s k := by
  have e1 : leS s.1 b = leS s.1 k := by
    cases hk : leS s.1 k with
    | true => exact hmax _ h1 hk
    | false =>
      cases hb : leS s.1 b with
      | false => rfl
      | true => rw [leS_trans hb hbk] at hk; cases hk
  unfold has
  rw [e1]
  congr 1
  by_cases he : s.2 = []
  · rw [he]; rfl
  · have h2 := h2.resolve_right he
    congr 1
    cases hk : strLess k s.2 with
    | true => exact less_of_le_less hbk hk
    | false =>
      have := hmax _ h2 (leS_iff'.2 hk)
      exact leS_iff'.1 this
/-- Places: those of a rising list, and one more. -/
def ltT (t : Str) (x : Str) : Bool := strLess x t
def eqT (t : Str) (x : Str) : Bool := x == t
theorem rises_sorted {p : List Str} : Rises p ↔ Sorted strOrd (fun x : Str => x) p := Iff.rfl
theorem put_rises {p : List Str} (h : Rises p) (t : Str) : Rises (placeF (ltT t) (eqT t) p t) ∧ ∀ x, x ∈ placeF (ltT t) (eqT t) p t ↔ x = t ∨ x ∈ p := by
  have hl := List.takeWhile_append_dropWhile (p := ltT t) (l := p)
  constructor
  · refine sorted_put _ h (fun x _ hx => hx) (fun x hx he => ?_)
    cases hd : p.dropWhile (ltT t) with
    | nil => rw [hd] at hx; simp at hx
    | cons y r =>
      have hy := dropWhile_head hd
      rw [hd] at hx
      unfold Rises at h
      rw [← hl, hd] at h
      have h2 := List.pairwise_cons.1 (List.pairwise_append.1 h).2.1
      simp only [eqT, beq_eq_false_iff_ne, ltT] at he hy
      have ht : ∀ z, strLess z t = false → z ≠ t → strLess t z = true := fun z h1 h2 => by
        rcases strLess_total z t with h3 | h3 | h3
        · rw [h1] at h3; cases h3
        · exact absurd h3 h2
        · exact h3
      rcases List.mem_cons.1 hx with h3 | h3
      · subst h3; exact ht _ hy he
      · have h4 := h2.1 x h3
        by_cases hyt : y = t
        · subst hyt; exact h4
        · exact strLess_trans (ht y hy hyt) h4
  · intro x
    unfold placeF
    simp only [List.mem_append, List.mem_singleton, List.mem_filter, eqT, Bool.not_eq_true', beq_eq_false_iff_ne]
    constructor
    · rintro ((h1 | h1) | h1)
      · exact .inr (by rw [← hl]; exact List.mem_append_left _ h1)
      · exact .inl h1
      · exact .inr (by rw [← hl]; exact List.mem_append_right _ h1.1)
    · rintro (h1 | h1)
      · exact .inl (.inr h1)
      · by_cases hxt : x = t
        · exact .inl (.inr hxt)
        · rw [← hl, List.mem_append] at h1
          rcases h1 with h1 | h1
          · exact .inl (.inl h1)
          · exact .inr ⟨h1, hxt⟩
def placesOf (l : List Sp) : List Str := l.foldl (fun p s => placeF (ltT s.2) (eqT s.2) (placeF (ltT s.1) (eqT s.1) p s.1) s.2) [[]]
theorem places_ok (l : List Sp) : Rises (placesOf l) ∧ [] ∈ placesOf l ∧ (∀ s ∈ l, s.1 ∈ placesOf l ∧ s.2 ∈ placesOf l) ∧ (placesOf l).length ≤ 2 * l.length + 1 := by
  have key : ∀ (l : List Sp) (p : List Str), Rises p → Rises (l.foldl (fun p s => placeF (ltT s.2) (eqT s.2) (placeF (ltT s.1) (eqT s.1) p s.1) s.2) p) ∧
      (∀ x ∈ p, x ∈ l.foldl (fun p s => placeF (ltT s.2) (eqT s.2) (placeF (ltT s.1) (eqT s.1) p s.1) s.2) p) ∧
      (∀ s ∈ l, s.1 ∈ l.foldl (fun p s => placeF (ltT s.2) (eqT s.2) (placeF (ltT s.1) (eqT s.1) p s.1) s.2) p ∧ s.2 ∈ l.foldl (fun p s => placeF (ltT s.2) (eqT s.2) (placeF (ltT s.1) (eqT s.1) p s.1) s.2) p) ∧
      (l.foldl (fun p s => placeF (ltT s.2) (eqT s.2) (placeF (ltT s.1) (eqT s.1) p s.1) s.2) p).length ≤ p.length + 2 * l.length := by
    intro l
    induction l with
    | nil => intro p hp; exact ⟨hp, fun x hx => hx, by simp, by simp⟩
    | cons s l ih =>
      intro p hp
      simp only [List.foldl_cons]
      have h1 := put_rises hp s.1
      have h2 := put_rises h1.1 s.2
      obtain ⟨a, b, c, d⟩ := ih _ h2.1
      have l1 := placeF_len (ltT s.1) (eqT s.1) p s.1
      have l2 := placeF_len (ltT s.2) (eqT s.2) (placeF (ltT s.1) (eqT s.1) p s.1) s.2
      refine ⟨a, fun x hx => b x ((h2.2 x).2 (.inr ((h1.2 x).2 (.inr hx)))), fun x hx => ?_, by simp only [List.length_cons]; omega⟩
      rcases List.mem_cons.1 hx with rfl | hx
      · exact ⟨b _ ((h2.2 _).2 (.inr ((h1.2 _).2 (.inl rfl)))), b _ ((h2.2 _).2 (.inl rfl))⟩
      · exact c x hx
  obtain ⟨a, b, c, d⟩ := key l [[]] (List.pairwise_singleton _ _)
  exact ⟨a, b [] (by simp), c, by
    have d2 : (placesOf l).length ≤ 1 + 2 * l.length := d
    omega⟩
/-- Runs of places that hold all ends have what they are asked. -/
theorem runs_has {l : List Sp} {op : (Sp → Bool) → Bool} (hop : ∀ f g : Sp → Bool, (∀ s ∈ l, f s = g s) → op f = op g) :
    Canon (runs (fun k => op fun s => has s k) (placesOf l) none) ∧ ∀ k, inL (runs (fun k => op fun s => has s k) (placesOf l) none) k = op fun s => has s k := by
  obtain ⟨h1, h2, h3, _⟩ := places_ok l
  obtain ⟨c, m⟩ := (runs_ok (fun k => op fun s => has s k) _ h1).1
  refine ⟨c, fun k => ?_⟩
  rw [m k]
  exact lastAt_is h1 (fun b hb hbk hmax => hop _ _ (fun s hs => has_last (h3 s hs).1 (.inl (h3 s hs).2) hbk hmax)) ⟨[], h2, leS_nil k⟩
end Go.Proofs.Ytdmegcnkfngojaa.gg.sp
