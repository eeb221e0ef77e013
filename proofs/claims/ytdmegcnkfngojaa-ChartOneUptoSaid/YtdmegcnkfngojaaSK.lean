/- The theorem of sets: the plain law. -/
import Derived.Test.YtdmegcnkfngojaaSE
open Go Go.GG
set_option linter.unusedVariables false
namespace Go.Proofs.Ytdmegcnkfngojaa.gg.sp
theorem formB_of {l : List Sp} (hn : l.length ≤ 64) (hm : ∀ s ∈ l, mayS s = true) (hg : l.Pairwise Ah) : formB l = true := by
  simp only [formB, Bool.and_eq_true, decide_eq_true_eq]
  refine ⟨by omega, allB_iff.2 fun i hi => ?_⟩
  simp only [okF, Bool.and_eq_true, Bool.or_eq_true, decide_eq_true_eq]
  rw [getD_lt hi]
  refine ⟨hm _ (List.getElem_mem hi), ?_⟩
  by_cases h0 : i = 0
  · exact .inl h0
  · rw [getD_lt (by omega : i - 1 < l.length)]
    exact .inr (ahB_iff.2 (List.pairwise_iff_getElem.1 hg (i - 1) i (by omega) hi (by omega)))
theorem formB_may {l : List Sp} (h : formB l = true) : ∀ s ∈ l, mayS s = true := by
  intro s hs
  obtain ⟨i, hi, rfl⟩ := List.getElem_of_mem hs
  simp only [formB, Bool.and_eq_true] at h
  have := allB_iff.1 h.2 i hi
  simp only [okF, Bool.and_eq_true] at this
  rw [getD_lt hi] at this
  exact this.1
/-- Ends that are not too long. -/
def Short (s : Sp) : Prop := s.1.length ≤ 64 ∧ s.2.length ≤ 64
theorem mayS_iff {s : Sp} : mayS s = true ↔ Short s ∧ ne s := by
  simp only [mayS, Bool.and_eq_true, Bool.or_eq_true, beq_iff_eq, decide_eq_true_eq, Short, ne]
  constructor
  · rintro ⟨a, b, c⟩; exact ⟨⟨by omega, by omega⟩, c⟩
  · rintro ⟨⟨a, b⟩, c⟩; exact ⟨by omega, by omega, c⟩
theorem add_short : ∀ (r : List Sp) (t : AS), Short t.1 → (∀ x ∈ t.2.1 ++ t.2.2, Short x) → (∀ x ∈ r, Short x) → Short (r.foldl addStep t).1 ∧ ∀ x ∈ (r.foldl addStep t).2.1 ++ (r.foldl addStep t).2.2, Short x
  | [], t, h1, h2, _ => ⟨h1, h2⟩
  | x :: r, ⟨s, lo, hi⟩, h1, h2, h3 => by
    rw [List.foldl_cons]
    have hx := h3 x (by simp)
    refine add_short r _ ?_ ?_ (fun y hy => h3 y (by simp [hy]))
    · unfold addStep join
      simp only
      cases ahB x.2 s.1 with
      | true => exact h1
      | false =>
        cases ahB s.2 x.1 with
        | true => exact h1
        | false =>
          refine ⟨?_, ?_⟩
          · show (strMin s.1 x.1).length ≤ 64
            unfold strMin
            cases (strLess s.1 x.1 || s.1 == x.1)
            · exact hx.1
            · exact h1.1
          · show (maxE s.2 x.2).length ≤ 64
            unfold maxE
            cases beB s.2 x.2
            · exact h1.2
            · exact hx.2
    · intro y hy
      unfold addStep at hy
      simp only at hy h2
      cases h4 : ahB x.2 s.1 with
      | true =>
        rw [h4] at hy
        simp only [cond_true, List.mem_append, List.mem_singleton] at hy
        rcases hy with (hy | rfl) | hy
        · exact h2 y (by simp [hy])
        · exact hx
        · exact h2 y (by simp [hy])
      | false =>
        rw [h4] at hy
        cases h5 : ahB s.2 x.1 with
        | true =>
          rw [h5] at hy
          simp only [cond_true, cond_false, List.mem_append, List.mem_singleton] at hy
          rcases hy with hy | hy | rfl
          · exact h2 y (by simp [hy])
          · exact h2 y (by simp [hy])
          · exact hx
        | false =>
          rw [h5] at hy
          simp only [cond_false] at hy
          exact h2 y hy
theorem addF_form {l : List Sp} {s : Sp} (hl : formB l = true) (hs : mayS s = true) (hn : (addF l s).length ≤ 64) : formB (addF l s) = true := by
  obtain ⟨c, _⟩ := addF_ok hl hs
  refine formB_of hn (fun x hx => mayS_iff.2 ⟨?_, c.ne x hx⟩) c.gap
  obtain ⟨h1, h2⟩ := add_short l (s, [], []) (mayS_iff.1 hs).1 (by simp) (fun x hx => (mayS_iff.1 (formB_may hl x hx)).1)
  unfold addF at hx
  simp only [List.mem_append, List.mem_cons] at hx
  rcases hx with hx | rfl | hx
  · exact h2 x (by simp [hx])
  · exact h1
  · exact h2 x (by simp [hx])
theorem parts_short {s x : Sp} (hs : Short s) (hx : Short x) : ∀ w ∈ partsOf s x, Short w := by
  intro w hw
  unfold partsOf at hw
  rcases List.mem_append.1 hw with hw | hw
  · cases h1 : strLess x.1 s.1 with
    | false => rw [h1] at hw; simp at hw
    | true =>
      rw [h1] at hw
      simp only [cond_true, List.mem_singleton] at hw
      subst hw
      refine ⟨hx.1, ?_⟩
      show (leastB x.2 s.1).length ≤ 64
      unfold leastB
      cases beB x.2 s.1
      · exact hs.1
      · exact hx.2
  · cases h1 : beB s.2 x.2 with
    | false => rw [h1] at hw; simp at hw
    | true =>
      rw [h1] at hw
      simp only [cond_true, List.mem_singleton] at hw
      subst hw
      refine ⟨?_, hx.2⟩
      show (strMax s.2 x.1).length ≤ 64
      unfold strMax
      cases strLess s.2 x.1
      · exact hs.2
      · exact hx.1
theorem lessF_form {l : List Sp} {s : Sp} (hl : formB l = true) (hs : mayS s = true) (hn : (lessF l s).length ≤ 64) : formB (lessF l s) = true := by
  obtain ⟨c, _, _⟩ := lessF_ok (mayS_ne hs) (formB_canon hl)
  refine formB_of hn (fun x hx => mayS_iff.2 ⟨?_, c.ne x hx⟩) c.gap
  obtain ⟨y, hy, hxy⟩ := List.mem_flatMap.1 hx
  exact parts_short (mayS_iff.1 hs).1 (mayS_iff.1 (formB_may hl y hy)).1 x hxy
/-! Covers. -/
def coverB (l : List Sp) (s : Sp) : Bool := l.any fun x => leS x.1 s.1 && !beB x.2 s.2
theorem end_mem {l : List Sp} (h : Canon l) {x : Sp} (hx : x ∈ l) (h2 : x.2 ≠ []) : inL l x.2 = false := by
  cases hc : inL l x.2 with
  | false => rfl
  | true =>
    obtain ⟨y, hy, hh⟩ := inL_iff.1 hc
    obtain ⟨h3, h4⟩ := has_E.1 hh
    obtain ⟨i, hi, rfl⟩ := List.getElem_of_mem hx
    obtain ⟨j, hj, rfl⟩ := List.getElem_of_mem hy
    have hg := List.pairwise_iff_getElem.1 h.gap
    rcases Nat.lt_trichotomy i j with hij | hij | hij
    · have := (hg i j hi hj hij).2
      rw [leS_iff'] at h3
      rw [h3] at this; cases this
    · subst hij
      have := h4.resolve_left h2
      rw [strLess_irrefl] at this; cases this
    · have h5 := hg j i hj hi hij
      have h6 := h4.resolve_left h5.1
      have h7 := (h.ne _ (List.getElem_mem hi)).resolve_left h2
      have h8 := strLess_trans h5.2 (strLess_trans h7 h6)
      rw [strLess_irrefl] at h8; cases h8
theorem cover_iff {l : List Sp} {s : Sp} (hl : Canon l) (hs : ne s) : coverB l s = true ↔ ∀ k, has s k = true → inL l k = true := by
  unfold coverB
  rw [List.any_eq_true]
  constructor
  · rintro ⟨x, hx, h⟩ k hk
    simp only [Bool.and_eq_true, Bool.not_eq_true'] at h
    obtain ⟨h1, h2⟩ := has_E.1 hk
    refine inL_iff.2 ⟨x, hx, has_E.2 ⟨leS_trans h.1 h1, ?_⟩⟩
    by_cases hx2 : x.2 = []
    · exact .inl hx2
    · right
      have h3 := h.2
      unfold beB at h3
      rw [show (x.2 == ([] : Str)) = false from by rw [beq_eq_false_iff_ne]; exact hx2, Bool.not_false, Bool.true_and, Bool.or_eq_false_iff] at h3
      have hs2 : s.2 ≠ [] := by intro e; rw [e] at h3; simp at h3
      exact less_of_less_le (h2.resolve_left hs2) (leS_iff'.2 h3.2)
  · intro h
    obtain ⟨x, hx, hh⟩ := inL_iff.1 (h s.1 (has_from hs))
    obtain ⟨h1, h2⟩ := has_E.1 hh
    refine ⟨x, hx, ?_⟩
    rw [h1, Bool.true_and]
    cases hb : beB x.2 s.2 with
    | false => rfl
    | true =>
      obtain ⟨h3, h4⟩ := beB_iff.1 hb
      have h5 := h x.2 (has_E.2 ⟨leS_of_less (h2.resolve_left h3), h4⟩)
      rw [end_mem hl hx h3] at h5; cases h5
def leftStep (left : List Sp) (x : Sp) : List Sp := left.flatMap fun y => pieceOf [y] x 1
theorem left_ok : ∀ (l left : List Sp), (∀ y ∈ left, ne y) → (∀ y ∈ l.foldl leftStep left, ne y) ∧ ∀ k, inL (l.foldl leftStep left) k = (inL left k && !inL l k)
  | [], left, h => ⟨h, fun k => by simp [inL]⟩
  | x :: l, left, h => by
    have h1 : ∀ y ∈ leftStep left x, ne y := by
      intro y hy
      obtain ⟨z, hz, hyz⟩ := List.mem_flatMap.1 hy
      exact (pieceOf_ok [z] x 1).1.ne y hyz
    have h2 : ∀ k, inL (leftStep left x) k = (inL left k && !has x k) := by
      intro k
      have : ∀ (a : List Sp), inL (a.flatMap fun y => pieceOf [y] x 1) k = (inL a k && !has x k) := by
        intro a
        induction a with
        | nil => rfl
        | cons z a ih =>
          have : inL [z] k = has z k := by simp [inL]
          rw [List.flatMap_cons, inL_append, ih, (pieceOf_ok [z] x 1).2, this, inL_cons z a]
          show ((has z k && !has x k) || (inL a k && !has x k)) = _
          cases has z k <;> cases inL a k <;> cases has x k <;> rfl
      exact this left
    obtain ⟨a, b⟩ := left_ok l (leftStep left x) h1
    rw [List.foldl_cons]
    refine ⟨a, fun k => ?_⟩
    rw [b, h2, inL_cons]
    cases inL left k <;> cases has x k <;> cases inL l k <;> rfl
theorem left_empty {l : List Sp} {s : Sp} (hs : ne s) : (l.foldl leftStep [s] = []) ↔ ∀ k, has s k = true → inL l k = true := by
  obtain ⟨a, b⟩ := left_ok l [s] (by simpa using hs)
  constructor
  · intro h k hk
    have := b k
    rw [h] at this
    have e : inL [s] k = has s k := by simp [inL]
    rw [e, hk] at this
    cases hc : inL l k with
    | true => rfl
    | false => rw [hc] at this; cases this
  · intro h
    cases hc : l.foldl leftStep [s] with
    | nil => rfl
    | cons y r =>
      exfalso
      have h1 := a y (by rw [hc]; simp)
      have h2 := b y.1
      rw [hc, inL_cons, has_from h1, Bool.true_or] at h2
      have e : inL [s] y.1 = has s y.1 := by simp [inL]
      rw [e] at h2
      cases h3 : has s y.1 with
      | false => rw [h3] at h2; cases h2
      | true => rw [h3, h y.1 h3] at h2; cases h2
theorem piece_parts {x y : Sp} (hx : ne x) (hy : ne y) : pieceOf [y] x 1 = partsOf x y := by
  obtain ⟨a, b⟩ := pieceOf_ok [y] x 1
  obtain ⟨c, d, _⟩ := parts_ok hx hy
  refine canon_ext a c fun k => ?_
  have : inL [y] k = has y k := by simp [inL]
  rw [b, d, this]; rfl
theorem leftStep_less {x : Sp} (hx : ne x) : ∀ {left : List Sp}, (∀ y ∈ left, ne y) → leftStep left x = lessF left x
  | [], _ => rfl
  | y :: r, h => by
    have ih := leftStep_less hx (left := r) (fun z hz => h z (by simp [hz]))
    unfold leftStep lessF at ih ⊢
    rw [List.flatMap_cons, List.flatMap_cons, ih, piece_parts hx (h y (by simp))]
theorem less_one {s : Sp} : ∀ (l : List Sp), (∀ y ∈ l, strLess y.1 s.1 = false) → (lessF l s).length ≤ l.length
  | [], _ => by simp [lessF]
  | y :: l, h => by
    have ih := less_one l (fun z hz => h z (by simp [hz]))
    unfold lessF at ih ⊢
    have hp : (partsOf s y).length ≤ 1 := by
      unfold partsOf
      rw [h y (by simp)]
      cases beB s.2 y.2 <;> simp
    rw [List.flatMap_cons, List.length_append, List.length_cons]
    omega
theorem less_len1 {s : Sp} (hs : ne s) : ∀ {l : List Sp}, Canon l → (lessF l s).length ≤ l.length + 1
  | [], _ => by simp [lessF]
  | x :: l, h => by
    have ih := less_len1 hs h.tail
    have e : lessF (x :: l) s = partsOf s x ++ lessF l s := by simp [lessF]
    rw [e, List.length_append, List.length_cons]
    cases h1 : strLess x.1 s.1 with
    | false =>
      have hp : (partsOf s x).length ≤ 1 := by
        unfold partsOf
        rw [h1]
        cases beB s.2 x.2 <;> simp
      omega
    | true =>
      cases h2 : beB s.2 x.2 with
      | false =>
        have hp : (partsOf s x).length ≤ 1 := by
          unfold partsOf
          rw [h1, h2]; simp
        omega
      | true =>
        have hp := parts_len s x
        obtain ⟨h3, h4⟩ := beB_iff.1 h2
        have h5 := less_one (s := s) l (fun y hy => by
          have hA := h.head y hy
          have h6 := h4.resolve_left hA.1
          have h7 := strLess_trans (hs.resolve_left h3) (strLess_trans h6 hA.2)
          exact strLess_asymm h7)
        omega
theorem lefts {l : List Sp} (hl : ∀ x ∈ l, ne x) : ∀ (left : List Sp), Canon left → Canon (l.foldl leftStep left) ∧ (l.foldl leftStep left).length ≤ left.length + l.length := by
  induction l with
  | nil => intro left h; exact ⟨h, by simp⟩
  | cons x l ih =>
    intro left h
    have hx := hl x (by simp)
    rw [List.foldl_cons, leftStep_less hx h.ne]
    obtain ⟨c, _, _⟩ := lessF_ok hx h
    have h1 := less_len1 hx h
    obtain ⟨a, b⟩ := ih (fun y hy => hl y (by simp [hy])) _ c
    refine ⟨a, ?_⟩
    simp only [List.length_cons]; omega
end Go.Proofs.Ytdmegcnkfngojaa.gg.sp
