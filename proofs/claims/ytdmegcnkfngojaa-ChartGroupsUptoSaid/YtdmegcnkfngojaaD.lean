/- Charts as segments: a turned chart is a chart, and whose its keys are: plain facts. -/
import Derived.Test.YtdmegcnkfngojaaB
open Go Go.GG
set_option linter.unusedVariables false
namespace Go.Proofs.Ytdmegcnkfngojaa.gg
structure GoodR (r : Rg) : Prop where
  may : spMay r.1 = true
  g1 : 1 ≤ r.2.1
  g2 : r.2.1 ≤ 16
  e1 : 1 ≤ r.2.2
  e2 : r.2.2 ≤ 4611686018427387904
/-- Ranges from a beginning to an end. -/
def Seg : Str → List Rg → Str → Prop
  | a, [], z => a = z
  | a, r :: l, z => r.1.1 = a ∧ GoodR r ∧ (l = [] ∨ r.1.2 ≠ []) ∧ Seg r.1.2 l z
theorem seg_append {m : List Rg} {z : Str} : ∀ {l : List Rg} {a : Str}, Seg a (l ++ m) z ↔ ∃ b, Seg a l b ∧ Seg b m z ∧ (l = [] ∨ m = [] ∨ b ≠ [])
  | [], a => by
    simp only [List.nil_append, Seg]
    exact ⟨fun h => ⟨a, rfl, h, .inl trivial⟩, fun ⟨b, h1, h2, _⟩ => h1 ▸ h2⟩
  | r :: l, a => by
    rw [List.cons_append]
    simp only [Seg]
    constructor
    · rintro ⟨h1, h2, h3, h4⟩
      obtain ⟨b, h5, h6, h7⟩ := seg_append.1 h4
      refine ⟨b, ⟨h1, h2, ?_, h5⟩, h6, .inr ?_⟩
      · rcases h3 with h3 | h3
        · exact .inl (List.append_eq_nil_iff.1 h3).1
        · exact .inr h3
      · rcases h7 with rfl | h7 | h7
        · simp only [Seg] at h5
          rcases h3 with h3 | h3
          · exact .inl (by simpa using h3)
          · exact .inr (h5 ▸ h3)
        · exact .inl h7
        · exact .inr h7
    · rintro ⟨b, ⟨h1, h2, h3, h5⟩, h6, h7⟩
      have h8 : m = [] ∨ b ≠ [] := h7.resolve_left (by simp)
      refine ⟨h1, h2, ?_, seg_append.2 ⟨b, h5, h6, .inr h8⟩⟩
      rcases h3 with h3 | h3
      · subst h3
        simp only [Seg] at h5
        rcases h8 with h8 | h8
        · left; rw [h8]; rfl
        · exact .inr (h5.symm ▸ h8)
      · exact .inr h3
theorem nth_cons {r : Rg} {l : List Rg} {i : Nat} : nth (r :: l) (i + 1) rg0 = nth l i rg0 := rfl
theorem seg_iff : ∀ {l : List Rg} {a z : Str}, 1 ≤ l.length → (Seg a l z ↔ (nth l 0 rg0).1.1 = a ∧ (nth l (l.length - 1) rg0).1.2 = z ∧ (∀ i, i < l.length → GoodR (nth l i rg0)) ∧
    ∀ i, i < l.length → 0 < i → (nth l (i - 1) rg0).1.2 = (nth l i rg0).1.1 ∧ (nth l i rg0).1.1 ≠ [])
  | [], a, z, h => by simp at h
  | [r], a, z, _ => by
    simp only [Seg]
    constructor
    · rintro ⟨h1, h2, _, h4⟩
      refine ⟨h1, h4, fun i hi => ?_, fun i hi h0 => ?_⟩
      · obtain rfl : i = 0 := by simp at hi; exact hi
        exact h2
      · simp at hi; omega
    · rintro ⟨h1, h2, h3, _⟩
      exact ⟨h1, h3 0 (by simp), .inl trivial, h2⟩
  | r :: s :: l, a, z, _ => by
    have ih := seg_iff (l := s :: l) (a := r.1.2) (z := z) (by simp)
    have hl : (r :: s :: l : List Rg).length - 1 = ((s :: l : List Rg).length - 1) + 1 := by simp
    rw [hl, nth_cons]
    show (r.1.1 = a ∧ GoodR r ∧ ((s :: l) = [] ∨ r.1.2 ≠ []) ∧ Seg r.1.2 (s :: l) z) ↔ _
    rw [ih]
    constructor
    · rintro ⟨h1, h2, h3, h4, h5, h6, h7⟩
      have h3 := h3.resolve_left (by simp)
      refine ⟨h1, h5, fun i hi => ?_, fun i hi h0 => ?_⟩
      · cases i with
        | zero => exact h2
        | succ i => rw [nth_cons]; exact h6 i (by simpa using hi)
      · obtain ⟨j, rfl⟩ : ∃ j, i = j + 1 := ⟨i - 1, by omega⟩
        rw [nth_cons, Nat.add_sub_cancel]
        cases j with
        | zero =>
          refine ⟨h4.symm, ?_⟩
          rw [h4]; exact h3
        | succ j => rw [nth_cons]; exact h7 (j + 1) (by simpa using hi) (by omega)
    · rintro ⟨h1, h2, h3, h4⟩
      have h5 := h4 1 (by simp) (by omega)
      refine ⟨h1, h3 0 (by simp), .inr ?_, h5.1.symm, h2, fun i hi => ?_, fun i hi h0 => ?_⟩
      · rw [show r.1.2 = (nth (s :: l) 0 rg0).1.1 from h5.1]; exact h5.2
      · have := h3 (i + 1) (by simpa using hi); rwa [nth_cons] at this
      · have := h4 (i + 1) (by simpa using hi) (by omega)
        rw [nth_cons, Nat.add_sub_cancel] at this
        obtain ⟨j, rfl⟩ : ∃ j, i = j + 1 := ⟨i - 1, by omega⟩
        rw [nth_cons] at this
        exact this
theorem chOk_seg {l : List Rg} : ChOk l ↔ 1 ≤ l.length ∧ l.length ≤ 64 ∧ Seg [] l [] := by
  constructor
  · intro h
    refine ⟨h.len1, h.len2, (seg_iff h.len1).2 ⟨h.first, h.last, fun i hi => ?_, h.join⟩⟩
    obtain ⟨a, b, c, d, e⟩ := h.each i hi
    exact ⟨a, b, c, d, e⟩
  · rintro ⟨h1, h2, h3⟩
    obtain ⟨a, b, c, d⟩ := (seg_iff h1).1 h3
    exact ⟨h1, h2, a, b, fun i hi => ⟨(c i hi).may, (c i hi).g1, (c i hi).g2, (c i hi).e1, (c i hi).e2⟩, d⟩
theorem seg_swap {A W W' B : List Rg} {a z : Str} (h : Seg a (A ++ W ++ B) z) (hw : W ≠ []) (hw' : W' ≠ []) (hs : ∀ p q, Seg p W q → Seg p W' q) : Seg a (A ++ W' ++ B) z := by
  obtain ⟨b, h1, h2, h3⟩ := seg_append.1 h
  obtain ⟨c, h4, h5, h6⟩ := seg_append.1 h1
  refine seg_append.2 ⟨b, seg_append.2 ⟨c, h4, hs _ _ h5, ?_⟩, h2, ?_⟩
  · rcases h6 with h6 | h6 | h6
    · exact .inl h6
    · exact absurd h6 hw
    · exact .inr (.inr h6)
  · rcases h3 with h3 | h3 | h3
    · exact absurd (List.append_eq_nil_iff.1 h3).2 hw
    · exact .inr (.inl h3)
    · exact .inr (.inr h3)
/-! ### Whose a key is -/
def owner (l : List Rg) (k : Str) : Rg := nth l (findIx l k) rg0
theorem owner_spec {l : List Rg} (h : ChOk l) (k : Str) : owner l k ∈ l ∧ spHas (owner l k).1 k = true := by
  obtain ⟨_, h2, h3, _⟩ := findIx_spec h k
  exact ⟨by unfold owner; rw [getD_lt h2]; exact List.getElem_mem h2, h3⟩
theorem from_le {l : List Rg} (h : ChOk l) : ∀ (m i : Nat), i + m < l.length → leS (nth l i rg0).1.1 (nth l (i + m) rg0).1.1 = true := by
  intro m
  induction m with
  | zero => intro i _; exact leS_refl _
  | succ m ih =>
    intro i hi
    have h1 := ih i (by omega)
    obtain ⟨h2, h3⟩ := h.join (i + (m + 1)) hi (by omega)
    have h4 := (h.each (i + m) (by omega)).1
    rw [show i + (m + 1) - 1 = i + m by omega] at h2
    simp only [spMay, Bool.and_eq_true, Bool.or_eq_true, beq_iff_eq] at h4
    rw [h2] at h4
    have h5 := h4.2.2.resolve_left h3
    exact leS_trans h1 (leS_of_less h5)
theorem own_uniq {l : List Rg} (h : ChOk l) {r s : Rg} {k : Str} (hr : r ∈ l) (hs : s ∈ l) (h1 : spHas r.1 k = true) (h2 : spHas s.1 k = true) : r = s := by
  obtain ⟨i, hi, rfl⟩ := List.getElem_of_mem hr
  obtain ⟨j, hj, rfl⟩ := List.getElem_of_mem hs
  have key : ∀ (i j : Nat) (hi : i < l.length) (hj : j < l.length), i < j → spHas l[i].1 k = true → spHas l[j].1 k = true → False := by
    intro i j hi hj hij h1 h2
    simp only [spHas, Bool.and_eq_true, Bool.or_eq_true, beq_iff_eq] at h1 h2
    have e1 : nth l i rg0 = l[i] := getD_lt hi rg0
    have e2 : nth l j rg0 = l[j] := getD_lt hj rg0
    obtain ⟨h3, h4⟩ := h.join (i + 1) (by omega) (by omega)
    rw [Nat.add_sub_cancel, e1] at h3
    have h5 := from_le h (j - (i + 1)) (i + 1) (by omega)
    rw [show i + 1 + (j - (i + 1)) = j by omega, e2] at h5
    have h6 : l[i].1.2 ≠ [] := by rw [h3]; exact h4
    have h7 := h1.2.resolve_left h6
    have h8 := leS_trans h5 h2.1
    rw [← h3] at h8
    have := less_of_less_le h7 h8
    rw [strLess_irrefl] at this; cases this
  rcases Nat.lt_trichotomy i j with hij | hij | hij
  · exact (key i j hi hj hij h1 h2).elim
  · subst hij; rfl
  · exact (key j i hj hi hij h2 h1).elim
theorem owner_eq {l : List Rg} (h : ChOk l) {r : Rg} {k : Str} (hr : r ∈ l) (h1 : spHas r.1 k = true) : owner l k = r :=
  own_uniq h (owner_spec h k).1 hr (owner_spec h k).2 h1
/-- The parts of a list around a place. -/
theorem parts {l : List Rg} {a b : Nat} (ha : a ≤ b) (hb : b ≤ l.length) : l = l.take a ++ (l.take b).drop a ++ l.drop b := by
  have h1 : l.take a ++ (l.take b).drop a = l.take b := by
    have := List.take_append_drop a (l.take b)
    rwa [List.take_take, Nat.min_eq_left ha] at this
  rw [h1, List.take_append_drop]
def aged (n : Int) (w : List Rg) : List Rg := w.map fun r => ((r.1, r.2.1, n) : Rg)
theorem turn_def (l : List Rg) (a b : Nat) (w : List Rg) : turn l a b w = l.take a ++ aged (ver l + 1) w ++ l.drop b := rfl
theorem mem_epoch {l : List Rg} (h : ChOk l) {r : Rg} (hr : r ∈ l) : GoodR r := by
  obtain ⟨i, hi, rfl⟩ := List.getElem_of_mem hr
  obtain ⟨a, b, c, d, e⟩ := h.each i hi
  rw [getD_lt hi] at a b c d e
  exact ⟨a, b, c, d, e⟩
/-- A turned chart. -/
structure Turned (l l' : List Rg) (W W' : List Rg) : Prop where
  ok : ChOk l'
  out : ∀ r ∈ l, r ∉ W → r ∈ l'
  into : ∀ r ∈ W', r ∈ l'
  back : ∀ r ∈ l', r ∈ W' ∨ (r ∈ l)
theorem turned_of {l : List Rg} (h : ChOk l) {a b : Nat} (hab : a < b) (hb : b ≤ l.length) {w : List Rg} (hw : w ≠ []) (hlen : ¬ (turn l a b w).length > 64)
    (hs : ∀ p q, Seg p ((l.take b).drop a) q → Seg p (aged (ver l + 1) w) q) : Turned l (turn l a b w) ((l.take b).drop a) (aged (ver l + 1) w) := by
  have hp := parts (l := l) (a := a) (b := b) (by omega) hb
  obtain ⟨h1, h2, h3⟩ := chOk_seg.1 h
  have hW : (l.take b).drop a ≠ [] := by
    intro e
    have := congrArg List.length e
    simp at this; omega
  have hw' : aged (ver l + 1) w ≠ [] := by
    intro e
    exact hw (List.map_eq_nil_iff.1 e)
  rw [hp] at h3
  have h4 := seg_swap h3 hW hw' hs
  rw [← turn_def] at h4
  refine ⟨chOk_seg.2 ⟨?_, by omega, h4⟩, fun r hr hn => ?_, fun r hr => ?_, fun r hr => ?_⟩
  · rw [turn_def]
    have := List.length_pos_iff.2 hw'
    simp only [List.length_append]; omega
  · rw [hp] at hr
    rw [turn_def]
    simp only [List.mem_append] at hr ⊢
    rcases hr with (hr | hr) | hr
    · exact .inl (.inl hr)
    · exact absurd hr hn
    · exact .inr hr
  · rw [turn_def]; simp [hr]
  · rw [turn_def] at hr
    simp only [List.mem_append] at hr
    rcases hr with (hr | hr) | hr
    · exact .inr (List.mem_of_mem_take hr)
    · exact .inl hr
    · exact .inr (List.mem_of_mem_drop hr)
theorem one_part {l : List Rg} {i : Nat} (hi : i < l.length) : (l.take (i + 1)).drop i = [nth l i rg0] := by
  rw [take_succ' hi, List.drop_append_of_le_length (by simp; omega), List.drop_eq_nil_of_le (by simp; omega), getD_lt hi]; rfl
theorem two_part {l : List Rg} {i : Nat} (h0 : 0 < i) (hi : i < l.length) : (l.take (i + 1)).drop (i - 1) = [nth l (i - 1) rg0, nth l i rg0] := by
  obtain ⟨j, rfl⟩ : ∃ j, i = j + 1 := ⟨i - 1, by omega⟩
  rw [take_succ' hi, take_succ' (by omega : j < l.length), Nat.add_sub_cancel, List.append_assoc, List.drop_append_of_le_length (by simp; omega), List.drop_eq_nil_of_le (by simp; omega), getD_lt hi, getD_lt (by omega : j < l.length)]; rfl
theorem spMay_iff {s : Sp} : spMay s = true ↔ (s.1.length : Int) ≤ 64 ∧ (s.2.length : Int) ≤ 64 ∧ (s.2 = [] ∨ strLess s.1 s.2 = true) := by
  simp [spMay]
theorem spHas_iff {s : Sp} {k : Str} : spHas s k = true ↔ leS s.1 k = true ∧ (s.2 = [] ∨ strLess k s.2 = true) := by
  simp [spHas]
/-! ### Versions -/
theorem ver_fold : ∀ (l : List Rg) (n : Int), n ≤ l.foldl (fun n r => intMax n r.2.2) n ∧ (∀ r ∈ l, r.2.2 ≤ l.foldl (fun n r => intMax n r.2.2) n) ∧ (l.foldl (fun n r => intMax n r.2.2) n = n ∨ ∃ r ∈ l, r.2.2 = l.foldl (fun n r => intMax n r.2.2) n)
  | [], n => ⟨Int.le_refl _, by simp, .inl rfl⟩
  | r :: l, n => by
    rw [List.foldl_cons]
    obtain ⟨h1, h2, h3⟩ := ver_fold l (intMax n r.2.2)
    have hm : n ≤ intMax n r.2.2 ∧ r.2.2 ≤ intMax n r.2.2 ∧ (intMax n r.2.2 = n ∨ intMax n r.2.2 = r.2.2) := by
      unfold intMax
      by_cases hh : r.2.2 > n
      · rw [if_pos hh]; exact ⟨by omega, by omega, .inr rfl⟩
      · rw [if_neg hh]; exact ⟨by omega, by omega, .inl rfl⟩
    refine ⟨by omega, fun s hs => ?_, ?_⟩
    · rcases List.mem_cons.1 hs with rfl | hs
      · omega
      · exact h2 s hs
    · rcases h3 with h3 | ⟨s, hs, h3⟩
      · rcases hm.2.2 with h4 | h4
        · exact .inl (by rw [h3, h4])
        · exact .inr ⟨r, by simp, by rw [h3, h4]⟩
      · exact .inr ⟨s, by simp [hs], h3⟩
theorem ver_ge {l : List Rg} {r : Rg} (h : r ∈ l) : r.2.2 ≤ ver l := (ver_fold l 0).2.1 r h
theorem ver_eq {l : List Rg} {n : Int} (h1 : ∀ r ∈ l, r.2.2 ≤ n) (h2 : ∃ r ∈ l, r.2.2 = n) (h0 : 0 ≤ n) : ver l = n := by
  obtain ⟨r, hr, he⟩ := h2
  have h3 := ver_ge hr
  have h4 : ver l = 0 ∨ ∃ r ∈ l, r.2.2 = ver l := (ver_fold l 0).2.2
  rcases h4 with h4 | ⟨s, hs, h4⟩
  · omega
  · have := h1 s hs; omega
theorem turned_ver {l l' W : List Rg} {w : List Rg} (hw : w ≠ []) (h0 : 0 ≤ ver l) (T : Turned l l' W (aged (ver l + 1) w)) : ver l' = ver l + 1 := by
  refine ver_eq (fun r hr => ?_) ?_ (by omega)
  · rcases T.back r hr with h | h
    · unfold aged at h
      rw [List.mem_map] at h
      obtain ⟨s, _, rfl⟩ := h
      exact Int.le_refl _
    · have := ver_ge h; omega
  · cases w with
    | nil => exact absurd rfl hw
    | cons s w => exact ⟨(s.1, s.2.1, ver l + 1), T.into _ (by simp [aged]), rfl⟩
/-! ### The three turns -/
theorem told_zero {l : List Rg} {a b : Nat} {w : List Rg} (h : (told l a b w).2 = 0) : ¬ (turn l a b w).length > 64 ∧ ver l + 1 ≤ 4611686018427387904 ∧ (told l a b w).1 = turn l a b w := by
  unfold told at h ⊢
  split at h
  · cases h
  · rename_i hh
    rw [if_neg hh]
    exact ⟨fun h => hh (.inl h), by omega, rfl⟩
theorem split_one {l : List Rg} (hc : ChOk l) {k : Str} (h : (splitOf l k).2 = 0) : (k.length : Int) ≤ 64 ∧
    Turned l (splitOf l k).1 [owner l k] (aged (ver l + 1) [(((owner l k).1.1, k), (owner l k).2.1, 0), ((k, (owner l k).1.2), (owner l k).2.1, 0)]) := by
  have hv := ver_le hc
  unfold splitOf at h ⊢
  by_cases hk : chMay l = true ∧ (k.length : Int) ≤ 64
  · rw [if_pos hk] at h ⊢
    simp only at h ⊢
    by_cases he : (nth l (findIx l k) rg0).1.1 = k
    · rw [if_pos he] at h; cases h
    · rw [if_neg he] at h ⊢
      obtain ⟨_, hi, hh, _⟩ := findIx_spec hc k
      obtain ⟨h1, h2, h3⟩ := told_zero h
      refine ⟨hk.2, ?_⟩
      rw [h3]
      have hg := mem_epoch hc (owner_spec hc k).1
      have hm := spMay_iff.1 hg.may
      rw [spHas_iff] at hh
      have hlt : strLess (owner l k).1.1 k = true := by
        rcases leS_iff.1 hh.1 with h4 | h4
        · exact h4
        · exact absurd h4 he
      have hk0 : k ≠ [] := by intro e; rw [e, strLess_nil] at hlt; cases hlt
      have := turned_of hc (a := findIx l k) (b := findIx l k + 1) (by omega) (by omega) (w := [(((nth l (findIx l k) rg0).1.1, k), (nth l (findIx l k) rg0).2.1, 0), ((k, (nth l (findIx l k) rg0).1.2), (nth l (findIx l k) rg0).2.1, 0)]) (by simp) h1 (by
        rw [one_part hi]
        intro p q hs
        simp only [Seg] at hs
        obtain ⟨s1, s2, _, s4⟩ := hs
        simp only [aged, List.map_cons, List.map_nil, Seg]
        refine ⟨s1, ⟨spMay_iff.2 ⟨hm.1, hk.2, .inr hlt⟩, hg.g1, hg.g2, by show 1 ≤ ver l + 1; omega, h2⟩, .inr hk0, trivial, ⟨spMay_iff.2 ⟨hk.2, hm.2.1, hh.2⟩, hg.g1, hg.g2, by show 1 ≤ ver l + 1; omega, h2⟩, .inl trivial, s4⟩)
      rw [one_part hi] at this
      exact this
  · rw [if_neg hk] at h; cases h
theorem split_owner {l : List Rg} (hc : ChOk l) {k : Str} (h : (splitOf l k).2 = 0) (x : Str) : (owner (splitOf l k).1 x).2.1 = (owner l x).2.1 ∧ (owner l x ≠ owner l k → owner (splitOf l k).1 x = owner l x) := by
  obtain ⟨_, T⟩ := split_one hc h
  obtain ⟨o1, o2⟩ := owner_spec hc x
  by_cases he : owner l x = owner l k
  · refine ⟨?_, fun hh => absurd he hh⟩
    rw [he] at o2 ⊢
    rw [spHas_iff] at o2
    by_cases hx : strLess x k = true
    · rw [owner_eq T.ok (T.into (((owner l k).1.1, k), (owner l k).2.1, ver l + 1) (by simp [aged])) (spHas_iff.2 ⟨o2.1, .inr hx⟩)]
    · rw [owner_eq T.ok (T.into ((k, (owner l k).1.2), (owner l k).2.1, ver l + 1) (by simp [aged])) (spHas_iff.2 ⟨by rw [leS_iff']; simpa using hx, o2.2⟩)]
  · have := owner_eq T.ok (T.out _ o1 (by simpa using he)) o2
    exact ⟨by rw [this], fun _ => this⟩
theorem merge_one {l : List Rg} (hc : ChOk l) {k : Str} (h : (mergeOf l k).2 = 0) : (k.length : Int) ≤ 64 ∧ 0 < findIx l k ∧ (nth l (findIx l k - 1) rg0).2.1 = (owner l k).2.1 ∧
    Turned l (mergeOf l k).1 [nth l (findIx l k - 1) rg0, owner l k] (aged (ver l + 1) [(((nth l (findIx l k - 1) rg0).1.1, (owner l k).1.2), (owner l k).2.1, 0)]) := by
  have hv := ver_le hc
  unfold mergeOf at h ⊢
  by_cases hk : chMay l = true ∧ (k.length : Int) ≤ 64
  · rw [if_pos hk] at h ⊢
    simp only at h ⊢
    by_cases h0 : findIx l k = 0
    · rw [if_pos h0] at h; cases h
    · rw [if_neg h0] at h ⊢
      by_cases he : (nth l (findIx l k) rg0).1.1 ≠ k
      · rw [if_pos he] at h; cases h
      · rw [if_neg he] at h ⊢
        by_cases hg : (nth l (findIx l k - 1) rg0).2.1 ≠ (nth l (findIx l k) rg0).2.1
        · rw [if_pos hg] at h; cases h
        · rw [if_neg hg] at h ⊢
          obtain ⟨_, hi, hh, _⟩ := findIx_spec hc k
          obtain ⟨h1, h2, h3⟩ := told_zero h
          refine ⟨hk.2, by omega, Classical.not_not.1 hg, ?_⟩
          rw [h3]
          have hm1 : nth l (findIx l k - 1) rg0 ∈ l := by rw [getD_lt (by omega : findIx l k - 1 < l.length)]; exact List.getElem_mem _
          have hg1 := mem_epoch hc hm1
          have hg2 := mem_epoch hc (owner_spec hc k).1
          have m1 := spMay_iff.1 hg1.may
          have m2 := spMay_iff.1 hg2.may
          obtain ⟨j1, j2⟩ := hc.join (findIx l k) hi (by omega)
          have hlt : strLess (nth l (findIx l k - 1) rg0).1.1 (owner l k).1.1 = true := by
            show strLess _ (nth l (findIx l k) rg0).1.1 = true
            rw [← j1]
            exact m1.2.2.resolve_left (by rw [j1]; exact j2)
          have := turned_of hc (a := findIx l k - 1) (b := findIx l k + 1) (by omega) (by omega) (w := [(((nth l (findIx l k - 1) rg0).1.1, (nth l (findIx l k) rg0).1.2), (nth l (findIx l k) rg0).2.1, 0)]) (by simp) h1 (by
            rw [two_part (by omega) hi]
            intro p q hs
            simp only [Seg] at hs
            obtain ⟨s1, _, _, _, _, _, s4⟩ := hs
            simp only [aged, List.map_cons, List.map_nil, Seg]
            refine ⟨s1, ⟨spMay_iff.2 ⟨m1.1, m2.2.1, ?_⟩, hg2.g1, hg2.g2, by show 1 ≤ ver l + 1; omega, h2⟩, .inl trivial, s4⟩
            rcases m2.2.2 with m | m
            · exact .inl m
            · exact .inr (strLess_trans hlt m))
          rw [two_part (by omega) hi] at this
          exact this
  · rw [if_neg hk] at h; cases h
theorem merge_owner {l : List Rg} (hc : ChOk l) {k : Str} (h : (mergeOf l k).2 = 0) (x : Str) : (owner (mergeOf l k).1 x).2.1 = (owner l x).2.1 ∧ (owner l x ≠ owner l k → owner l x ≠ nth l (findIx l k - 1) rg0 → owner (mergeOf l k).1 x = owner l x) := by
  obtain ⟨_, h0, hgr, T⟩ := merge_one hc h
  obtain ⟨_, hi, _, _⟩ := findIx_spec hc k
  obtain ⟨o1, o2⟩ := owner_spec hc x
  have hm1 : nth l (findIx l k - 1) rg0 ∈ l := by rw [getD_lt (by omega : findIx l k - 1 < l.length)]; exact List.getElem_mem _
  have m1 := spMay_iff.1 (mem_epoch hc hm1).may
  have m2 := spMay_iff.1 (mem_epoch hc (owner_spec hc k).1).may
  obtain ⟨j1, j2⟩ := hc.join (findIx l k) hi h0
  have hlt : strLess (nth l (findIx l k - 1) rg0).1.1 (owner l k).1.1 = true := by
    show strLess _ (nth l (findIx l k) rg0).1.1 = true
    rw [← j1]
    exact m1.2.2.resolve_left (by rw [j1]; exact j2)
  by_cases he : owner l x = owner l k
  · refine ⟨?_, fun hh => absurd he hh⟩
    rw [he] at o2 ⊢
    rw [spHas_iff] at o2
    rw [owner_eq T.ok (T.into (((nth l (findIx l k - 1) rg0).1.1, (owner l k).1.2), (owner l k).2.1, ver l + 1) (by simp [aged])) (spHas_iff.2 ⟨leS_trans (leS_of_less hlt) o2.1, o2.2⟩)]
  · by_cases he1 : owner l x = nth l (findIx l k - 1) rg0
    · refine ⟨?_, fun _ hh => absurd he1 hh⟩
      rw [he1] at o2 ⊢
      rw [spHas_iff] at o2
      rw [owner_eq T.ok (T.into (((nth l (findIx l k - 1) rg0).1.1, (owner l k).1.2), (owner l k).2.1, ver l + 1) (by simp [aged])) (spHas_iff.2 ⟨o2.1, by
        show (owner l k).1.2 = [] ∨ strLess x (owner l k).1.2 = true
        have h5 : strLess x (owner l k).1.1 = true := by
          show strLess x (nth l (findIx l k) rg0).1.1 = true
          rw [← j1]
          exact o2.2.resolve_left (by rw [j1]; exact j2)
        rcases m2.2.2 with m | m
        · exact .inl m
        · exact .inr (strLess_trans h5 m)⟩)]
      exact hgr.symm
    · have := owner_eq T.ok (T.out _ o1 (by simp only [List.mem_cons, List.not_mem_nil, or_false, not_or]; exact ⟨he1, he⟩)) o2
      exact ⟨by rw [this], fun _ _ => this⟩
theorem move_one {l : List Rg} (hc : ChOk l) {k : Str} {g : Int} (h : (moveOf l k g).2 = 0) : (k.length : Int) ≤ 64 ∧ 1 ≤ g ∧ g ≤ 16 ∧
    Turned l (moveOf l k g).1 [owner l k] (aged (ver l + 1) [((owner l k).1, g, 0)]) ∧ (moveOf l k g).1.length = l.length := by
  have hv := ver_le hc
  unfold moveOf at h ⊢
  by_cases hk : chMay l = true ∧ (k.length : Int) ≤ 64 ∧ 1 ≤ g ∧ g ≤ 16
  · rw [if_pos hk] at h ⊢
    simp only at h ⊢
    by_cases he : (nth l (findIx l k) rg0).2.1 = g
    · rw [if_pos he] at h; cases h
    · rw [if_neg he] at h ⊢
      obtain ⟨_, hi, hh, _⟩ := findIx_spec hc k
      obtain ⟨h1, h2, h3⟩ := told_zero h
      refine ⟨hk.2.1, hk.2.2.1, hk.2.2.2, ?_, ?_⟩
      · rw [h3]
        have hg := mem_epoch hc (owner_spec hc k).1
        have := turned_of hc (a := findIx l k) (b := findIx l k + 1) (by omega) (by omega) (w := [((nth l (findIx l k) rg0).1, g, 0)]) (by simp) h1 (by
          rw [one_part hi]
          intro p q hs
          simp only [Seg] at hs
          obtain ⟨s1, s2, _, s4⟩ := hs
          simp only [aged, List.map_cons, List.map_nil, Seg]
          exact ⟨s1, ⟨hg.may, hk.2.2.1, hk.2.2.2, by show 1 ≤ ver l + 1; omega, h2⟩, .inl trivial, s4⟩)
        rw [one_part hi] at this
        exact this
      · rw [h3]
        simp only [turn, List.length_append, List.length_map, List.length_take, List.length_drop, List.length_singleton]
        omega
  · rw [if_neg hk] at h; cases h
theorem move_owner {l : List Rg} (hc : ChOk l) {k : Str} {g : Int} (h : (moveOf l k g).2 = 0) (x : Str) :
    (owner l x = owner l k → owner (moveOf l k g).1 x = ((owner l k).1, g, ver l + 1)) ∧ (owner l x ≠ owner l k → owner (moveOf l k g).1 x = owner l x) := by
  obtain ⟨_, _, _, T, _⟩ := move_one hc h
  obtain ⟨o1, o2⟩ := owner_spec hc x
  refine ⟨fun he => ?_, fun he => owner_eq T.ok (T.out _ o1 (by simpa using he)) o2⟩
  rw [he] at o2
  exact owner_eq T.ok (T.into _ (by simp [aged])) o2
end Go.Proofs.Ytdmegcnkfngojaa.gg
