/- A disk's files: a map from names to things, beside the list of the files by rising names. -/
import Derived.Test.YtababmeocedhiaaDoorK6
import Derived.Test.YtababmeocedhiaaDoorM
open Go Go.GG
set_option linter.unusedVariables false
namespace Go.Proofs.YtababmeocedhiaaDoor.gg
abbrev FI := Str × FT
def ltK (k : Str) (x : FI) : Bool := strLess x.1 k
def eqK (k : Str) (x : FI) : Bool := x.1 == k
def SortedF (L : FL) : Prop := Go.GG.Sorted strOrd (fun x : FI => x.1) L
theorem SortedF.pw {L : FL} (h : SortedF L) : L.Pairwise fun a b : FI => strLess a.1 b.1 = true := h
theorem SortedF.of {L : FL} (h : L.Pairwise fun a b : FI => strLess a.1 b.1 = true) : SortedF L := h
theorem ltK_ne {k : Str} : ∀ x : FI, ltK k x = true → eqK k x = false := by
  intro x h
  unfold ltK at h; unfold eqK
  rw [beq_eq_false_iff_ne]
  exact strLess_ne h
theorem eqK_iff {k : Str} {x : FI} : eqK k x = true ↔ x.1 = k := by simp [eqK]
theorem eqK_self (k : Str) (v : FT) : eqK k (k, v) = true := by simp [eqK]
theorem eqK_not {k : Str} {x : FI} : eqK k x = false ↔ x.1 ≠ k := by simp [eqK]
def Keyed (m : FL) : Prop := m.Pairwise fun a b : FI => a.1 ≠ b.1
theorem SortedF.keyed {L : FL} (h : SortedF L) : Keyed L := h.pw.imp (fun h => strLess_ne h)
theorem Keyed.perm {m l : FL} (h : Keyed l) (p : m.Perm l) : Keyed m := (p.pairwise_iff (fun h => h.symm)).2 h
def outF (k : Str) (m : FL) : FL := m.filter fun x => !eqK k x
theorem outF_free {k : Str} {m : FL} (h : ∀ x ∈ m, x.1 ≠ k) : outF k m = m := by
  unfold outF
  rw [List.filter_eq_self]
  intro x hx
  rw [eqK_not.2 (h x hx)]; rfl
theorem mset_perm (k : Str) (v : FT) : ∀ {m : FL}, Keyed m → (mset (kt := .str) k v m).Perm ((k, v) :: outF k m)
  | [], _ => List.Perm.refl _
  | (a, b) :: r, h => by
    unfold Keyed at h
    rw [List.pairwise_cons] at h
    have e : mset (kt := .str) k v ((a, b) :: r) = cond (k == a) ((k, v) :: r) ((a, b) :: mset (kt := .str) k v r) := rfl
    rw [e]
    by_cases hk : k = a
    · subst hk
      rw [show (k == k) = true by simp, cond_true]
      have : outF k ((k, b) :: r) = r := by
        unfold outF
        rw [List.filter_cons, eqK_self]
        simp only [Bool.not_true, Bool.false_eq_true, if_false]
        exact outF_free (fun x hx => (h.1 x hx).symm)
      rw [this]
    · rw [show (k == a) = false by simpa using hk, cond_false]
      have : outF k ((a, b) :: r) = (a, b) :: outF k r := by
        unfold outF
        rw [List.filter_cons, eqK_not.2 (fun e => hk e.symm)]
        simp
      rw [this]
      exact ((mset_perm k v h.2).cons _).trans (List.Perm.swap _ _ _)
theorem mdel_eq (k : Str) : ∀ {m : FL}, Keyed m → mdel (kt := .str) k m = outF k m
  | [], _ => rfl
  | (a, b) :: r, h => by
    unfold Keyed at h
    rw [List.pairwise_cons] at h
    have e : mdel (kt := .str) k ((a, b) :: r) = cond (k == a) r ((a, b) :: mdel (kt := .str) k r) := rfl
    rw [e]
    by_cases hk : k = a
    · subst hk
      rw [show (k == k) = true by simp, cond_true]
      symm
      unfold outF
      rw [List.filter_cons, eqK_self]
      simp only [Bool.not_true, Bool.false_eq_true, if_false]
      exact outF_free (fun x hx => (h.1 x hx).symm)
    · rw [show (k == a) = false by simpa using hk, cond_false, mdel_eq k h.2]
      unfold outF
      rw [List.filter_cons, eqK_not.2 (fun e => hk e.symm)]
      simp
theorem mfind_iff (k : Str) (v : FT) : ∀ {m : FL}, Keyed m → (mfind (kt := .str) k m = some v ↔ (k, v) ∈ m)
  | [], _ => by simp [mfind]
  | (a, b) :: r, h => by
    unfold Keyed at h
    rw [List.pairwise_cons] at h
    have e : mfind (kt := .str) k ((a, b) :: r) = cond (k == a) (some b) (mfind (kt := .str) k r) := rfl
    rw [e]
    by_cases hk : k = a
    · subst hk
      rw [show (k == k) = true by simp, cond_true]
      simp only [Option.some.injEq, List.mem_cons, Prod.mk.injEq, true_and]
      constructor
      · exact fun h => .inl h.symm
      · rintro (rfl | h2)
        · rfl
        · exact absurd rfl (h.1 (k, v) h2)
    · rw [show (k == a) = false by simpa using hk, cond_false, mfind_iff k v h.2]
      simp only [List.mem_cons, Prod.mk.injEq, hk, false_and, false_or]
theorem mfind_none (k : Str) {m : FL} (h : Keyed m) : mfind (kt := .str) k m = none ↔ ∀ x ∈ m, x.1 ≠ k := by
  constructor
  · rintro e ⟨a, b⟩ hx rfl
    rw [(mfind_iff _ _ h).2 hx] at e; cases e
  · intro hx
    cases e : mfind (kt := .str) k m with
    | none => rfl
    | some v => exact absurd rfl (hx _ ((mfind_iff _ _ h).1 e))
/-- What the map holds, by rising names. -/
structure Rel (m L : FL) : Prop where
  perm : m.Perm L
  srt : SortedF L
theorem Rel.kl {m L : FL} (h : Rel m L) : Keyed L := h.srt.keyed
theorem Rel.km {m L : FL} (h : Rel m L) : Keyed m := h.kl.perm h.perm
theorem Rel.find {m L : FL} (h : Rel m L) (k : Str) : mfind (kt := .str) k m = mfind (kt := .str) k L := by
  cases e : mfind (kt := .str) k L with
  | none =>
    rw [mfind_none k h.km]
    exact fun x hx => (mfind_none k h.kl).1 e x (h.perm.mem_iff.1 hx)
  | some v =>
    rw [mfind_iff k v h.km]
    exact h.perm.mem_iff.2 ((mfind_iff k v h.kl).1 e)
def putF (L : FL) (f : FI) : FL := placeF (ltK f.1) (eqK f.1) L f
theorem putF_perm (L : FL) (f : FI) : (putF L f).Perm (f :: outF f.1 L) := by
  unfold putF placeF outF
  have h := List.takeWhile_append_dropWhile (p := ltK f.1) (l := L)
  have e : (L.takeWhile (ltK f.1)).filter (fun x => !eqK f.1 x) = L.takeWhile (ltK f.1) := by
    rw [List.filter_eq_self]
    intro x hx
    rw [ltK_ne x (mem_takeWhile hx)]; rfl
  conv => rhs; rw [← h, List.filter_append, e]
  rw [List.append_assoc]
  exact List.perm_middle
theorem putF_sorted {L : FL} (h : SortedF L) (f : FI) : SortedF (putF L f) := by
  refine sorted_put _ h (fun x _ hx => hx) (fun x hx he => ?_)
  have h1 : strLess x.1 f.1 = false := by
    have hl := List.takeWhile_append_dropWhile (p := ltK f.1) (l := L)
    have hf := Sorted.fore (O := strOrd) (key := fun x : FI => x.1) h f.1
    have hc := cut_split (ltK f.1) L
    rw [← hc.2] at hx
    obtain ⟨i, hi, e⟩ := List.mem_iff_getElem.1 hx
    simp only [List.length_drop] at hi
    rw [List.getElem_drop] at e
    cases hq : strLess x.1 f.1 with
    | false => rfl
    | true =>
      have := (cutAt_iff (lt := ltK f.1) hf (cutAt (ltK f.1) L + i) (by omega)).1 (by rw [e]; exact hq)
      omega
  rcases strLess_total x.1 f.1 with h2 | h2 | h2
  · rw [h1] at h2; cases h2
  · exact absurd h2 (eqK_not.1 he)
  · exact h2
theorem putF_len (L : FL) (f : FI) : (putF L f).length ≤ L.length + 1 := placeF_len _ _ _ _
theorem outF_sorted {L : FL} (h : SortedF L) (k : Str) : SortedF (outF k L) := .of (h.pw.filter _)
theorem Rel.set {m L : FL} (h : Rel m L) (k : Str) (v : FT) : Rel (mset (kt := .str) k v m) (putF L (k, v)) :=
  ⟨(mset_perm k v h.km).trans (((h.perm.filter _).cons _).trans (putF_perm L (k, v)).symm), putF_sorted h.srt _⟩
theorem Rel.del {m L : FL} (h : Rel m L) (k : Str) : Rel (mdel (kt := .str) k m) (outF k L) :=
  ⟨by rw [mdel_eq k h.km]; exact h.perm.filter _, outF_sorted h.srt k⟩
/-- A name's place, and what stands about it. -/
theorem split_at {L : FL} (h : Keyed L) {k : Str} {v : FT} {i : Nat} (hi : i < L.length) (e : L[i] = (k, v)) : L = L.take i ++ (k, v) :: L.drop (i + 1) ∧ outF k L = L.take i ++ L.drop (i + 1) := by
  have hs : L = L.take i ++ (k, v) :: L.drop (i + 1) := by
    conv => lhs; rw [← List.take_append_drop i L, List.drop_eq_getElem_cons hi, e]
  refine ⟨hs, ?_⟩
  unfold Keyed at h
  rw [hs, List.pairwise_append, List.pairwise_cons] at h
  have h1 : outF k (L.take i) = L.take i := outF_free fun x hx => h.2.2 x hx _ (List.mem_cons_self ..)
  have h2 : outF k (L.drop (i + 1)) = L.drop (i + 1) := outF_free fun x hx => (h.2.1.1 x hx).symm
  conv => lhs; rw [hs]
  unfold outF at *
  rw [List.filter_append, List.filter_cons, eqK_self]
  simp only [Bool.not_true, Bool.false_eq_true, if_false]
  rw [h1, h2]
theorem Rel.put_at {m L : FL} (h : Rel m L) {k : Str} {v : FT} {i : Nat} (hi : i < L.length) (e : L[i] = (k, v)) (u : FT) : Rel (mset (kt := .str) k u m) (L.set i (k, u)) := by
  obtain ⟨hs, ho⟩ := split_at h.kl hi e
  have hset : L.set i (k, u) = L.take i ++ (k, u) :: L.drop (i + 1) := by
    rw [List.set_eq_take_append_cons_drop, if_pos hi]
  refine ⟨(mset_perm k u h.km).trans ?_, ?_⟩
  · refine ((h.perm.filter _).cons _).trans ?_
    show ((k, u) :: outF k L).Perm _
    rw [ho, hset]
    exact List.perm_middle.symm
  · have hsr := h.srt
    unfold SortedF Go.GG.Sorted at hsr ⊢
    rw [hs, List.pairwise_append, List.pairwise_cons] at hsr
    rw [hset, List.pairwise_append, List.pairwise_cons]
    refine ⟨hsr.1, ⟨hsr.2.1.1, hsr.2.1.2⟩, fun a ha b hb => ?_⟩
    rcases List.mem_cons.1 hb with rfl | hb
    · exact hsr.2.2 a ha (k, v) (List.mem_cons_self ..)
    · exact hsr.2.2 a ha b (List.mem_cons_of_mem _ hb)
theorem Rel.same {m L : FL} (h : Rel m L) {k : Str} {v : FT} (e : mfind (kt := .str) k m = some v) : Rel (mset (kt := .str) k v m) L := by
  rw [h.find, mfind_iff k v h.kl] at e
  obtain ⟨i, hi, e⟩ := List.mem_iff_getElem.1 e
  have := h.put_at hi e v
  rwa [show L.set i (k, v) = L by rw [← e]; exact List.set_getElem_self hi] at this
theorem Rel.set_set {m L : FL} (h : Rel m L) {k : Str} {v : FT} (u : FT) (e : mfind (kt := .str) k m = some v) : Rel (mset (kt := .str) k u (mset (kt := .str) k v m)) (putF L (k, u)) := (h.same e).set k u
theorem find_place {L : FL} (h : Keyed L) (k : Str) : (mfind (kt := .str) k L = none ∧ L.findIdx? (eqK k) = none) ∨ ∃ v i, ∃ hi : i < L.length, mfind (kt := .str) k L = some v ∧ L.findIdx? (eqK k) = some i ∧ L[i] = (k, v) := by
  cases e : mfind (kt := .str) k L with
  | none =>
    refine .inl ⟨rfl, ?_⟩
    rw [List.findIdx?_eq_none_iff]
    exact fun x hx => eqK_not.2 ((mfind_none k h).1 e x hx)
  | some v =>
    right
    have hm := (mfind_iff k v h).1 e
    cases ei : L.findIdx? (eqK k) with
    | none =>
      rw [List.findIdx?_eq_none_iff] at ei
      exact absurd rfl (eqK_not.1 (ei _ hm))
    | some i =>
      obtain ⟨hi, h1, h2⟩ := List.findIdx?_eq_some_iff_getElem.1 ei
      refine ⟨v, i, hi, rfl, rfl, ?_⟩
      have h3 := eqK_iff.1 h1
      have : (k, L[i].2) ∈ L := by rw [← h3]; exact List.getElem_mem hi
      have := (mfind_iff k _ h).2 this
      rw [e] at this
      injection this with this
      rw [this, ← h3]
theorem Rel.set_is {m L : FL} (h : Rel m L) {k : Str} {v : FT} {i : Nat} (hi : i < L.length) (e : L[i] = (k, v)) (u : FT) : putF L (k, u) = L.set i (k, u) := by
  have h1 := h.put_at hi e u
  have h2 := h.set k u
  have hp := h2.perm.symm.trans h1.perm
  exact hp.eq_of_pairwise (fun a b _ _ x y => absurd (strLess_asymm x) (by rw [show strLess b.1 a.1 = true from y]; simp)) h2.srt.pw h1.srt.pw
/-- All names, by rising order. -/
theorem less_iff_lt : ∀ x y : Str, strLess x y = true ↔ x < y
  | x, [] => by rw [strLess_nil]; simp
  | [], b :: y => by rw [nil_strLess]; simp
  | a :: x, b :: y => by
    rw [strLess_cons, List.cons_lt_cons_iff, ← less_iff_lt x y]
    simp
theorem seqF_is {m L : FL} (h : Rel m L) (hn : L.length ≤ 64) (hk : ∀ x ∈ L, x.1.length ≤ 32) : seqF m = some (L.map (·.1)) := by
  unfold seqF
  have hl := h.perm.length_eq
  have h1 : (decide (m.length ≤ 1000000) && m.all fun p => decide (p.1.length ≤ 1000000)) = true := by
    rw [Bool.and_eq_true, List.all_eq_true]
    refine ⟨decide_eq_true (by omega), fun x hx => decide_eq_true ?_⟩
    have := hk x (h.perm.mem_iff.1 hx)
    omega
  rw [h1, cond_true]
  congr 1
  have le_iff : ∀ a b : Str, decide (a ≤ b) = leS a b := by
    intro a b
    rw [← not_less]
    cases hq : strLess b a with
    | true =>
      have := (less_iff_lt b a).1 hq
      simp only [Bool.not_true, decide_eq_false_iff_not]
      exact fun hle => absurd this (List.not_lt.2 hle)
    | false =>
      simp only [Bool.not_false, decide_eq_true_eq]
      refine List.not_lt.1 fun hlt => ?_
      rw [(less_iff_lt b a).2 hlt] at hq; cases hq
  have p1 : ((m.map (·.1)).mergeSort fun x y => decide (x ≤ y)).Perm (L.map (·.1)) := (List.mergeSort_perm _ _).trans (h.perm.map _)
  have s1 : ((m.map (·.1)).mergeSort fun x y => decide (x ≤ y)).Pairwise (fun a b => leS a b = true) := by
    have := List.pairwise_mergeSort (le := fun x y : Str => decide (x ≤ y)) (fun a b c h1 h2 => by rw [le_iff] at *; exact leS_trans h1 h2) (fun a b => by
      rw [le_iff, le_iff]
      rcases strLess_total a b with h | h | h
      · rw [leS_of_less h]; rfl
      · subst h; rw [leS_refl]; rfl
      · rw [leS_of_less h]; simp) (m.map (·.1))
    exact this.imp (fun h => by rw [le_iff] at h; exact h)
  have s2 : (L.map (·.1)).Pairwise (fun a b => leS a b = true) := by
    rw [List.pairwise_map]
    exact h.srt.pw.imp (fun h => leS_of_less h)
  exact p1.eq_of_pairwise (fun a b _ _ x y => leS_antisymm x y) s1 s2
end Go.Proofs.YtababmeocedhiaaDoor.gg
