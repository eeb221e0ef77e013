/- A part of our own proof. -/
import Derived.Test.YtlhifcknhgmidaaGreatDoorK6
import Derived.Test.YtlhifcknhgmidaaGreatDoorM
open Go Go.GG
set_option linter.unusedVariables false
namespace Go.Proofs.YtlhifcknhgmidaaGreatDoor.gg
abbrev FI := Str × FT
def ltK (k : Str) (x : FI) : Bool := xB x.1 k
def eqK (k : Str) (x : FI) : Bool := x.1 == k
def jX (L : FL) : Prop := Go.GG.Sorted yRz (fun x : FI => x.1) L
theorem jX.pw {L : FL} (h : jX L) : L.Pairwise fun a b : FI => xB a.1 b.1 = true := h
theorem jX.of {L : FL} (h : L.Pairwise fun a b : FI => xB a.1 b.1 = true) : jX L := h
theorem yVj {k : Str} : ∀ x : FI, ltK k x = true → eqK k x = false := by
 intro x h
 unfold ltK at h; unfold eqK
 rw [beq_eq_false_iff_ne]
 exact zJk h
theorem yEq (k : Str) (v : FT) : eqK k (k, v) = true := by simp [eqK]
theorem yBl {k : Str} {x : FI} : eqK k x = false ↔ x.1 ≠ k := by simp [eqK]
def zE6 (m : FL) : Prop := m.Pairwise fun a b : FI => a.1 ≠ b.1
theorem jX.keyed {L : FL} (h : jX L) : zE6 L := h.pw.imp (fun h => zJk h)
theorem zE6.perm {m l : FL} (h : zE6 l) (p : m.Perm l) : zE6 m := (p.pairwise_iff (fun h => h.symm)).2 h
def wB (k : Str) (m : FL) : FL := m.filter fun x => !eqK k x
theorem zQa {k : Str} {m : FL} (h : ∀ x ∈ m, x.1 ≠ k) : wB k m = m := by
 unfold wB
 rw [List.filter_eq_self]
 intro x hx
 rw [yBl.2 (h x hx)]; rfl
theorem yAl (k : Str) (v : FT) : ∀ {m : FL}, zE6 m → (xF (kt := .str) k v m).Perm ((k, v) :: wB k m)
 | [], _ => List.Perm.refl _
 | (a, b) :: r, h => by
   unfold zE6 at h
   rw [List.pairwise_cons] at h
   have e : xF (kt := .str) k v ((a, b) :: r) = cond (k == a) ((k, v) :: r) ((a, b) :: xF (kt := .str) k v r) := rfl
   rw [e]
   by_cases hk : k = a
   ·subst hk
    rw [show (k == k) = true by simp, cond_true]
    have : wB k ((k, b) :: r) = r := by
     unfold wB
     rw [List.filter_cons, yEq]
     simp only [Bool.not_true, Bool.false_eq_true, if_false]
     exact zQa (fun x hx => (h.1 x hx).symm)
    rw [this]
   ·rw [show (k == a) = false by simpa using hk, cond_false]
    have : wB k ((a, b) :: r) = (a, b) :: wB k r := by
     unfold wB
     rw [List.filter_cons, yBl.2 (fun e => hk e.symm)]
     simp
    rw [this]
    exact ((yAl k v h.2).cons _).trans (List.Perm.swap _ _ _)
theorem yOg (k : Str) : ∀ {m : FL}, zE6 m → zDi (kt := .str) k m = wB k m
 | [], _ => rfl
 | (a, b) :: r, h => by
   unfold zE6 at h
   rw [List.pairwise_cons] at h
   have e : zDi (kt := .str) k ((a, b) :: r) = cond (k == a) r ((a, b) :: zDi (kt := .str) k r) := rfl
   rw [e]
   by_cases hk : k = a
   ·subst hk
    rw [show (k == k) = true by simp, cond_true]
    symm
    unfold wB
    rw [List.filter_cons, yEq]
    simp only [Bool.not_true, Bool.false_eq_true, if_false]
    exact zQa (fun x hx => (h.1 x hx).symm)
   ·rw [show (k == a) = false by simpa using hk, cond_false, yOg k h.2]
    unfold wB
    rw [List.filter_cons, yBl.2 (fun e => hk e.symm)]
    simp
theorem zCi (k : Str) (v : FT) : ∀ {m : FL}, zE6 m → (yW (kt := .str) k m = some v ↔ (k, v) ∈ m)
 | [], _ => by simp [yW]
 | (a, b) :: r, h => by
   unfold zE6 at h
   rw [List.pairwise_cons] at h
   have e : yW (kt := .str) k ((a, b) :: r) = cond (k == a) (some b) (yW (kt := .str) k r) := rfl
   rw [e]
   by_cases hk : k = a
   ·subst hk
    rw [show (k == k) = true by simp, cond_true]
    simp only [Option.some.injEq, List.mem_cons, Prod.mk.injEq, true_and]
    constructor
    ·exact fun h => .inl h.symm
    ·rintro (rfl | h2)
     ·rfl
     ·exact absurd rfl (h.1 (k, v) h2)
   ·rw [show (k == a) = false by simpa using hk, cond_false, zCi k v h.2]
    simp only [List.mem_cons, Prod.mk.injEq, hk, false_and, false_or]
theorem zHj (k : Str) {m : FL} (h : zE6 m) : yW (kt := .str) k m = none ↔ ∀ x ∈ m, x.1 ≠ k := by
 constructor
 ·rintro e ⟨a, b⟩ hx rfl
  rw [(zCi _ _ h).2 hx] at e; cases e
 ·intro hx
  cases e : yW (kt := .str) k m with
  | none => rfl
  | some v => exact absurd rfl (hx _ ((zCi _ _ h).1 e))
structure Rel (m L : FL) : Prop where
 perm : m.Perm L
 srt : jX L
theorem Rel.kl {m L : FL} (h : Rel m L) : zE6 L := h.srt.keyed
theorem Rel.km {m L : FL} (h : Rel m L) : zE6 m := h.kl.perm h.perm
theorem Rel.find {m L : FL} (h : Rel m L) (k : Str) : yW (kt := .str) k m = yW (kt := .str) k L := by
 cases e : yW (kt := .str) k L with
 | none =>
   rw [zHj k h.km]
   exact fun x hx => (zHj k h.kl).1 e x (h.perm.mem_iff.1 hx)
 | some v =>
   rw [zCi k v h.km]
   exact h.perm.mem_iff.2 ((zCi k v h.kl).1 e)
def zJ4 (L : FL) (f : FI) : FL := zVl (ltK f.1) (eqK f.1) L f
theorem zTx (L : FL) (f : FI) : (zJ4 L f).Perm (f :: wB f.1 L) := by
 unfold zJ4 zVl wB
 have h := List.takeWhile_append_dropWhile (p := ltK f.1) (l := L)
 have e : (L.takeWhile (ltK f.1)).filter (fun x => !eqK f.1 x) = L.takeWhile (ltK f.1) := by
  rw [List.filter_eq_self]
  intro x hx
  rw [yVj x (zQz hx)]; rfl
 conv => rhs; rw [← h, List.filter_append, e]
 rw [List.append_assoc]
 exact List.perm_middle
theorem yCu {L : FL} (h : jX L) (f : FI) : jX (zJ4 L f) := by
 refine yQe _ h (fun x _ hx => hx) (fun x hx he => ?_)
 have h1 : xB x.1 f.1 = false := by
  have hl := List.takeWhile_append_dropWhile (p := ltK f.1) (l := L)
  have hf := Sorted.fore (O := yRz) (key := fun x : FI => x.1) h f.1
  have hc := yRo (ltK f.1) L
  rw [← hc.2] at hx
  obtain ⟨i, hi, e⟩ := List.mem_iff_getElem.1 hx
  simp only [List.length_drop] at hi
  rw [List.getElem_drop] at e
  cases hq : xB x.1 f.1 with
  | false => rfl
  | true =>
    have := (yH5 (lt := ltK f.1) hf (zWw (ltK f.1) L + i) (by omega)).1 (by rw [e]; exact hq)
    omega
 rcases zHu x.1 f.1 with h2 | h2 | h2
 ·rw [h1] at h2; cases h2
 ·exact absurd h2 (yBl.1 he)
 ·exact h2
theorem ySl (L : FL) (f : FI) : (zJ4 L f).length ≤ L.length + 1 := yPk _ _ _ _
theorem yNj {L : FL} (h : jX L) (k : Str) : jX (wB k L) := .of (h.pw.filter _)
theorem Rel.set {m L : FL} (h : Rel m L) (k : Str) (v : FT) : Rel (xF (kt := .str) k v m) (zJ4 L (k, v)) :=
 ⟨(yAl k v h.km).trans (((h.perm.filter _).cons _).trans (zTx L (k, v)).symm), yCu h.srt _⟩
theorem Rel.del {m L : FL} (h : Rel m L) (k : Str) : Rel (zDi (kt := .str) k m) (wB k L) :=
 ⟨by rw [yOg k h.km]; exact h.perm.filter _, yNj h.srt k⟩
theorem yDs {L : FL} (h : zE6 L) {k : Str} {v : FT} {i : Nat} (hi : i < L.length) (e : L[i] = (k, v)) : L = L.take i ++ (k, v) :: L.drop (i + 1) ∧ wB k L = L.take i ++ L.drop (i + 1) := by
 have hs : L = L.take i ++ (k, v) :: L.drop (i + 1) := by
  conv => lhs; rw [← List.take_append_drop i L, List.drop_eq_getElem_cons hi, e]
 refine ⟨hs, ?_⟩
 unfold zE6 at h
 rw [hs, List.pairwise_append, List.pairwise_cons] at h
 have h1 : wB k (L.take i) = L.take i := zQa fun x hx => h.2.2 x hx _ (List.mem_cons_self ..)
 have h2 : wB k (L.drop (i + 1)) = L.drop (i + 1) := zQa fun x hx => (h.2.1.1 x hx).symm
 conv => lhs; rw [hs]
 unfold wB at *
 rw [List.filter_append, List.filter_cons, yEq]
 simp only [Bool.not_true, Bool.false_eq_true, if_false]
 rw [h1, h2]
theorem Rel.put_at {m L : FL} (h : Rel m L) {k : Str} {v : FT} {i : Nat} (hi : i < L.length) (e : L[i] = (k, v)) (u : FT) : Rel (xF (kt := .str) k u m) (L.set i (k, u)) := by
 obtain ⟨hs, ho⟩ := yDs h.kl hi e
 have hset : L.set i (k, u) = L.take i ++ (k, u) :: L.drop (i + 1) := by
  rw [List.set_eq_take_append_cons_drop, if_pos hi]
 refine ⟨(yAl k u h.km).trans ?_, ?_⟩
 ·refine ((h.perm.filter _).cons _).trans ?_
  show ((k, u) :: wB k L).Perm _
  rw [ho, hset]
  exact List.perm_middle.symm
 ·have hsr := h.srt
  unfold jX Go.GG.Sorted at hsr ⊢
  rw [hs, List.pairwise_append, List.pairwise_cons] at hsr
  rw [hset, List.pairwise_append, List.pairwise_cons]
  refine ⟨hsr.1, ⟨hsr.2.1.1, hsr.2.1.2⟩, fun a ha b hb => ?_⟩
  rcases List.mem_cons.1 hb with rfl | hb
  ·exact hsr.2.2 a ha (k, v) (List.mem_cons_self ..)
  ·exact hsr.2.2 a ha b (List.mem_cons_of_mem _ hb)
theorem Rel.same {m L : FL} (h : Rel m L) {k : Str} {v : FT} (e : yW (kt := .str) k m = some v) : Rel (xF (kt := .str) k v m) L := by
 rw [h.find, zCi k v h.kl] at e
 obtain ⟨i, hi, e⟩ := List.mem_iff_getElem.1 e
 have := h.put_at hi e v
 rwa [show L.set i (k, v) = L by rw [← e]; exact List.set_getElem_self hi] at this
theorem Rel.set_is {m L : FL} (h : Rel m L) {k : Str} {v : FT} {i : Nat} (hi : i < L.length) (e : L[i] = (k, v)) (u : FT) : zJ4 L (k, u) = L.set i (k, u) := by
 have h1 := h.put_at hi e u
 have h2 := h.set k u
 have hp := h2.perm.symm.trans h1.perm
 exact hp.eq_of_pairwise (fun a b _ _ x y => absurd (zK0 x) (by rw [show xB b.1 a.1 = true from y]; simp)) h2.srt.pw h1.srt.pw
theorem zUn : ∀ x y : Str, xB x y = true ↔ x < y
 | x, [] => by rw [zPd]; simp
 | [], b :: y => by rw [yNi]; simp
 | a :: x, b :: y => by
   rw [zBe, List.cons_lt_cons_iff, ← zUn x y]
   simp
theorem yVa {m L : FL} (h : Rel m L) (hn : L.length ≤ 64) (hk : ∀ x ∈ L, x.1.length ≤ 32) : yDw m = some (L.map (·.1)) := by
 unfold yDw
 have hl := h.perm.length_eq
 have h1 : (decide (m.length ≤ 1000000) && m.all fun p => decide (p.1.length ≤ 1000000)) = true := by
  rw [Bool.and_eq_true, List.all_eq_true]
  refine ⟨decide_eq_true (by omega), fun x hx => decide_eq_true ?_⟩
  have := hk x (h.perm.mem_iff.1 hx)
  omega
 rw [h1, cond_true]
 congr 1
 have le_iff : ∀ a b : Str, decide (a ≤ b) = leS a b := by
  intro a b
  rw [← ySo]
  cases hq : xB b a with
  | true =>
    have := (zUn b a).1 hq
    simp only [Bool.not_true, decide_eq_false_iff_not]
    exact fun hle => absurd this (List.not_lt.2 hle)
  | false =>
    simp only [Bool.not_false, decide_eq_true_eq]
    refine List.not_lt.1 fun hlt => ?_
    rw [(zUn b a).2 hlt] at hq; cases hq
 have p1 : ((m.map (·.1)).mergeSort fun x y => decide (x ≤ y)).Perm (L.map (·.1)) := (List.mergeSort_perm _ _).trans (h.perm.map _)
 have s1 : ((m.map (·.1)).mergeSort fun x y => decide (x ≤ y)).Pairwise (fun a b => leS a b = true) := by
  have := List.pairwise_mergeSort (le := fun x y : Str => decide (x ≤ y)) (fun a b c h1 h2 => by rw [le_iff] at *; exact yRy h1 h2) (fun a b => by
   rw [le_iff, le_iff]
   rcases zHu a b with h | h | h
   ·rw [zUp h]; rfl
   ·subst h; rw [ySq]; rfl
   ·rw [zUp h]; simp) (m.map (·.1))
  exact this.imp (fun h => by rw [le_iff] at h; exact h)
 have s2 : (L.map (·.1)).Pairwise (fun a b => leS a b = true) := by
  rw [List.pairwise_map]
  exact h.srt.pw.imp (fun h => zUp h)
 exact p1.eq_of_pairwise (fun a b _ _ x y => yMc x y) s1 s2
end Go.Proofs.YtlhifcknhgmidaaGreatDoor.gg
