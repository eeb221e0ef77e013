/- A part of our own proof. -/
import Derived.Test.YtlhifcknhgmidaaGreatDoorA
import Derived.Test.YtlhifcknhgmidaaGreatDoorK6
open Go Go.GG
set_option linter.unusedVariables false
namespace Go.Proofs.YtlhifcknhgmidaaGreatDoor.gg
def zQi : Str := [97, 98, 99, 100, 101, 102, 103, 104, 105, 106, 107, 108, 109, 110, 111, 112, 113, 114, 115, 116, 117, 118, 119, 120, 121, 122, 48, 49, 50, 51, 52, 53, 54, 55, 56, 57, 46, 45]
def zKl (s : Str) : Bool := decide (1 ≤ s.length) && (decide (s.length ≤ 32) && s.all fun b => zQi.contains b)
theorem yO4 {s : Str} (h : zKl s = true) : s.length ≤ 32 := by
 unfold zKl at h
 simp only [Bool.and_eq_true, decide_eq_true_eq] at h
 exact h.2.1
theorem zHp {p : UInt8 → Bool} : ∀ {l : Str}, l.dropWhile p = [] ↔ l.all p = true
 | [] => by simp
 | x :: l => by
   rw [List.dropWhile_cons, List.all_cons]
   cases p x with
   | true => simpa using zHp (l := l)
   | false => simp
theorem ySu (s : Str) : (Lib.trimS s zQi == []) = s.all fun b => zQi.contains b := by
 rw [Bool.eq_iff_iff, beq_iff_eq]
 show (((s.reverse.dropWhile (zQi.contains ·)).reverse).dropWhile (zQi.contains ·) = []) ↔ _
 rw [zHp, List.all_reverse]
 constructor
 ·intro h
  cases hd : s.reverse.dropWhile (zQi.contains ·) with
  | nil =>
    rw [zHp, List.all_reverse] at hd
    exact hd
  | cons x r =>
    rw [hd, List.all_cons, Bool.and_eq_true] at h
    have := yHi hd
    rw [h.1] at this; cases this
 ·intro h
  rw [zHp.2 (by rw [List.all_reverse]; exact h)]
  rfl
theorem yVz (s : Str) : zPl s = some (zKl s) := by
 unfold zPl zKl
 by_cases h1 : 1 ≤ s.length
 ·rw [decide_eq_true h1, decide_eq_true (by omega : (s.length : Int) ≥ 1)]
  by_cases h2 : s.length ≤ 32
  ·rw [decide_eq_true h2, decide_eq_true (by omega : (s.length : Int) ≤ 32)]
   simp only [cond_true, Bool.true_and]
   have : zNh s [97, 98, 99, 100, 101, 102, 103, 104, 105, 106, 107, 108, 109, 110, 111, 112, 113, 114, 115, 116, 117, 118, 119, 120, 121, 122, 48, 49, 50, 51, 52, 53, 54, 55, 56, 57, 46, 45] = some (Lib.trimS s zQi) := by
    unfold zNh
    rw [decide_eq_true (by omega : s.length ≤ 9223372036854775807)]
    rfl
   rw [this, Option.bind_some, ySu]
  ·rw [decide_eq_false h2, decide_eq_false (by omega : ¬ (s.length : Int) ≤ 32)]; rfl
 ·rw [decide_eq_false h1, decide_eq_false (by omega : ¬ (s.length : Int) ≥ 1)]; rfl
def FOk (x : FI) : Prop := x.1.length ≤ 32 ∧ x.2.1.length ≤ 65536 ∧ 0 ≤ x.2.2 ∧ x.2.2 ≤ (x.2.1.length : Int)
structure St (m L : FL) : Prop where
 rel : Rel m L
 len : L.length ≤ 64
 ok : ∀ x ∈ L, FOk x
theorem yTj (k : Str) (L : FL) : (wB k L).length ≤ L.length := List.length_filter_le _ _
theorem yMq {k : Str} {L : FL} {x : FI} (h : x ∈ wB k L) : x ∈ L := (List.mem_filter.1 h).1
theorem yLx {L : FL} {f x : FI} (h : x ∈ zJ4 L f) : x = f ∨ x ∈ L := by
 rcases List.mem_cons.1 ((zTx L f).mem_iff.1 h) with h | h
 ·exact .inl h
 ·exact .inr (yMq h)
theorem yP8 {L : FL} (h : zE6 L) {k : Str} {v : FT} (e : yW (kt := .str) k L = some v) : (wB k L).length + 1 = L.length := by
 obtain ⟨i, hi, e⟩ := List.mem_iff_getElem.1 ((zCi k v h).1 e)
 obtain ⟨hs, ho⟩ := yDs h hi e
 rw [ho]
 simp; omega
theorem St.find {m L : FL} (h : St m L) (k : Str) : yW (kt := .str) k m = yW (kt := .str) k L := h.rel.find k
theorem St.got {m L : FL} (h : St m L) {k : Str} {v : FT} (e : yW (kt := .str) k L = some v) : FOk (k, v) := h.ok _ ((zCi k v h.rel.kl).1 e)
theorem St.same {m L : FL} (h : St m L) {k : Str} {v : FT} (e : yW (kt := .str) k L = some v) : St (xF (kt := .str) k v m) L := ⟨h.rel.same (by rw [h.find]; exact e), h.len, h.ok⟩
theorem St.put {m L : FL} (h : St m L) {k : Str} {v : FT} (e : yW (kt := .str) k L = some v) (u : FT) (hu : FOk (k, u)) : St (xF (kt := .str) k u m) (zJ4 L (k, u)) := by
 refine ⟨h.rel.set k u, ?_, fun x hx => ?_⟩
 ·have h1 := yP8 h.rel.kl e
  have h2 := (zTx L (k, u)).length_eq
  simp only [List.length_cons] at h2
  have := h.len
  omega
 ·rcases yLx hx with rfl | hx
  ·exact hu
  ·exact h.ok x hx
theorem St.new {m L : FL} (h : St m L) (k : Str) (hl : L.length < 64) (u : FT) (hu : FOk (k, u)) : St (xF (kt := .str) k u m) (zJ4 L (k, u)) := by
 refine ⟨h.rel.set k u, ?_, fun x hx => ?_⟩
 ·have := ySl L (k, u)
  omega
 ·rcases yLx hx with rfl | hx
  ·exact hu
  ·exact h.ok x hx
theorem St.out {m L : FL} (h : St m L) (k : Str) : St (zDi (kt := .str) k m) (wB k L) :=
 ⟨h.rel.del k, Nat.le_trans (yTj k L) h.len, fun x hx => h.ok x (yMq hx)⟩
theorem yVd : St [] [] := ⟨⟨List.Perm.refl _, .of List.Pairwise.nil⟩, by decide, fun x h => by cases h⟩
theorem yGx {m L : FL} (h : St m L) (k : Str) : zBj m k = match yW (kt := .str) k L with | none => some ((m, none), 4) | some v => some ((xF (kt := .str) k v m, some k), 0) := by
 unfold zBj zBr
 simp only [Option.bind_some, Bool.not_true, cond_false]
 rw [h.find]
 cases yW (kt := .str) k L <;> rfl
theorem zJb {b : List Int} (h : b.length ≤ 1048576) : zR b = some b := by
 unfold zR
 rw [vV (by simp; omega)]
 simp
theorem yLz {m L : FL} (h : St m L) : zB0 m = some (L.map (·.1), m) := by
 unfold zB0 zBr
 simp only [Option.bind_some, Bool.not_true, cond_false]
 rw [yVa h.rel h.len fun x hx => (h.ok x hx).1]
 rfl
def zPj (L : FL) (k : Str) : FL × Int := match yW (kt := .str) k L with | none => (L, 4) | some v => (zJ4 L (k, (v.1, (v.1.length : Int))), 0)
theorem yB1 {m L : FL} (h : St m L) (k : Str) : ∃ m', kZ m k = some ((zPj L k).2, m') ∧ St m' (zPj L k).1 := by
 unfold kZ zPj
 rw [yGx h]
 cases e : yW (kt := .str) k L with
 | none => exact ⟨m, rfl, h⟩
 | some v =>
   have h2 := h.same e
   have hg := h.got e
   refine ⟨xF (kt := .str) k (v.1, (v.1.length : Int)) (xF (kt := .str) k v m), ?_, h2.put e _ ⟨hg.1, hg.2.1, by simp, by simp⟩⟩
   simp only [Option.bind_some, Option.elim_some]
   rw [h2.find, e]
   rfl
def yG8 (L : FL) (k : Str) (n : Int) : FL × Int := match yW (kt := .str) k L with
 | none => (L, 4)
 | some v => if n < 0 ∨ n > (v.1.length : Int) then (L, 1) else (zJ4 L (k, (cut v.1 0 n, zAv v.2 n)), 0)
theorem zR2 {b : List Int} {n : Int} (h0 : 0 ≤ n) (h1 : n ≤ (b.length : Int)) : ((cut b 0 n).length : Int) = n := by
 unfold cut
 simp; omega
theorem yQ9 {m L : FL} (h : St m L) (k : Str) (n : Int) : ∃ m', zB1 m k n = some ((yG8 L k n).2, m') ∧ St m' (yG8 L k n).1 := by
 unfold zB1 yG8
 rw [yGx h]
 cases e : yW (kt := .str) k L with
 | none => exact ⟨m, rfl, h⟩
 | some v =>
   have h2 := h.same e
   have hg := h.got e
   simp only [Option.bind_some, Option.elim_some]
   rw [h2.find, e]
   simp only [Option.bind_some]
   by_cases h0 : n < 0
   ·rw [if_pos (.inl h0)]
    refine ⟨_, ?_, h2.same e⟩
    rw [decide_eq_true h0]; rfl
   ·by_cases h1 : n > (v.1.length : Int)
    ·rw [if_pos (.inr h1)]
     refine ⟨_, ?_, h2.same e⟩
     rw [decide_eq_false h0, decide_eq_true h1]; rfl
    ·rw [if_neg (by omega)]
     have hc : ((cut v.1 0 n).length : Int) = n := zR2 (by omega) (by omega)
     have hg1 : v.1.length ≤ 65536 := hg.2.1
     have hg2 : 0 ≤ v.2 := hg.2.2.1
     refine ⟨xF (kt := .str) k (cut v.1 0 n, zAv v.2 n) (xF (kt := .str) k v m), ?_, h2.put e _ ⟨hg.1, ?_, ?_, ?_⟩⟩
     ·rw [decide_eq_false h0, decide_eq_false h1, decide_eq_true (by omega : (0 : Int) ≤ n), decide_eq_true (by omega : n ≤ (v.1.length : Int)), zJb (by omega)]
      rfl
     ·show (cut v.1 0 n).length ≤ 65536
      omega
     ·show 0 ≤ zAv v.2 n
      unfold zAv; split <;> omega
     ·show zAv v.2 n ≤ ((cut v.1 0 n).length : Int)
      rw [hc]; unfold zAv; split <;> omega
def yEg (L : FL) (k : Str) : FL × Int := match yW (kt := .str) k L with | none => (L, 4) | some v => (wB k L, 0)
theorem yQo {m L : FL} (h : St m L) (k : Str) : ∃ m', zBo m k = some ((yEg L k).2, m') ∧ St m' (yEg L k).1 := by
 unfold zBo yEg
 rw [yGx h]
 cases e : yW (kt := .str) k L with
 | none => exact ⟨m, rfl, h⟩
 | some v =>
   have h2 := h.same e
   refine ⟨zDi (kt := .str) k (xF (kt := .str) k v m), ?_, h2.out k⟩
   simp only [Option.bind_some, Option.elim_some]
   rw [h2.find, e, show (k == k) = true by simp]
   rfl
def zLc (L : FL) (k : Str) (b : List Int) : FL × Int := bif zKl k then (match yW (kt := .str) k L with
 | none => if L.length ≥ 64 ∨ b.length > 65536 then (L, 2) else (zJ4 L (k, (b, 0)), 0)
 | some v => if v.1.length + b.length > 65536 then (L, 2) else (zJ4 L (k, (v.1 ++ b, v.2)), 0)) else (L, 1)
theorem zQg {m L : FL} (h : St m L) (k : Str) {b : List Int} (hb : b.length ≤ 1048576) : ∃ m', xW m k b = some ((zLc L k b).2, m') ∧ St m' (zLc L k b).1 := by
 unfold xW zBr zLc
 simp only [Option.bind_some, Bool.not_true, cond_false]
 rw [yVz]
 simp only [Option.bind_some]
 cases hn : zKl k with
 | false => exact ⟨m, rfl, h⟩
 | true =>
   simp only [Bool.not_true, cond_false, cond_true]
   rw [h.find]
   have hl := h.rel.perm.length_eq
   cases e : yW (kt := .str) k L with
   | none =>
     simp only [Option.elim_none]
     rw [hl]
     by_cases h0 : L.length ≥ 64
     ·rw [if_pos (.inl h0), decide_eq_true (by omega : (L.length : Int) ≥ 64)]
      exact ⟨m, rfl, h⟩
     ·rw [decide_eq_false (by omega : ¬ (L.length : Int) ≥ 64)]
      by_cases h1 : b.length > 65536
      ·rw [if_pos (.inr h1), decide_eq_true (by omega : (b.length : Int) > 65536)]
       exact ⟨m, rfl, h⟩
      ·rw [if_neg (by omega), decide_eq_false (by omega : ¬ (b.length : Int) > 65536), vV (by omega)]
       exact ⟨_, rfl, h.new k (by omega) _ ⟨yO4 hn, by show b.length ≤ 65536; omega, by simp, by simp⟩⟩
   | some v =>
     have hg := h.got e
     have hg1 : v.1.length ≤ 65536 := hg.2.1
     have hg2 : v.2 ≤ (v.1.length : Int) := hg.2.2.2
     simp only [Option.elim_some]
     rw [wY (by omega) (by omega)]
     by_cases h1 : v.1.length + b.length > 65536
     ·rw [if_pos h1, decide_eq_true (by omega : (b.length : Int) > 65536 - (v.1.length : Int))]
      exact ⟨_, rfl, h.same e⟩
     ·rw [if_neg h1, decide_eq_false (by omega : ¬ (b.length : Int) > 65536 - (v.1.length : Int)), vV (by simp; omega), show (k == k) = true by simp]
      refine ⟨_, rfl, h.put e _ ⟨hg.1, ?_, hg.2.2.1, ?_⟩⟩
      ·show (v.1 ++ b).length ≤ 65536
       rw [List.length_append]; omega
      ·show v.2 ≤ ((v.1 ++ b).length : Int)
       rw [List.length_append]; omega
theorem yJ7 {m L : FL} (h : St m L) : ∃ m', zDx m = some (L, m') ∧ St m' L := by
 have key := zXf (S := FL × FL) L.length (fun i s => zBu (L.length : Int) (i : Int) () (L.map (·.1)) s.1 s.2) (fun i s => St s.1 L ∧ s.2 = L.take i) (fun r => ∃ m', r = some ((), m', L) ∧ St m' L)
  (fun i s hi hs => by
   obtain ⟨s1, s2⟩ := s
   obtain ⟨hs, e2⟩ := hs
   try dsimp only at hs e2 ⊢
   subst e2
   have hm : yW (kt := .str) L[i].1 L = some L[i].2 := (zCi _ _ h.rel.kl).2 (List.getElem_mem hi)
   have hlen := h.len
   refine .inl ⟨(xF (kt := .str) L[i].1 L[i].2 s1, L.take (i + 1)), ?_, hs.same hm, rfl⟩
   try dsimp only
   rw [zLx, decide_eq_true (by omega : (i : Int) < (L.length : Int)), decide_eq_true (by omega : (0 : Int) ≤ (i : Int)), List.length_map, decide_eq_true (by omega : (i : Int) < (L.length : Int)), zO3, List.getElem?_map, List.getElem?_eq_getElem hi, jN (by omega)]
   simp only [cond_true, Bool.true_and, Option.map_some, Option.bind_some]
   rw [hs.find, hm]
   simp only [Option.bind_some]
   rw [zJb (by have := (h.ok L[i] (List.getElem_mem hi)).2.1; omega)]
   simp only [Option.bind_some]
   rw [vV (by simp; omega), zMk hi]
   rfl)
  (fun s hs => by
   obtain ⟨s1, s2⟩ := s
   obtain ⟨hs, e2⟩ := hs
   try dsimp only at hs e2 ⊢
   refine ⟨s1, ?_, hs⟩
   rw [zLx, decide_eq_false (by omega : ¬ (L.length : Int) < (L.length : Int)), e2, List.take_length]
   rfl) 0 (m, []) (Nat.zero_le _) ⟨h, rfl⟩
 obtain ⟨m', e, hm⟩ := key
 refine ⟨m', ?_, hm⟩
 unfold zDx
 rw [yLz h]
 simp only [Option.bind_some, List.length_map]
 simp only [show ((0 : Nat) : Int) = 0 from rfl] at e
 rw [e]
 rfl
def zEk (cuts : List Int) (i : Nat) (v : FT) : Int := match cuts[i]? with | some c => zFb 0 (zAv c ((v.1.length : Int) - v.2)) | none => 0
def zHy (cuts : List Int) (i : Nat) (v : FT) : FT := (cut v.1 0 (v.2 + zEk cuts i v), v.2 + zEk cuts i v)
theorem yBz {cuts : List Int} {i : Nat} {v : FT} (h : v.2 ≤ (v.1.length : Int)) : 0 ≤ zEk cuts i v ∧ v.2 + zEk cuts i v ≤ (v.1.length : Int) := by
 unfold zEk
 split
 ·unfold zFb zAv
  split <;> split <;> omega
 ·omega
def zNf (cuts : List Int) (L : FL) : FL := L.mapIdx fun i x => (x.1, zHy cuts i x.2)
theorem zRy (cuts : List Int) (L : FL) : (zNf cuts L).length = L.length := by simp [zNf]
theorem yGe {cuts : List Int} {L : FL} {i : Nat} (h : i < L.length) : (zNf cuts L)[i]'(by rw [zRy]; exact h) = (L[i].1, zHy cuts i L[i].2) := by simp [zNf]
theorem ySe {cuts : List Int} {i : Nat} {x : FI} (h : FOk x) : FOk (x.1, zHy cuts i x.2) := by
 obtain ⟨h1, h2, h3, h4⟩ := h
 have hs := yBz (cuts := cuts) (i := i) h4
 have hc := zR2 (b := x.2.1) (n := x.2.2 + zEk cuts i x.2) (by omega) hs.2
 refine ⟨h1, ?_, ?_, ?_⟩
 ·show (cut x.2.1 0 (x.2.2 + zEk cuts i x.2)).length ≤ 65536
  omega
 ·show 0 ≤ x.2.2 + zEk cuts i x.2
  omega
 ·show x.2.2 + zEk cuts i x.2 ≤ ((cut x.2.1 0 (x.2.2 + zEk cuts i x.2)).length : Int)
  omega
def zHl (cuts : List Int) (L : FL) (i : Nat) : FL := L.mapIdx fun j x => if j < i then (x.1, zHy cuts j x.2) else x
theorem zDm (cuts : List Int) (L : FL) (i : Nat) : (zHl cuts L i).length = L.length := by simp [zHl]
theorem zNu {cuts : List Int} {L : FL} {i j : Nat} (h : j < L.length) : (zHl cuts L i)[j]'(by rw [zDm]; exact h) = if j < i then (L[j].1, zHy cuts j L[j].2) else L[j] := by simp [zHl]
theorem yNv (cuts : List Int) (L : FL) : zHl cuts L 0 = L := by
 refine List.ext_getElem (zDm ..) fun j h1 h2 => ?_
 rw [zNu h2]; simp
theorem yQl (cuts : List Int) (L : FL) : zHl cuts L L.length = zNf cuts L := by
 refine List.ext_getElem (by rw [zDm, zRy]) fun j h1 h2 => ?_
 rw [zDm] at h1
 rw [zNu h1, yGe h1, if_pos h1]
theorem yCy {cuts : List Int} {L : FL} {i : Nat} (h : i < L.length) : zHl cuts L (i + 1) = (zHl cuts L i).set i (L[i].1, zHy cuts i L[i].2) := by
 refine List.ext_getElem (by rw [List.length_set, zDm, zDm]) fun j h1 h2 => ?_
 rw [zDm] at h1
 rw [zNu h1, List.getElem_set, zNu h1]
 by_cases hj : i = j
 ·subst hj; simp
 ·rw [if_neg hj]
  by_cases h3 : j < i
  ·rw [if_pos (by omega), if_pos h3]
  ·rw [if_neg (by omega), if_neg h3]
theorem yT2 {m L : FL} (h : St m L) (cuts : List Int) : ∃ m', zB2 m cuts = some m' ∧ St m' (zNf cuts L) := by
 have key := zXf (S := FL) L.length (fun i s => zAe cuts (L.length : Int) (i : Int) () (L.map (·.1)) s) (fun i s => St s (zHl cuts L i)) (fun r => ∃ m', r = some ((), m') ∧ St m' (zNf cuts L))
  (fun i s hi hs => by
   try dsimp only at hs ⊢
   have hlen := h.len
   have hT := zNu (cuts := cuts) (i := i) hi
   rw [if_neg (by omega)] at hT
   have hiT : i < (zHl cuts L i).length := by rw [zDm]; exact hi
   have hm : yW (kt := .str) L[i].1 (zHl cuts L i) = some L[i].2 := (zCi _ _ hs.rel.kl).2 (by
    have := List.getElem_mem hiT
    rwa [hT] at this)
   have hok := h.ok L[i] (List.getElem_mem hi)
   obtain ⟨hk1, hk2, hk3, hk4⟩ := hok
   have hst := yBz (cuts := cuts) (i := i) hk4
   have hc := zR2 (b := L[i].2.1) (n := L[i].2.2 + zEk cuts i L[i].2) (by omega) hst.2
   have next : St (xF (kt := .str) L[i].1 (zHy cuts i L[i].2) s) (zHl cuts L (i + 1)) := by
    refine ⟨?_, by rw [zDm]; exact hlen, fun x hx => ?_⟩
    ·rw [yCy hi]
     exact hs.rel.put_at hiT hT _
    ·rw [yCy hi] at hx
     rcases List.mem_or_eq_of_mem_set hx with hx | rfl
     ·exact hs.ok x hx
     ·exact ySe ⟨hk1, hk2, hk3, hk4⟩
   refine .inl ⟨xF (kt := .str) L[i].1 (zHy cuts i L[i].2) s, ?_, next⟩
   rw [zLy, decide_eq_true (by omega : (i : Int) < (L.length : Int)), decide_eq_true (by omega : (0 : Int) ≤ (i : Int)), List.length_map, decide_eq_true (by omega : (i : Int) < (L.length : Int)), zO3, List.getElem?_map, List.getElem?_eq_getElem hi, jN (by omega)]
   simp only [cond_true, Bool.true_and, Option.map_some, Option.bind_some]
   rw [hs.find, hm]
   simp only [Option.bind_some]
   unfold zHy
   by_cases hcu : i < cuts.length
   ·have es : zEk cuts i L[i].2 = zFb 0 (zAv cuts[i] ((L[i].2.1.length : Int) - L[i].2.2)) := by
     unfold zEk; rw [List.getElem?_eq_getElem hcu]
    rw [decide_eq_true (by omega : (i : Int) < (cuts.length : Int)), zGj hcu]
    simp only [cond_true, Option.bind_some]
    rw [wY (n := (L[i].2.1.length : Int) - L[i].2.2) (by omega) (by omega), ← es, wY (n := L[i].2.2 + zEk cuts i L[i].2) (by omega) (by omega)]
    rw [decide_eq_true (by omega : (0 : Int) ≤ L[i].2.2 + zEk cuts i L[i].2), decide_eq_true hst.2, zJb (by omega)]
    simp only [Bool.and_self, cond_true, Option.bind_some]
    rw [hc]
   ·have es : zEk cuts i L[i].2 = 0 := by
     unfold zEk; rw [List.getElem?_eq_none (by omega)]
    rw [decide_eq_false (by omega : ¬ (i : Int) < (cuts.length : Int))]
    rw [es] at hc hst ⊢
    simp only [cond_false]
    rw [wY (n := L[i].2.2 + 0) (by omega) (by omega)]
    rw [decide_eq_true (by omega : (0 : Int) ≤ L[i].2.2 + 0), decide_eq_true hst.2, zJb (by omega)]
    simp only [Bool.and_self, cond_true, Option.bind_some]
    rw [hc])
  (fun s hs => by
   try dsimp only at hs ⊢
   rw [yQl] at hs
   refine ⟨s, ?_, hs⟩
   rw [zLy, decide_eq_false (by omega : ¬ (L.length : Int) < (L.length : Int))]
   rfl) 0 m (Nat.zero_le _) (by rw [yNv]; exact h)
 obtain ⟨m', e, hm⟩ := key
 refine ⟨m', ?_, hm⟩
 unfold zB2
 rw [yLz h]
 simp only [Option.bind_some, List.length_map]
 simp only [show ((0 : Nat) : Int) = 0 from rfl] at e
 rw [e]
 rfl
end Go.Proofs.YtlhifcknhgmidaaGreatDoor.gg
