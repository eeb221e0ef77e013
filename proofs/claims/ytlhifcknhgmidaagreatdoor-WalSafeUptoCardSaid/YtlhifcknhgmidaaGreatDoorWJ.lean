/- A part of our own proof. -/
import Derived.Test.YtlhifcknhgmidaaGreatDoorN
import Derived.Test.YtlhifcknhgmidaaGreatDoorWI
open Go Go.GG Go.Proofs
set_option linter.unusedVariables false
namespace Go.Proofs.YtlhifcknhgmidaaGreatDoor.gg
abbrev yS2 := List (Int × Int × Bool × List Int × List Int)
theorem yH9 (A : List Sg) (s : Sg) : vP (A ++ [s]) = vP A ++ s.1 := by rw [zAp, vP, vP, List.append_nil]
theorem yOp {m : FL} {n : Nat} {S : List Sg} {G : List SG} {R : List (List Int)} {l : yS2} {k i : Int} (h : Log m n 1 S G) (hR : vP S = R.take (cnt S)) (hc : cnt S ≤ R.length) (hRl : R.length ≤ 100000000) :
 ∀ (r j : Nat), j + r = cnt S → zCm l k i (j : Int) () () (zDj 1 R) m G = some (l, k, i, (cnt S : Int), (), (), zDj 1 R, m, G)
 | 0, j, e => by
   have ej : j = cnt S := by omega
   rw [zMg, zC3]
   by_cases hj : j < R.length
   ·have hg : (zDj 1 R)[j]? = some (((1 + j : Nat) : Int), R[j]) := by
     rw [List.getElem?_eq_getElem (by rw [zC3]; exact hj), zSf 1 R j hj]
    rw [decide_eq_true (by omega : (j : Int) < (R.length : Int)), decide_eq_true (by omega : (0 : Int) ≤ (j : Int)), zO3, hg]
    simp only [Bool.and_self, cond_true, Option.bind_some]
    rw [yUw h (by omega) (by omega)]
    simp only [Option.bind_some, Bool.not_false, cond_true]
    rw [ej]
   ·rw [decide_eq_false (by omega : ¬ (j : Int) < (R.length : Int)), cond_false, ej]
 | r + 1, j, e => by
   have hj : j < R.length := by omega
   have hg : (zDj 1 R)[j]? = some (((1 + j : Nat) : Int), R[j]) := by
    rw [List.getElem?_eq_getElem (by rw [zC3]; exact hj), zSf 1 R j hj]
   have hrow : nth (vP S) (1 + j - 1) [] = R[j] := by
    rw [show 1 + j - 1 = j by omega, zVk (by rw [zG4]; omega)]
    simp only [hR, List.getElem_take]
   rw [zMg, zC3, decide_eq_true (by omega : (j : Int) < (R.length : Int)), decide_eq_true (by omega : (0 : Int) ≤ (j : Int)), zO3, hg]
   simp only [Bool.and_self, cond_true, Option.bind_some]
   rw [yVx h (by omega) (by omega), hrow]
   simp only [Option.bind_some, Bool.not_true, cond_false]
   rw [show (wW R[j] == wW R[j]) = true by simp, jN (by omega)]
   simp only [Bool.not_true, cond_false]
   exact yOp h hR hc hRl r (j + 1) (by omega)
structure yHc (s : Int × List (Int × List Int) × FL × List SG) (n : Nat) (S : List Sg) (k : Nat) : Prop where
 log : Log s.2.2.1 n 1 S s.2.2.2
 all : s.2.1 = zDj 1 (vP S)
 safe : s.1 = (k : Int)
 kept : zEd 1 S k
theorem yHc.cnt {s : Int × List (Int × List Int) × FL × List SG} {n : Nat} {S : List Sg} {k : Nat} (h : yHc s n S k) : cnt S ≤ 576000 := by
 have := yR3 h.log.fine
 have := h.log.len
 omega
theorem yLp (R : List (List Int)) (k : Nat) : cut (zDj 1 R) 0 (k : Int) = zDj 1 (R.take k) := by rw [zJn, yQ8]
theorem yVr {l : yS2} {i : Nat} (hi : i < l.length) (hil : l.length ≤ 1048576) (hB : ∀ x ∈ l[i].2.2.2.1, yQ x) (hX : 0 ≤ l[i].2.1 ∧ l[i].2.1 < 18446744073709551616) {s : Int × List (Int × List Int) × FL × List SG} {n : Nat} {S : List Sg} {k : Nat} (h : yHc s n S k) :
 ∃ s' n' S' k', yK l s.1 (i : Int) () () s.2.1 s.2.2.1 s.2.2.2 = yK l s'.1 ((i + 1 : Nat) : Int) () () s'.2.1 s'.2.2.1 s'.2.2.2 ∧ yHc s' n' S' k' := by
 have hcnt := h.cnt
 obtain ⟨s1, all, m, G⟩ := s
 obtain ⟨hL, ha, hs, hk⟩ := h
 simp only at hL ha hs ⊢
 subst hs
 have hrl := zG4 S
 have hal : (all.length : Int) = (cnt S : Int) := by rw [ha, zC3, hrl]
 have hal' : all.length = cnt S := by omega
 rw [zNw, decide_eq_true (by omega : (i : Int) < (l.length : Int)), zGj hi, cond_true, Option.bind_some, jN (by omega)]
 generalize l[i] = a at hB hX
 cases h1 : (a.1 == 1) with
 | true =>
   rw [cond_true]
   rcases List.eq_nil_or_concat S with rfl | ⟨A, s, rfl⟩
   ·have hG : G = [] := List.length_eq_zero_iff.1 (by rw [hL.gr.len]; rfl)
    subst hG
    refine ⟨((all.length : Int), all, m, []), n, [], 0, ?_, hL, ha, by rw [hal]; rfl, zEd.nil⟩
    rw [yRt, Option.bind_some]
   ·rw [List.concat_eq_append] at *
    obtain ⟨m', e, hL'⟩ := yTo hL
    refine ⟨((all.length : Int), all, m', G), n, _, cnt (A ++ [s]), ?_, hL', ?_, hal, ?_⟩
    ·rw [e, Option.bind_some]
    ·rw [ha, zAp, zAp]; rfl
    ·have := zLb A s
     refine zEd.mk' (by simp only; omega) ?_
     rw [this, Nat.add_sub_cancel_left, List.take_length]
     exact Nat.le_refl _
 | false =>
 rw [cond_false]
 cases h2 : (a.1 == 2) with
 | true =>
   rw [cond_true]
   by_cases h0 : cnt S = 0
   ·rw [decide_eq_false (by omega : ¬ (all.length : Int) > 0), cond_false]
    have hk0 := hk.1
    refine ⟨((k : Int), all, m, G), n, S, k, ?_, hL, ha, rfl, hk⟩
    rw [decide_eq_false (by omega : ¬ (k : Int) > (all.length : Int)), cond_false]
   ·have hu : IntKind.wrap .u64 (all.length : Int) = (cnt S : Int) := by rw [hal, zHw (by omega) (by omega)]
    have hne : ((cnt S : Int) != 0) = true := by rw [bne_iff_ne]; omega
    obtain ⟨q, hq⟩ : ∃ q : Nat, Int.tmod a.2.1 (cnt S : Int) = (q : Int) := ⟨(Int.tmod a.2.1 (cnt S : Int)).toNat, by have := Int.tmod_nonneg (cnt S : Int) hX.1; omega⟩
    have hq2 : q < cnt S := by
     have := Int.tmod_lt_of_pos a.2.1 (show (0 : Int) < (cnt S : Int) by omega)
     omega
    have hqw : IntKind.wrap .i64 (q : Int) = (q : Int) := wY (by omega) (by omega)
    have hpl : ∃ A s B, S = A ++ s :: B ∧ 1 + cnt A ≤ 1 + q ∧ 1 + q < 1 + cnt A + s.1.length := by
     cases e : zEc 1 S (1 + q) with
     | none => have := zWu e; omega
     | some j =>
       obtain ⟨A, s, B, e1, _, e2, e3⟩ := zRl e
       exact ⟨A, s, B, e1, e2, e3⟩
    obtain ⟨A, s, B, rfl, q1, q2⟩ := hpl
    obtain ⟨m', G', e, hL'⟩ := yPu hL q1 q2
    have hg : all[q]? = some (((1 + q : Nat) : Int), (vP (A ++ s :: B))[q]'(by omega)) := by
     have : (zDj 1 (vP (A ++ s :: B)))[q]? = some (((1 + q : Nat) : Int), (vP (A ++ s :: B))[q]'(by omega)) := by
      rw [List.getElem?_eq_getElem (by rw [zC3]; omega), zSf 1 _ q (by omega)]
     rw [← ha] at this
     exact this
    have hcut : cut all 0 (q : Int) = zDj 1 (vP (A ++ [(s.1.take (1 + q - (1 + cnt A)), min s.2 (enc (1 + cnt A) (s.1.take (1 + q - (1 + cnt A)))).length)])) := by
     rw [ha, yLp]
     congr 1
     rw [zAp, zAp, vP, vP, vP, List.append_nil, List.take_append, zG4, List.take_of_length_le (by rw [zG4]; omega)]
     congr 1
     rw [List.take_append_of_le_length (by omega)]
     congr 1
     omega
    have hcl : (cut all 0 (q : Int)).length = q := by rw [zJn, List.length_take]; omega
    have hkeep : ∀ k', k' ≤ k → k' ≤ q → zEd 1 (A ++ [(s.1.take (1 + q - (1 + cnt A)), min s.2 (enc (1 + cnt A) (s.1.take (1 + q - (1 + cnt A)))).length)]) k' := by
     intro k' hk1 hk2
     have ht : (s.1.take (1 + q - (1 + cnt A))).take (k' - cnt A) = s.1.take (k' - cnt A) := by rw [List.take_take, Nat.min_eq_left (by omega)]
     refine zEd.mk' (by simp only [List.length_take]; omega) ?_
     simp only
     rw [ht, Nat.le_min]
     refine ⟨?_, zQq _ _ (by omega)⟩
     by_cases hB0 : B = []
     ·subst hB0
      exact Nat.le_trans (zQq _ _ (by omega)) (hk.2 A s rfl)
     ·obtain ⟨_, _, hFs⟩ := wD.app (A := A) (B := s :: B) hL.fine (by simp)
      have := (hFs.2.2.2.2.1 hB0).2.1
      rw [this]
      exact zKu _ _ _
    rw [decide_eq_true (by omega : (all.length : Int) > 0), cond_true, hu, hne, cond_true, hq, hqw, decide_eq_true (by omega : (0 : Int) ≤ (q : Int)), decide_eq_true (by omega : (q : Int) < (all.length : Int)), Bool.and_self, cond_true, zO3, hg, Option.bind_some]
    rw [e, Option.bind_some, show ((0 : Int) != 0) = false from rfl, cond_false, decide_eq_true (by omega : (q : Int) ≤ (all.length : Int)), Bool.and_self, cond_true, BEq.rfl, cond_true, hcl]
    by_cases hkq : k > q
    ·refine ⟨((q : Int), cut all 0 (q : Int), m', G'), n, _, q, ?_, hL', hcut, rfl, hkeep q (by omega) (Nat.le_refl _)⟩
     rw [decide_eq_true (by omega : (k : Int) > (q : Int)), cond_true]
    ·refine ⟨((k : Int), cut all 0 (q : Int), m', G'), n, _, k, ?_, hL', hcut, rfl, hkeep k (Nat.le_refl _) (by omega)⟩
     rw [decide_eq_false (by omega : ¬ (k : Int) > (q : Int)), cond_false]
 | false =>
 rw [cond_false]
 cases h4 : (a.1 == 4) with
 | true =>
   rw [cond_true]
   obtain ⟨m1, e1, hm1⟩ := yT2 hL.st a.2.2.2.2
   have key : ∃ n' S' m2 G2, zBp m1 = some ((some ((), G2)), 0, m2) ∧ Log m2 n' 1 S' G2 ∧ vP S' = (vP S).take (cnt S') ∧ cnt S' ≤ cnt S ∧ k ≤ cnt S' ∧ zEd 1 S' (cnt S') := by
    rcases List.eq_nil_or_concat S with rfl | ⟨A, s, rfl⟩
    ·obtain ⟨m2, e2, hm2⟩ := yH0 (m := m1) hm1
     exact ⟨1, [], m2, [], e2, ⟨hm2, trivial, .inl ⟨rfl, rfl⟩⟩, rfl, Nat.le_refl _, hk.1, zEd.nil⟩
    ·rw [List.concat_eq_append] at *
     obtain ⟨q, m2, G2, hq, e2, hL2, hmax⟩ := ySg hL a.2.2.2.2 hm1
     have hc1 := zLb A s
     have hc2 := zLb A (s.1.take q, (enc (1 + cnt A) (s.1.take q)).length)
     simp only [List.length_take] at hc2
     refine ⟨n, _, m2, G2, e2, hL2, ?_, by omega, ?_, ?_⟩
     ·rw [hc2, yH9, yH9, List.take_append, zG4, List.take_of_length_le (l := vP A) (by rw [zG4]; omega)]
      congr 1
      show s.1.take q = s.1.take _
      congr 1
      omega
     ·have h3 := hk.1
      have := hmax (k - cnt A) (by omega) (hk.2 A s rfl)
      omega
     ·refine zEd.mk' (by simp only [List.length_take]; omega) ?_
      simp only
      rw [List.take_take]
      exact zQq _ _ (by omega)
   obtain ⟨n', S', m2, G2, e2, hL2, hrows, hc, hkc, hsk⟩ := key
   have hrest := yOp (l := l) (k := (k : Int)) (i := (i : Int)) hL2 hrows (by omega) (by omega) (cnt S') 0 (by omega)
   simp only [show ((0 : Nat) : Int) = 0 from rfl] at hrest
   have hlast := zR1 hL2.fine hL2.gr hL2.len
   rw [e1, Option.bind_some, e2, Option.bind_some]
   simp only [Option.elim_some]
   rw [show ((0 : Int) != 0) = false from rfl, cond_false, ha, hrest]
   simp only [Option.bind_some]
   rw [decide_eq_false (by omega : ¬ (cnt S' : Int) < (k : Int)), cond_false, zC3, hrl, decide_eq_true (by omega : (0 : Int) ≤ (cnt S' : Int)), decide_eq_true (by omega : (cnt S' : Int) ≤ (cnt S : Int)), BEq.rfl, jN (by omega), yLp, ← hrows]
   simp only [Bool.and_self, cond_true]
   refine ⟨((cnt S' : Int), zDj 1 (vP S'), m2, G2), n', S', cnt S', ?_, hL2, rfl, rfl, hsk⟩
   by_cases h0 : cnt S' = 0
   ·rw [if_pos h0] at hlast
    rw [hlast]
    simp only [h0, show (((0 : Nat) : Int) == 0) = true from rfl, cond_true, Option.bind_some, show ((0 : Int) != 0) = false from rfl, cond_false]
    rw [decide_eq_false (by omega : ¬ ((0 : Nat) : Int) > 0), cond_false]
   ·rw [if_neg h0] at hlast
    have hz : ((cnt S' : Int) == 0) = false := by rw [beq_eq_false_iff_ne]; omega
    have hw : IntKind.wrap .i64 ((cnt S' : Int) - 1) = ((cnt S' - 1 : Nat) : Int) := by rw [wY (by omega) (by omega)]; omega
    have hg : (zDj 1 (vP S))[cnt S' - 1]? = some (((1 + (cnt S' - 1) : Nat) : Int), (vP S)[cnt S' - 1]'(by omega)) := by
     rw [List.getElem?_eq_getElem (by rw [zC3]; omega), zSf 1 _ _ (by omega)]
    have hz2 : (((1 + cnt S' - 1 : Nat) : Int) != ((1 + (cnt S' - 1) : Nat) : Int)) = false := by
     rw [show 1 + cnt S' - 1 = 1 + (cnt S' - 1) by omega]; simp
    rw [hz, cond_false, decide_eq_true (by omega : (cnt S' : Int) > 0), cond_true, hlast, Option.bind_some, hw, decide_eq_true (by omega : (0 : Int) ≤ ((cnt S' - 1 : Nat) : Int)), decide_eq_true (by omega : ((cnt S' - 1 : Nat) : Int) < (cnt S : Int)), Bool.and_self, cond_true, zO3, hg, Option.bind_some, hz2, cond_false]
 | false =>
   rw [cond_false]
   have hlast := zR1 hL.fine hL.gr hL.len
   rw [hlast, Option.bind_some]
   have hidx : IntKind.wrap .u64 ((if cnt S = 0 then 0 else ((1 + cnt S - 1 : Nat) : Int)) + 1) = ((1 + cnt S : Nat) : Int) := by
    by_cases h0 : cnt S = 0
    ·rw [if_pos h0, h0]; rfl
    ·rw [if_neg h0, zHw (by omega) (by omega)]; omega
   rw [hidx]
   by_cases hd : 4096 < a.2.2.2.1.length
   ·refine ⟨((k : Int), all, m, G), n, S, k, ?_, hL, ha, rfl, hk⟩
    rw [yNx hL (by omega) hd, Option.bind_some, show ((3 : Int) == 0) = false from rfl, cond_false]
   ·have hro : ROk a.2.2.2.1 := ⟨hB, by omega⟩
    have hone : zDj (1 + cnt S) [a.2.2.2.1] = [(((1 + cnt S : Nat) : Int), a.2.2.2.1)] := rfl
    have hroom : yE (all ++ [(((1 + cnt S : Nat) : Int), a.2.2.2.1)]).length 32 = true := vV (by simp; omega)
    have good : ∀ m' G' n' S', xJ (m, G) (((1 + cnt S : Nat) : Int), a.2.2.2.1) = some (0, (m', G')) → Log m' n' 1 S' G' → vP S' = vP S ++ [a.2.2.2.1] → zEd 1 S' k →
     ∃ s' n' S' k', ((xJ (m, G) (((1 + cnt S : Nat) : Int), a.2.2.2.1)).bind fun r22 => (bif (r22.1 == 0) then (bif yE ((all ++ [(((1 + cnt S : Nat) : Int), a.2.2.2.1)])).length 32 then yK l (k : Int) ((i + 1 : Nat) : Int) () () (all ++ [(((1 + cnt S : Nat) : Int), a.2.2.2.1)]) r22.2.1 r22.2.2 else none) else yK l (k : Int) ((i + 1 : Nat) : Int) () () all r22.2.1 r22.2.2)) = yK l s'.1 ((i + 1 : Nat) : Int) () () s'.2.1 s'.2.2.1 s'.2.2.2 ∧ yHc s' n' S' k' := by
     intro m' G' n' S' e hL' hr' hk'
     refine ⟨((k : Int), all ++ [(((1 + cnt S : Nat) : Int), a.2.2.2.1)], m', G'), n', S', k, ?_, hL', ?_, rfl, hk'⟩
     ·rw [e, Option.bind_some, show ((0 : Int) == 0) = true from rfl, cond_true, hroom, cond_true]
     ·simp only
      rw [ha, hr', yEj, hrl, hone]
    rcases List.eq_nil_or_concat S with rfl | ⟨A, s, rfl⟩
    ·obtain ⟨m', G', e, hL'⟩ := yKc hL hro (i := 1) (by decide) (by decide)
     refine good m' G' 1 _ e hL' rfl ?_
     have hk0 : k = 0 := by
      have := hk.1
      simp only [cnt] at this
      omega
     subst hk0
     exact zEd.mk' (A := []) (by simp) (by simp [enc])
    ·rw [List.concat_eq_append] at *
     have hc1 := zLb A s
     have hk1 := hk.1
     by_cases hs : (enc (1 + cnt A) s.1).length ≤ 4096
     ·obtain ⟨m', G', e, hL'⟩ := yM8 hL hro rfl (by omega) hs
      refine good m' G' n _ e hL' ?_ (zEd.mk' ?_ ?_)
      ·rw [zAp, zAp]
       simp [vP]
      ·rw [List.length_append, List.length_singleton]; omega
      ·rw [List.take_append_of_le_length (by omega)]
       exact hk.2 A s rfl
     ·have hnew := zRz hL hro rfl (by omega) (by omega)
      by_cases hfull : n + A.length + 1 > 99999999 ∨ (A ++ [s]).length ≥ 64
      ·rw [if_pos hfull] at hnew
       obtain ⟨m', e, hL'⟩ := hnew
       refine ⟨((k : Int), all, m', G), n, _, k, ?_, hL', ?_, rfl, zEd.mk' (by simp only; omega) ?_⟩
       ·rw [e, Option.bind_some, show ((2 : Int) == 0) = false from rfl, cond_false]
       ·rw [ha, zAp, zAp]; rfl
       ·simp only
        exact zKu _ _ _
      ·rw [if_neg hfull] at hnew
       obtain ⟨m', G', e, hL'⟩ := hnew
       refine good m' G' n _ e hL' ?_ (zEd.mk' ?_ ?_)
       ·rw [zAp, zAp, zAp]
        simp [vP]
       ·rw [zLb]
        simp only
        omega
       ·rw [zLb]
        simp only
        rw [show k - (cnt A + s.1.length) = 0 by omega]
        simp [enc]
theorem yNk (l : yS2) (hl : l.length ≤ 1048576) (hB : ∀ a ∈ l, (∀ x ∈ a.2.2.2.1, yQ x) ∧ 0 ≤ a.2.1 ∧ a.2.1 < 18446744073709551616) : ∃ k, zKy k l = some true := by
 refine (yEu l).fin ?_
 unfold zOz zP6
 obtain ⟨m, e, hm⟩ := yH0 yVd
 obtain ⟨l', el, hsub, hl'⟩ := yS7 hl
 rw [Option.bind_some, e]
 simp only [Option.bind_some, Option.elim_some]
 rw [show ((0 : Int) != 0) = false from rfl, cond_false, el, Option.bind_some]
 have key := zXf (S := Int × List (Int × List Int) × FL × List SG) l'.length (fun i s => yK l' s.1 (i : Int) () () s.2.1 s.2.2.1 s.2.2.2) (fun i s => ∃ n S k, yHc s n S k) (fun r => r = some (.inl ()))
  (fun i s hi hs => by
   obtain ⟨n, S, k, h⟩ := hs
   have hb := hB _ (hsub _ (List.getElem_mem hi))
   obtain ⟨s', n', S', k', e, h'⟩ := yVr hi hl' hb.1 hb.2 h
   exact .inl ⟨s', e, n', S', k', h'⟩)
  (fun s hs => by
   try dsimp only
   rw [zNw, decide_eq_false (by omega : ¬ (l'.length : Int) < (l'.length : Int)), cond_false]) 0 (0, [], m, []) (Nat.zero_le _) ⟨1, [], 0, ⟨⟨hm, trivial, .inl ⟨rfl, rfl⟩⟩, rfl, rfl, zEd.nil⟩⟩
 simp only [show ((0 : Nat) : Int) = 0 from rfl] at key
 rw [key, Option.bind_some, Sum.elim_inl, yRc]
 rfl
end Go.Proofs.YtlhifcknhgmidaaGreatDoor.gg
