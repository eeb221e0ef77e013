/- A part of our own proof. -/
import Derived.Test.YtlhifcknhgmidaaGreatDoorWH
open Go Go.GG Go.Proofs
set_option linter.unusedVariables false
namespace Go.Proofs.YtlhifcknhgmidaaGreatDoor.gg
def zEd (b : Nat) (S : List Sg) (k : Nat) : Prop := k ≤ cnt S ∧ ∀ A s, S = A ++ [s] → (enc (b + cnt A) (s.1.take (k - cnt A))).length ≤ s.2
theorem zEd.mk' {b k : Nat} {A : List Sg} {s : Sg} (h1 : k ≤ cnt A + s.1.length) (h2 : (enc (b + cnt A) (s.1.take (k - cnt A))).length ≤ s.2) : zEd b (A ++ [s]) k := by
 refine ⟨by rw [zCy, cnt, cnt]; omega, fun A' s' e => ?_⟩
 obtain ⟨rfl, e2⟩ := List.append_inj' e rfl
 cases e2
 exact h2
theorem zEd.nil {b : Nat} : zEd b [] 0 := ⟨Nat.zero_le _, fun A s e => by simp at e⟩
theorem zLb (A : List Sg) (s : Sg) : cnt (A ++ [s]) = cnt A + s.1.length := by rw [zCy, cnt, cnt]; omega
theorem zQq (i : Nat) (R : List (List Int)) {j k : Nat} (h : j ≤ k) : (enc i (R.take j)).length ≤ (enc i (R.take k)).length := by
 have := zKu i (R.take k) j
 rwa [List.take_take, Nat.min_eq_left h] at this
theorem yR3 : ∀ {n b : Nat} {S : List Sg}, wD n b S → cnt S ≤ 9000 * S.length
 | n, b, [], _ => by simp [cnt]
 | n, b, s :: r, h => by
   have := yR3 h.tail
   have h1 := h.2.2.1.1
   have h2 := zQh b s.1
   rw [cnt, List.length_cons]; omega
theorem yN6 : ∀ {n b : Nat} {A B : List Sg}, wD n b (A ++ B) → B ≠ [] → ∀ x ∈ fl n b A [], x.2.2 = (x.2.1.length : Int)
 | n, b, [], B, _, _, x, hx => by simp [fl] at hx
 | n, b, s :: A, B, h, hB, x, hx => by
   rw [fl, List.mem_cons] at hx
   rcases hx with rfl | hx
   ·have := (h.2.2.2.2.1 (by simp [hB])).2.1
    have e : tl A [] = [] := by cases A <;> rfl
    simp only [e, List.append_nil]
    omega
   ·exact yN6 h.tail hB x hx
theorem yP2 {cuts : List Int} {i : Nat} {v : FT} (h : v.2 = (v.1.length : Int)) : zHy cuts i v = v := by
 have hs := yBz (cuts := cuts) (i := i) (v := v) (by omega)
 unfold zHy
 rw [show v.2 + zEk cuts i v = (v.1.length : Int) by omega, zJn, List.take_length]
 rw [← h]
theorem ySm {m : FL} {n b : Nat} {A : List Sg} {s : Sg} {G : List SG} (h : Log m n b (A ++ [s]) G) (cuts : List Int) :
 ∃ k p t, k ≤ s.1.length ∧ s.2 ≤ p ∧ zNf cuts (fl n b (A ++ [s]) []) = fl n b (A ++ [(s.1.take k, p)]) t ∧ yDo t ∧ (t ≠ [] → k < s.1.length) ∧ (enc (b + cnt A) (s.1.take k)).length ≤ p ∧ (∀ j, j ≤ s.1.length → (enc (b + cnt A) (s.1.take j)).length ≤ s.2 → j ≤ k) := by
 obtain ⟨p1, p2, p3, p4, p5, p6, p7, p8⟩ := h.parts
 have hs := yBz (cuts := cuts) (i := A.length) (v := ((enc (b + cnt A) s.1, (s.2 : Int)) : FT)) (by show (s.2 : Int) ≤ ((enc (b + cnt A) s.1).length : Int); omega)
 obtain ⟨q, hq⟩ : ∃ q : Nat, (s.2 : Int) + zEk cuts A.length (enc (b + cnt A) s.1, (s.2 : Int)) = (q : Int) := ⟨((s.2 : Int) + zEk cuts A.length (enc (b + cnt A) s.1, (s.2 : Int))).toNat, by simp only at hs; omega⟩
 simp only at hs
 have hql : q ≤ (enc (b + cnt A) s.1).length := by omega
 obtain ⟨k, t, hk, he, hb, hm⟩ := yIm (b + cnt A) s.1 q p3 hql
 have hlen := congrArg List.length he
 rw [List.length_take, List.length_append, Nat.min_eq_left hql] at hlen
 have hbyte : ∀ x ∈ t, yQ x := fun x hx => yDr p3 x (List.mem_of_mem_take (by rw [he]; exact List.mem_append_right _ hx))
 refine ⟨k, q, t, hk, by omega, ?_, ⟨hb, hbyte, by omega⟩, fun ht => ?_, by omega, fun j hj hjs => hm j hj (by omega)⟩
 ·have hl1 := zI5 n b (A ++ [s]) []
  refine List.ext_getElem (by rw [zRy, zI5, zI5, List.length_append, List.length_append]; rfl) fun i h1 h2 => ?_
  rw [zRy] at h1
  rw [yGe h1]
  have hA : (fl n b A []).length = A.length := zI5 n b A []
  by_cases hi : i < A.length
  ·have e1 : (fl n b (A ++ [s]) [])[i] = (fl n b A [])[i]'(by omega) := by
    simp only [zJr]
    rw [List.getElem_append_left (by omega)]
   have e2 : (fl n b (A ++ [(s.1.take k, q)]) t)[i] = (fl n b A [])[i]'(by omega) := by
    simp only [zR3]
    rw [List.getElem_append_left (by omega)]
   rw [e1, e2, yP2 (yN6 h.fine (by simp) _ (List.getElem_mem _))]
  ·have hi2 : i = A.length := by
    rw [zI5, List.length_append, List.length_singleton] at h1
    omega
   have e1 : (fl n b (A ++ [s]) [])[i] = (nm (n + A.length), (enc (b + cnt A) s.1, (s.2 : Int))) := by
    simp only [zJr]
    rw [List.getElem_append_right (by omega)]
    simp [hA, hi2]
   have e2 : (fl n b (A ++ [(s.1.take k, q)]) t)[i] = (nm (n + A.length), (enc (b + cnt A) (s.1.take k) ++ t, (q : Int))) := by
    simp only [zR3]
    rw [List.getElem_append_right (by omega)]
    simp [hA, hi2]
   rw [e1, e2, hi2]
   unfold zHy
   simp only
   rw [hq, zJn, he]
 ·by_cases hkk : k < s.1.length
  ·exact hkk
  ·rw [List.take_of_length_le (by omega)] at hlen
   have := List.length_pos_iff.2 ht
   omega
theorem ySg {m m' : FL} {n b : Nat} {A : List Sg} {s : Sg} {G : List SG} (h : Log m n b (A ++ [s]) G) (cuts : List Int) (hm : St m' (zNf cuts (fl n b (A ++ [s]) []))) :
 ∃ k m2 G2, k ≤ s.1.length ∧ zBp m' = some ((some ((), G2)), 0, m2) ∧ Log m2 n b (A ++ [(s.1.take k, (enc (b + cnt A) (s.1.take k)).length)]) G2 ∧ (∀ j, j ≤ s.1.length → (enc (b + cnt A) (s.1.take j)).length ≤ s.2 → j ≤ k) := by
 obtain ⟨p1, p2, p3, p4, p5, p6, p7, p8⟩ := h.parts
 obtain ⟨k, p, t, hk, hp, e, ht, htk, hep, hmax⟩ := ySm h cuts
 rw [e] at hm
 have hle := zKu (b + cnt A) s.1 k
 have hF : wD n b (A ++ [(s.1.take k, p)]) := by
  have := wD.change (s' := (s.1.take k, 0)) h.fine (p3.take k) (by show (enc (b + cnt A) (s.1.take k)).length ≤ 9000; omega) (Nat.zero_le _)
  exact wD.safe this
 have hr := h.fine.range
 obtain ⟨m2, G2, e2, hL⟩ := yTw hm hF ht (fun h0 => by
  have := htk h0
  rcases hr with hr | hr
  ·simp at hr
  ·rw [zLb] at hr ⊢
   simp only [List.length_take]
   omega)
 refine ⟨k, m2, G2, hk, e2, ?_, hmax⟩
 simp only at hL
 rw [Nat.min_eq_right hep] at hL
 exact hL
theorem yS7 {l : List (Int × Int × Bool × List Int × List Int)} (hl : l.length ≤ 1048576) : ∃ l', zI8 l = some l' ∧ (∀ a ∈ l', a ∈ l) ∧ l'.length ≤ 1048576 := by
 have key := zXf (S := Int) l.length (fun i s => zFc l s (i : Int)) (fun i s => True) (fun r => ∃ l', (r = some (.inl l') ∨ r = some (.inr l')) ∧ (∀ a ∈ l', a ∈ l) ∧ l'.length ≤ 1048576)
  (fun i s hi hs => by
   try dsimp only
   have hc : ∀ k : Nat, cut l 0 (k : Int) = l.take k := fun k => zJn l k
   have hpre : ∃ l', (some (.inr (l.take i)) : Option (List (Int × Int × Bool × List Int × List Int) ⊕ List (Int × Int × Bool × List Int × List Int))) = some (.inr l') ∧ (∀ a ∈ l', a ∈ l) ∧ l'.length ≤ 1048576 := ⟨_, rfl, fun a ha => List.mem_of_mem_take ha, by rw [List.length_take]; omega⟩
   rw [zRh, decide_eq_true (by omega : (i : Int) < (l.length : Int)), zGj hi, decide_eq_true (by omega : (0 : Int) ≤ (i : Int)), decide_eq_true (by omega : (i : Int) ≤ (l.length : Int)), hc, jN (by omega)]
   simp only [cond_true, Bool.and_self, Option.bind_some]
   cases decide (IntKind.wrap .i64 (s + ((l[i].2.2.2.1.length : Nat) : Int)) > 40000) with
   | true =>
     obtain ⟨l', e, h2⟩ := hpre
     exact .inr ⟨l', .inr e, h2⟩
   | false =>
     cases decide ((i : Int) ≥ 80) with
     | true =>
       obtain ⟨l', e, h2⟩ := hpre
       exact .inr ⟨l', .inr e, h2⟩
     | false => exact .inl ⟨_, rfl, trivial⟩)
  (fun s hs => by
   try dsimp only
   refine ⟨l, .inl ?_, fun a ha => ha, hl⟩
   rw [zRh, decide_eq_false (by omega : ¬ (l.length : Int) < (l.length : Int))]
   rfl) 0 0 (Nat.zero_le _) trivial
 obtain ⟨l', h1, h2⟩ := key
 simp only [show ((0 : Nat) : Int) = 0 from rfl] at h1
 refine ⟨l', ?_, h2⟩
 unfold zI8
 rcases h1 with e | e
 ·rw [e]; rfl
 ·rw [e]; rfl
theorem yNx {m : FL} {n b : Nat} {S : List Sg} {G : List SG} {d : List Int} {i : Int} (h : Log m n b S G) (hi : i ≠ 0) (hd : 4096 < d.length) : xJ (m, G) (i, d) = some (3, (m, G)) := by
 have hlast := zR1 h.fine h.gr h.len
 have i0 : (i == 0) = false := by rw [beq_eq_false_iff_ne]; exact hi
 unfold xJ vB
 simp only
 rw [hlast]
 simp only [Option.bind_some, Bool.not_true, Bool.not_false, cond_false, i0]
 rw [decide_eq_true (by omega : (d.length : Int) > 4096), cond_true]
end Go.Proofs.YtlhifcknhgmidaaGreatDoor.gg
