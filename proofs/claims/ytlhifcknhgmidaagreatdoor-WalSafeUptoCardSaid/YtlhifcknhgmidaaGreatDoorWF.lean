/- A part of our own proof. -/
import Derived.Test.YtlhifcknhgmidaaGreatDoorWE
open Go Go.GG Go.Proofs
set_option linter.unusedVariables false
namespace Go.Proofs.YtlhifcknhgmidaaGreatDoor.gg
theorem zJr (n b : Nat) (A : List Sg) (s : Sg) : fl n b (A ++ [s]) [] = fl n b A [] ++ [(nm (n + A.length), (enc (b + cnt A) s.1, (s.2 : Int)))] := by
 rw [zR3, List.append_nil]
theorem yKi : ∀ (n b : Nat) (A B : List Sg), xN n b (A ++ B) = xN n b A ++ xN (n + A.length) (b + cnt A) B
 | n, b, [], B => rfl
 | n, b, a :: A, B => by
   rw [List.cons_append, xN, xN, yKi (n + 1) _ A B, List.length_cons, cnt, List.cons_append, show n + 1 + A.length = n + (A.length + 1) by omega, Nat.add_assoc b]
theorem yUu (n b : Nat) (A B : List Sg) (s : Sg) : (xN n b (A ++ s :: B))[A.length]? = some (((n + A.length : Nat) : Int), kW (b + cnt A) s.1, xE (b + cnt A) 0 s.1, s.1) := by
 rw [yKi, List.getElem?_append_right (by rw [zAr]; omega), zAr, Nat.sub_self]
 rfl
theorem GR.at {n b : Nat} {A B : List Sg} {s : Sg} {G : List SG} (h : GR n b (A ++ s :: B) G) : ∃ f, G[A.length]? = some (((n + A.length : Nat) : Int), f, xE (b + cnt A) 0 s.1, s.1) ∧ (s.1 ≠ [] → f = ((b + cnt A : Nat) : Int)) := by
 rcases h with ⟨e, _⟩ | ⟨A0, s0, f, e, rfl, hf⟩
 ·simp at e
 ·rcases List.eq_nil_or_concat B with rfl | ⟨B', z, rfl⟩
  ·obtain ⟨rfl, e2⟩ := List.append_inj' e rfl
   cases e2
   refine ⟨f, ?_, hf⟩
   rw [List.getElem?_append_right (by rw [zAr]; omega), zAr, Nat.sub_self]
   rfl
  ·rw [List.concat_eq_append, ← List.cons_append, ← List.append_assoc] at e
   obtain ⟨rfl, e2⟩ := List.append_inj' e rfl
   refine ⟨kW (b + cnt A) s.1, ?_, fun hs => ?_⟩
   ·rw [List.getElem?_append_left (by rw [zAr, List.length_append, List.length_cons]; omega), yUu]
   ·cases hq : s.1 with
    | nil => exact absurd hq hs
    | cons _ _ => rfl
structure Log (m : FL) (n b : Nat) (S : List Sg) (G : List SG) : Prop where
 st : St m (fl n b S [])
 fine : wD n b S
 gr : GR n b S G
theorem Log.len {m : FL} {n b : Nat} {S : List Sg} {G : List SG} (h : Log m n b S G) : S.length ≤ 64 := by
 have := h.st.len
 rwa [zI5] at this
theorem Log.glen {m : FL} {n b : Nat} {S : List Sg} {G : List SG} (h : Log m n b S G) : G.length ≤ 64 := by
 rw [h.gr.len]; exact h.len
theorem Log.last {m : FL} {n b : Nat} {A : List Sg} {s : Sg} {G : List SG} (h : Log m n b (A ++ [s]) G) : ∃ f, G = xN n b A ++ [(((n + A.length : Nat) : Int), f, xE (b + cnt A) 0 s.1, s.1)] ∧ (s.1 ≠ [] → f = ((b + cnt A : Nat) : Int)) := by
 rcases h.gr with ⟨e, _⟩ | ⟨A0, s0, f, e, rfl, hf⟩
 ·simp at e
 ·obtain ⟨rfl, e2⟩ := List.append_inj' e rfl
  cases e2
  exact ⟨f, rfl, hf⟩
theorem Log.parts {m : FL} {n b : Nat} {A : List Sg} {s : Sg} {G : List SG} (h : Log m n b (A ++ [s]) G) : wD n b A ∧ (1 ≤ n + A.length ∧ n + A.length ≤ 99999999) ∧ GOk (b + cnt A) s.1 ∧ (enc (b + cnt A) s.1).length ≤ 9000 ∧ b + cnt A < 18446744073709551616 ∧ s.2 ≤ (enc (b + cnt A) s.1).length ∧ 1 ≤ n ∧ 1 ≤ b := by
 obtain ⟨h1, _, h3⟩ := wD.app h.fine (by simp)
 have hr := h.fine.range
 rcases hr with hr | hr
 ·simp at hr
 ·have hm := h.st.ok (nm (n + A.length), (enc (b + cnt A) s.1, (s.2 : Int))) (by rw [zJr]; simp)
  have h4 : (s.2 : Int) ≤ ((enc (b + cnt A) s.1).length : Int) := hm.2.2.2
  exact ⟨h1, h3.1, h3.2.1, h3.2.2.1.1, h3.2.2.1.2, by omega, hr.1, hr.2.1⟩
theorem wD.change : ∀ {n b : Nat} {A : List Sg} {s s' : Sg}, wD n b (A ++ [s]) → GOk (b + cnt A) s'.1 → (enc (b + cnt A) s'.1).length ≤ 9000 → s'.2 ≤ (enc (b + cnt A) s'.1).length → wD n b (A ++ [s'])
 | n, b, [], s, s', h, h1, h2, h3 => ⟨h.1, by simpa [cnt] using h1, ⟨by simpa [cnt] using h2, h.2.2.1.2⟩, Nat.zero_le _, fun e => absurd rfl e, trivial⟩
 | n, b, a :: A, s, s', h, h1, h2, h3 => by
   rw [cnt, ← Nat.add_assoc] at h1 h2 h3
   exact ⟨h.1, h.2.1, h.2.2.1, h.2.2.2.1, fun _ => h.2.2.2.2.1 (by simp), wD.change h.2.2.2.2.2 h1 h2 h3⟩
theorem wD.safe : ∀ {n b p q : Nat} {A : List Sg} {R : List (List Int)}, wD n b (A ++ [(R, q)]) → wD n b (A ++ [(R, p)])
 | n, b, p, q, [], R, h => ⟨h.1, h.2.1, h.2.2.1, Nat.zero_le _, fun e => absurd rfl e, trivial⟩
 | n, b, p, q, a :: A, R, h => ⟨h.1, h.2.1, h.2.2.1, h.2.2.2.1, fun _ => h.2.2.2.2.1 (by simp), wD.safe h.2.2.2.2.2⟩
theorem wD.push : ∀ {n b : Nat} {A : List Sg} {s s' : Sg}, wD n b (A ++ [s]) → 4096 < (enc (b + cnt A) s.1).length → s.2 = (enc (b + cnt A) s.1).length → b + cnt A + s.1.length < 18446744073709551616 → n + A.length + 1 ≤ 99999999 → GOk (b + cnt A + s.1.length) s'.1 → (enc (b + cnt A + s.1.length) s'.1).length ≤ 9000 → s'.2 ≤ (enc (b + cnt A + s.1.length) s'.1).length → wD n b (A ++ [s] ++ [s'])
 | n, b, [], s, s', h, h1, h2, h3, h4, h5, h6, h7 => by
   simp only [cnt, Nat.add_zero, List.length_nil] at h1 h2 h3 h4 h5 h6 h7
   exact ⟨h.1, h.2.1, h.2.2.1, h.2.2.2.1, fun _ => ⟨h1, h2, h3⟩, ⟨by omega, by omega⟩, h5, ⟨h6, h3⟩, Nat.zero_le _, fun e => absurd rfl e, trivial⟩
 | n, b, a :: A, s, s', h, h1, h2, h3, h4, h5, h6, h7 => by
   rw [cnt, ← Nat.add_assoc] at h1 h2 h3 h5 h6 h7
   rw [List.length_cons] at h4
   exact ⟨h.1, h.2.1, h.2.2.1, h.2.2.2.1, fun _ => h.2.2.2.2.1 (by simp), wD.push h.2.2.2.2.2 h1 h2 h3 (by omega) h5 h6 h7⟩
def vP : List Sg → List (List Int)
 | [] => []
 | s :: r => s.1 ++ vP r
theorem zG4 : ∀ S, (vP S).length = cnt S
 | [] => rfl
 | s :: r => by rw [vP, List.length_append, zG4, cnt]
theorem zAp : ∀ A B, vP (A ++ B) = vP A ++ vP B
 | [], B => rfl
 | s :: A, B => by rw [List.cons_append, vP, vP, zAp A B, List.append_assoc]
theorem wD.rowOk : ∀ {n b : Nat} {S : List Sg}, wD n b S → ∀ d ∈ vP S, ROk d
 | n, b, [], _, d, hd => by simp [vP] at hd
 | n, b, s :: r, h, d, hd => by
   rw [vP, List.mem_append] at hd
   rcases hd with hd | hd
   ·exact h.2.1.ok d hd
   ·exact wD.rowOk h.tail d hd
theorem yVx {m : FL} {n b : Nat} {S : List Sg} {G : List SG} (h : Log m n b S G) {i : Nat} (h1 : b ≤ i) (h2 : i < b + cnt S) : zCl (true, G.map some) (i : Int) = some (nth (vP S) (i - b) [], true) := by
 have hl := h.len
 have hgl := h.glen
 have hr := h.fine.range
 have hi : i < 18446744073709551616 := by
  rcases hr with rfl | hr
  ·simp [cnt] at h2; omega
  ·omega
 have hrow := h.fine.rowOk
 unfold zCl
 rw [yEb G (by omega), h.gr.find, zTo i h.fine hi]
 cases e : zEc b S i with
 | none => have := zWu e; omega
 | some k =>
   obtain ⟨A, s, B, rfl, rfl, q1, q2⟩ := zRl e
   obtain ⟨f, hf, hff⟩ := h.gr.at
   have hk : A.length < G.length := by
    rw [h.gr.len, List.length_append, List.length_cons]; omega
   have hs : s.1 ≠ [] := by
    intro e
    rw [e, List.length_nil] at q2; omega
   rw [List.getElem?_eq_getElem hk, Option.some.injEq] at hf
   simp only [Option.bind_some]
   rw [decide_eq_false (by omega : ¬ (A.length : Int) < 0), zGj (by rw [List.length_map]; exact hk), List.getElem_map, hf, hff hs]
   simp only [cond_false, Option.bind_some]
   rw [zHw (by omega) (by omega), show (i : Int) - ((b + cnt A : Nat) : Int) = ((i - (b + cnt A) : Nat) : Int) by omega, zGj (by omega : i - (b + cnt A) < s.1.length)]
   simp only [Option.bind_some]
   have hmem : s.1[i - (b + cnt A)]'(by omega) ∈ vP (A ++ s :: B) := by
    rw [zAp, vP]
    simp
   have hlen := (hrow _ hmem).len
   rw [zJb (by omega)]
   simp only [Option.bind_some, Option.some.injEq, Prod.mk.injEq, and_true]
   have hbl := zG4 (A ++ s :: B)
   rw [zVk (by omega)]
   have hA := zG4 A
   have e2 : i - b = (vP A).length + (i - (b + cnt A)) := by omega
   have : ∀ (x : List (List Int)) (j : Nat) (hj : j < x.length), x = vP A ++ (s.1 ++ vP B) → j = (vP A).length + (i - (b + cnt A)) → x[j] = s.1[i - (b + cnt A)]'(by omega) := by
    rintro x j hj rfl rfl
    rw [List.getElem_append_right (by omega)]
    simp only [Nat.add_sub_cancel_left]
    rw [List.getElem_append_left (by omega)]
   rw [this (vP (A ++ s :: B)) (i - b) (by omega) (by rw [zAp, vP]) e2]
theorem yUw {m : FL} {n b : Nat} {S : List Sg} {G : List SG} (h : Log m n b S G) {i : Nat} (hi : i < 18446744073709551616) (h1 : i < b ∨ b + cnt S ≤ i) : zCl (true, G.map some) (i : Int) = some ([], false) := by
 have hl := h.len
 have hgl := h.glen
 unfold zCl
 rw [yEb G (by omega), h.gr.find, zTo i h.fine hi, yQ4 h1]
 rfl
theorem zO5 (k : Nat) : Nat.beq (k + 1) 0 = false := rfl
theorem zLf {α : Type} (l : List α) (x y : α) : (l ++ [x]).set l.length y = l ++ [y] := by simp
theorem zOq {α : Type} (l : List α) (x : α) : (l ++ [x])[l.length]? = some x := by simp
theorem zWa {a f : Int} {i : Nat} {R Y : List (List Int)} (h : R.length ≤ 10000) : yO (a, f, xE i 0 R, Y) = some ((enc i R).length : Int) := by
 unfold yO
 simp only [kV]
 by_cases h0 : R = []
 ·subst h0; rfl
 ·have hp := List.length_pos_iff.2 h0
  have : ((R.length : Int) == 0) = false := by rw [beq_eq_false_iff_ne]; omega
  rw [this, show IntKind.wrap .i64 ((R.length : Int) - 1) = ((R.length - 1 : Nat) : Int) by rw [wY (by omega) (by omega)]; omega]
  simp only [cond_false]
  rw [yT4 (by rw [kV]; omega) 0, yTk hp]
  rfl
theorem yRt {m : FL} : zC0 (m, []) = some (m, []) := rfl
theorem Log.synced {m m' : FL} {n b : Nat} {A : List Sg} {s : Sg} {G : List SG} (h : Log m n b (A ++ [s]) G) (hm : St m' (zPj (fl n b (A ++ [s]) []) (nm (n + A.length))).1) : Log m' n b (A ++ [(s.1, (enc (b + cnt A) s.1).length)]) G ∧ (zPj (fl n b (A ++ [s]) []) (nm (n + A.length))) = (fl n b (A ++ [(s.1, (enc (b + cnt A) s.1).length)]) [], 0) := by
 obtain ⟨p1, p2, p3, p4, p5, p6, _⟩ := h.parts
 have hst := h.st
 rw [zJr] at hst
 have e : (zPj (fl n b (A ++ [s]) []) (nm (n + A.length))) = (fl n b (A ++ [(s.1, (enc (b + cnt A) s.1).length)]) [], 0) := by
  unfold zPj
  rw [zJr, zTi hst.rel.srt]
  simp only
  rw [yDt hst.rel, zJr]
 refine ⟨⟨by rw [e] at hm; exact hm, wD.change h.fine p3 p4 (Nat.le_refl _), ?_⟩, e⟩
 obtain ⟨f, eg, hf⟩ := h.last
 exact .inr ⟨A, _, f, rfl, eg, hf⟩
theorem yTo {m : FL} {n b : Nat} {A : List Sg} {s : Sg} {G : List SG} (h : Log m n b (A ++ [s]) G) : ∃ m', zC0 (m, G) = some (m', G) ∧ Log m' n b (A ++ [(s.1, (enc (b + cnt A) s.1).length)]) G := by
 obtain ⟨p1, p2, p3, p4, p5, p6, _⟩ := h.parts
 have hgl := h.glen
 obtain ⟨f, eg, hf⟩ := h.last
 obtain ⟨m', e, hm⟩ := yB1 h.st (nm (n + A.length))
 refine ⟨m', ?_, (h.synced hm).1⟩
 unfold zC0 vB
 have gl : G.length = (xN n b A).length + 1 := by rw [eg]; simp
 have ga : G[(xN n b A).length]? = some (((n + A.length : Nat) : Int), f, xE (b + cnt A) 0 s.1, s.1) := by rw [eg, zOq]
 have gs : G.set (xN n b A).length (((n + A.length : Nat) : Int), f, xE (b + cnt A) 0 s.1, s.1) = G := by rw [eg, zLf]
 simp only [Option.bind_some, Bool.not_true, Bool.not_false, cond_true]
 rw [Nat.ble_eq_true_of_le (by omega : G.length ≤ 4611686018427387904), gl, zO5]
 simp only [Nat.add_sub_cancel, cond_true, cond_false, ga, Option.bind_some, gs]
 rw [zJh (by omega), Option.bind_some, e]
 rfl
end Go.Proofs.YtlhifcknhgmidaaGreatDoor.gg
