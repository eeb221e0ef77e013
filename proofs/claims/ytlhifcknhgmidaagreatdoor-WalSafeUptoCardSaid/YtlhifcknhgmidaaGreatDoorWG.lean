/- A part of our own proof. -/
import Derived.Test.YtlhifcknhgmidaaGreatDoorWF
open Go Go.GG Go.Proofs
set_option linter.unusedVariables false
namespace Go.Proofs.YtlhifcknhgmidaaGreatDoor.gg
theorem zJn {α : Type} (x : List α) (k : Nat) : cut x 0 (k : Int) = x.take k := by simp [cut]
theorem yPn {k : Nat} (h : k ≤ 100000) : IntKind.wrap .i64 (((k + 1 : Nat) : Int) - 1) = (k : Int) := by rw [wY (by omega) (by omega)]; omega
theorem yUa (a b : Nat) : zAv (a : Int) (b : Int) = ((min a b : Nat) : Int) := by
 unfold zAv
 split <;> omega
theorem Log.dropped {m m' : FL} {n b : Nat} {A : List Sg} {s : Sg} {G : List SG} (h : Log m n b (A ++ [s]) G) (hm : St m' (yEg (fl n b (A ++ [s]) []) (nm (n + A.length))).1) : Log m' n b A (xN n b A) ∧ yEg (fl n b (A ++ [s]) []) (nm (n + A.length)) = (fl n b A [], 0) := by
 have hst := h.st
 rw [zJr] at hst
 have e : yEg (fl n b (A ++ [s]) []) (nm (n + A.length)) = (fl n b A [], 0) := by
  unfold yEg
  rw [zJr, zTi hst.rel.srt]
  simp only
  rw [yTa hst.rel.srt]
 rw [e] at hm
 exact ⟨⟨hm, h.parts.1, GR.of_read A⟩, e⟩
theorem zZ1 {m : FL} {n b : Nat} {A : List Sg} {s : Sg} {t : List Int} {R : List (List Int)} (h : St m (fl n b (A ++ [s]) t)) (hl : (enc (b + cnt A) R).length ≤ (enc (b + cnt A) s.1 ++ t).length) (he : (enc (b + cnt A) s.1 ++ t).take (enc (b + cnt A) R).length = enc (b + cnt A) R) :
 yG8 (fl n b (A ++ [s]) t) (nm (n + A.length)) ((enc (b + cnt A) R).length : Int) = (fl n b (A ++ [(R, min s.2 (enc (b + cnt A) R).length)]) [], 0) := by
 have hst := h
 rw [zR3] at hst
 unfold yG8
 rw [zR3, zTi hst.rel.srt]
 simp only
 rw [if_neg (by omega), yDt hst.rel, zJr, zJn, he, yUa]
theorem Log.cut {m m' : FL} {n b : Nat} {A : List Sg} {s : Sg} {t : List Int} {R : List (List Int)} {f : Int} (hF : wD n b (A ++ [s])) (h : St m (fl n b (A ++ [s]) t)) (hl : (enc (b + cnt A) R).length ≤ (enc (b + cnt A) s.1 ++ t).length) (he : (enc (b + cnt A) s.1 ++ t).take (enc (b + cnt A) R).length = enc (b + cnt A) R)
 (hR : GOk (b + cnt A) R) (h9 : (enc (b + cnt A) R).length ≤ 9000) (hm : St m' (yG8 (fl n b (A ++ [s]) t) (nm (n + A.length)) ((enc (b + cnt A) R).length : Int)).1) (hf : R ≠ [] → f = ((b + cnt A : Nat) : Int)) :
 Log m' n b (A ++ [(R, min s.2 (enc (b + cnt A) R).length)]) (xN n b A ++ [(((n + A.length : Nat) : Int), f, xE (b + cnt A) 0 R, R)]) := by
 rw [zZ1 h hl he] at hm
 exact ⟨hm, wD.change hF hR h9 (Nat.min_le_right _ _), .inr ⟨A, _, f, rfl, rfl, hf⟩⟩
theorem yOj {i : Int} {n b : Nat} {A : List Sg} {s : Sg} : ∀ (k : Nat) (B : List Sg) (m : FL) (G : List SG), B.length = k → Log m n b (A ++ s :: B) G →
 ∃ m' G', zBf i (A.length : Int) () () G m = some (i, (A.length : Int), (), (), G', m') ∧ Log m' n b (A ++ [s]) G'
 | 0, B, m, G, hk, h => by
   obtain rfl := List.length_eq_zero_iff.1 hk
   have hl := h.len
   have hg := h.gr.len
   rw [List.length_append, List.length_cons, List.length_nil] at hl hg
   refine ⟨m, G, ?_, h⟩
   rw [zKw, jN (by omega), decide_eq_false (by omega : ¬ (G.length : Int) > ((A.length + 1 : Nat) : Int))]
   rfl
 | k + 1, B, m, G, hk, h => by
   rcases List.eq_nil_or_concat B with rfl | ⟨B', z, rfl⟩
   ·simp at hk
   ·rw [List.concat_eq_append] at *
    have hB : B'.length = k := by simpa using hk
    have e : A ++ s :: (B' ++ [z]) = (A ++ s :: B') ++ [z] := by simp
    rw [e] at h
    obtain ⟨p1, p2, p3, p4, p5, p6, _⟩ := h.parts
    obtain ⟨f, eg, hf⟩ := h.last
    have hl := h.len
    obtain ⟨m1, e1, hm1⟩ := yQo h.st (nm (n + (A ++ s :: B').length))
    obtain ⟨h1, er⟩ := h.dropped hm1
    obtain ⟨m', G', e2, h2⟩ := yOj k B' m1 (xN n b (A ++ s :: B')) hB h1
    refine ⟨m', G', ?_, h2⟩
    have gl : G.length = (xN n b (A ++ s :: B')).length + 1 := by rw [eg]; simp
    have hgl := zAr n b (A ++ s :: B')
    have hl2 : (A ++ s :: B').length ≤ 64 := by rw [List.length_append] at hl; omega
    have hal : A.length + 1 ≤ (A ++ s :: B').length := by simp
    have ga : G[(xN n b (A ++ s :: B')).length]? = some (((n + (A ++ s :: B').length : Nat) : Int), f, xE (b + cnt (A ++ s :: B')) 0 z.1, z.1) := by rw [eg, zOq]
    have gs : G.set (xN n b (A ++ s :: B')).length (((n + (A ++ s :: B').length : Nat) : Int), f, xE (b + cnt (A ++ s :: B')) 0 z.1, z.1) = G := by rw [eg, zLf]
    rw [zKw, jN (by omega), decide_eq_true (by omega : (G.length : Int) > ((A.length + 1 : Nat) : Int)), Nat.ble_eq_true_of_le (by omega : G.length ≤ 4611686018427387904), gl, zO5, yPn (by omega)]
    simp only [Nat.add_sub_cancel, cond_true, cond_false, ga, Option.bind_some, gs]
    rw [zJh (by omega)]
    simp only [Option.bind_some]
    rw [e1]
    simp only [Option.bind_some]
    rw [decide_eq_true (by omega : (0 : Int) ≤ ((xN n b (A ++ s :: B')).length : Int)), decide_eq_true (by omega : ((xN n b (A ++ s :: B')).length : Int) ≤ (G.length : Int)), zJn, eg, List.take_left]
    simp only [Bool.and_self, cond_true]
    exact e2
theorem yPu {m : FL} {n b : Nat} {A B : List Sg} {s : Sg} {G : List SG} (h : Log m n b (A ++ s :: B) G) {i : Nat} (h1 : b + cnt A ≤ i) (h2 : i < b + cnt A + s.1.length) :
 ∃ m' G', zD6 (m, G) (i : Int) = some (0, (m', G')) ∧ Log m' n b (A ++ [(s.1.take (i - (b + cnt A)), min s.2 (enc (b + cnt A) (s.1.take (i - (b + cnt A)))).length)]) G' := by
 have hl := h.len
 have hgl := h.glen
 have hgl2 := h.gr.len
 have hr := h.fine.range
 have hi : i < 18446744073709551616 := by
  rcases hr with hr | hr
  ·simp at hr
  ·rw [zCy, cnt] at hr; omega
 obtain ⟨m1, G1, e1, hL⟩ := yOj (i := (i : Int)) B.length B m G rfl h
 obtain ⟨p1, p2, p3, p4, p5, p6, _⟩ := hL.parts
 obtain ⟨f, eg, hf⟩ := hL.last
 have hs : s.1 ≠ [] := by
  intro e
  rw [e, List.length_nil] at h2; omega
 have ef := hf hs
 subst ef
 have hrl := zQh (b + cnt A) s.1
 have hle := zKu (b + cnt A) s.1 (i - (b + cnt A))
 obtain ⟨m2, e2, hm2⟩ := yQ9 hL.st (nm (n + A.length)) ((enc (b + cnt A) (s.1.take (i - (b + cnt A)))).length : Int)
 have hC := Log.cut (f := ((b + cnt A : Nat) : Int)) (R := s.1.take (i - (b + cnt A))) hL.fine hL.st (by rw [List.append_nil]; exact hle) (by rw [List.append_nil]; exact yOm _ _ _) (p3.take _) (by omega) hm2 (fun _ => rfl)
 have hF := zZ1 (R := s.1.take (i - (b + cnt A))) hL.st (by rw [List.append_nil]; exact hle) (by rw [List.append_nil]; exact yOm _ _ _)
 refine ⟨m2, _, ?_, hC⟩
 have al : A.length ≤ 64 := by rw [List.length_append] at hl; omega
 have g1l : G1.length = A.length + 1 := by rw [eg]; simp [zAr]
 have ga : G1[A.length]? = some (((n + A.length : Nat) : Int), ((b + cnt A : Nat) : Int), xE (b + cnt A) 0 s.1, s.1) := by
  rw [eg]
  have := zOq (xN n b A) (((n + A.length : Nat) : Int), ((b + cnt A : Nat) : Int), xE (b + cnt A) 0 s.1, s.1)
  rwa [zAr] at this
 have gs : ∀ y : SG, G1.set A.length y = xN n b A ++ [y] := by
  intro y
  have := zLf (xN n b A) (((n + A.length : Nat) : Int), ((b + cnt A : Nat) : Int), xE (b + cnt A) 0 s.1, s.1) y
  rw [zAr] at this
  rw [eg, this]
 have ek : IntKind.wrap .i64 (IntKind.wrap .u64 ((i : Int) - ((b + cnt A : Nat) : Int))) = ((i - (b + cnt A) : Nat) : Int) := by
  rw [zHw (by omega) (by omega), wY (by omega) (by omega)]; omega
 unfold zD6 vB
 simp only [Option.bind_some, Bool.not_true, Bool.not_false, cond_false]
 rw [yEb G (by omega), h.gr.find, zTo i h.fine hi, yMt h1 h2]
 simp only [Option.bind_some]
 rw [decide_eq_false (by omega : ¬ (A.length : Int) < 0)]
 simp only [cond_false]
 rw [e1]
 simp only [Option.bind_some, g1l]
 rw [decide_eq_true (by omega : (0 : Int) ≤ (A.length : Int)), decide_eq_true (by omega : (A.length : Int) < ((A.length + 1 : Nat) : Int)), Int.toNat_natCast, ga]
 simp only [Bool.and_self, cond_true, Option.bind_some, ek, kV]
 rw [decide_eq_true (by omega : (0 : Int) ≤ ((i - (b + cnt A) : Nat) : Int)), decide_eq_true (by omega : ((i - (b + cnt A) : Nat) : Int) ≤ (s.1.length : Int)), zJh (by omega), zJn, zJn, ← yRx]
 simp only [Bool.and_self, cond_true, Option.bind_some]
 rw [zWa (by rw [List.length_take]; omega)]
 simp only [Option.bind_some]
 rw [e2, hF]
 simp only [Option.bind_some, gs]
theorem yLf {X α : Type} {f : Nat → α → X → Option X} {xs : List α} {x : X} (h : ∀ i e, xs[i]? = some e → f i e x = some x) : ∀ k, k ≤ xs.length → zIm f xs k x = some x
 | 0, _ => rfl
 | k + 1, hk => by
   unfold zIm
   have e : xs[k]? = some (xs[k]'(by omega)) := List.getElem?_eq_getElem (by omega)
   rw [e, Option.bind_some, h k _ e, Option.bind_some]
   exact yLf h k (by omega)
theorem yEi : ∀ {n b : Nat} {S : List Sg} {t : List Int} {x : FI}, x ∈ fl n b S t → ∃ k, n ≤ k ∧ k < n + S.length ∧ x.1 = nm k
 | n, b, [], t, x, h => by simp [fl] at h
 | n, b, s :: r, t, x, h => by
   rw [fl, List.mem_cons] at h
   rcases h with rfl | h
   ·exact ⟨n, Nat.le_refl _, by simp, rfl⟩
   ·obtain ⟨k, h1, h2, h3⟩ := yEi h
    exact ⟨k, by omega, by rw [List.length_cons]; omega, h3⟩
theorem yOu {n b : Nat} {S : List Sg} {t : List Int} (hF : wD n b S) (hl : S.length ≤ 64) (G : List SG) (last : Int) (m : FL) (hlast : S ≠ [] → last = ((n + S.length - 1 : Nat) : Int)) :
 zEo (fl n b S t) () () G () last m = some (fl n b S t, (), (), G, (), last, m) := by
 unfold zEo
 have hL := zI5 n b S t
 rw [Nat.ble_eq_true_of_le (by omega), cond_true]
 refine yLf (fun i e he => ?_) _ (Nat.le_refl _)
 have hm := List.mem_of_getElem? he
 obtain ⟨k, h1, h2, h3⟩ := yEi hm
 have hS : S ≠ [] := by
  intro e
  subst e
  simp [fl] at hm
 have hr := hF.range.resolve_left hS
 unfold zJp
 rw [h3, yIe (by omega) (by omega), hlast hS]
 simp only [Option.bind_some, cond_true]
 rw [decide_eq_false (by omega : ¬ (k : Int) > ((n + S.length - 1 : Nat) : Int))]
 rfl
theorem yWb (n : Nat) : nm n ≠ [] := by
 intro e
 have := yMz n
 rw [e] at this
 cases this
theorem yVm {n b : Nat} {S : List Sg} {t : List Int} (hF : wD n b S) : zPj (fl n b S t) [] = (fl n b S t, 4) := by
 unfold zPj
 rw [(zHj [] (zTh hF).keyed).2 fun x hx e => by
  obtain ⟨k, _, _, h3⟩ := yEi hx
  rw [h3] at e
  exact yWb k e]
theorem yTw {m : FL} {n b : Nat} {A : List Sg} {s : Sg} {t : List Int} (h : St m (fl n b (A ++ [s]) t)) (hF : wD n b (A ++ [s])) (ht : yDo t) (htop : t ≠ [] → b + cnt (A ++ [s]) < 18446744073709551616) :
 ∃ m' G', zBp m = some ((some ((), G')), 0, m') ∧ Log m' n b (A ++ [(s.1, min s.2 (enc (b + cnt A) s.1).length)]) G' := by
 have hl := h.len
 rw [zI5] at hl
 have hl1 : A.length + 1 ≤ 64 := by rw [List.length_append, List.length_singleton] at hl; exact hl
 obtain ⟨_, _, hFs⟩ := wD.app hF (by simp)
 obtain ⟨q1, q2, q3, q4, _⟩ := hFs
 obtain ⟨m1, e1, hm1⟩ := yB1 h []
 rw [yVm hF] at hm1 e1
 obtain ⟨m2, e2, hm2⟩ := yJ7 hm1
 have hread := yOv hF (by rw [List.length_append, List.length_singleton]; omega) ht (fun e => by simp at e) htop
 obtain ⟨m3, e3, hm3⟩ := yQ9 hm2 (nm (n + A.length)) ((enc (b + cnt A) s.1).length : Int)
 have hle : (enc (b + cnt A) s.1).length ≤ (enc (b + cnt A) s.1 ++ t).length := by rw [List.length_append]; omega
 have hC := Log.cut (f := kW (b + cnt A) s.1) (R := s.1) hF hm2 hle List.take_left q2 q3.1 hm3 (fun hs => by
  cases hq : s.1 with
  | nil => exact absurd hq hs
  | cons _ _ => rfl)
 refine ⟨m3, _, ?_, hC⟩
 rw [zZ1 hm2 hle List.take_left] at e3
 have hrl := zQh (b + cnt A) s.1
 have gl : (xN n b A ++ [(((n + A.length : Nat) : Int), kW (b + cnt A) s.1, xE (b + cnt A) 0 s.1, s.1)]).length = A.length + 1 := by simp [zAr]
 have ga : (xN n b A ++ [(((n + A.length : Nat) : Int), kW (b + cnt A) s.1, xE (b + cnt A) 0 s.1, s.1)])[A.length]? = some (((n + A.length : Nat) : Int), kW (b + cnt A) s.1, xE (b + cnt A) 0 s.1, s.1) := by
  have := zOq (xN n b A) (((n + A.length : Nat) : Int), kW (b + cnt A) s.1, xE (b + cnt A) 0 s.1, s.1)
  rwa [zAr] at this
 have gs : (xN n b A ++ [(((n + A.length : Nat) : Int), kW (b + cnt A) s.1, xE (b + cnt A) 0 s.1, s.1)]).set A.length (((n + A.length : Nat) : Int), kW (b + cnt A) s.1, xE (b + cnt A) 0 s.1, s.1) = xN n b A ++ [(((n + A.length : Nat) : Int), kW (b + cnt A) s.1, xE (b + cnt A) 0 s.1, s.1)] := by
  have := zLf (xN n b A) (((n + A.length : Nat) : Int), kW (b + cnt A) s.1, xE (b + cnt A) 0 s.1, s.1) (((n + A.length : Nat) : Int), kW (b + cnt A) s.1, xE (b + cnt A) 0 s.1, s.1)
  rwa [zAr] at this
 rw [zIq] at hread
 have hback := yOu (t := t) hF (by rw [List.length_append, List.length_singleton]; omega) (xN n b A ++ [(((n + A.length : Nat) : Int), kW (b + cnt A) s.1, xE (b + cnt A) 0 s.1, s.1)]) ((n + A.length : Nat) : Int) m2 (fun _ => by rw [List.length_append, List.length_singleton]; congr 1)
 unfold zBp zHv
 rw [e1]
 simp only [Option.bind_some]
 rw [show ((4 : Int) == 1) = false from rfl]
 simp only [cond_false]
 rw [e2]
 simp only [Option.bind_some]
 rw [hread]
 simp only [Option.bind_some]
 generalize (xN n b A ++ [(((n + A.length : Nat) : Int), kW (b + cnt A) s.1, xE (b + cnt A) 0 s.1, s.1)]) = G at *
 rw [gl, yPn (by omega), decide_eq_true (by omega : ((A.length + 1 : Nat) : Int) > 0), decide_eq_true (by omega : (0 : Int) ≤ (A.length : Int)), decide_eq_true (by omega : (A.length : Int) < ((A.length + 1 : Nat) : Int)), Int.toNat_natCast, ga]
 simp only [Bool.and_self, cond_true, Option.bind_some, gs]
 rw [hback]
 simp only [Option.bind_some]
 rw [gl, yPn (by omega), decide_eq_true (by omega : ((A.length + 1 : Nat) : Int) > 0), decide_eq_true (by omega : (0 : Int) ≤ (A.length : Int)), decide_eq_true (by omega : (A.length : Int) < ((A.length + 1 : Nat) : Int)), Int.toNat_natCast, ga]
 simp only [Bool.and_self, cond_true, Option.bind_some, gs]
 rw [zJh (by omega)]
 simp only [Option.bind_some]
 rw [zWa (by omega)]
 simp only [Option.bind_some]
 rw [e3]
 rfl
theorem yH0 {m : FL} (h : St m []) : ∃ m', zBp m = some ((some ((), [])), 0, m') ∧ St m' [] := by
 obtain ⟨m1, e1, hm1⟩ := yB1 h []
 have en : zPj [] [] = ([], 4) := rfl
 rw [en] at hm1 e1
 obtain ⟨m2, e2, hm2⟩ := yJ7 hm1
 refine ⟨m2, ?_, hm2⟩
 have hread := yOv (n := 1) (b := 1) (S := []) (t := []) trivial (by simp) yMf (fun _ => rfl) (fun e => absurd rfl e)
 have hback := yOu (n := 1) (b := 1) (S := []) (t := []) trivial (by simp) [] 0 m2 (fun e => absurd rfl e)
 unfold zBp zHv
 rw [e1]
 simp only [Option.bind_some]
 rw [show ((4 : Int) == 1) = false from rfl]
 simp only [cond_false]
 rw [e2]
 simp only [Option.bind_some]
 have hread : zLz [] = some ([], true) := hread
 have hback : zEo [] () () [] () 0 m2 = some ([], (), (), [], (), 0, m2) := hback
 rw [hread]
 simp only [Option.bind_some]
 have : decide (((([] : List SG).length : Nat) : Int) > 0) = false := rfl
 rw [this]
 simp only [cond_false]
 rw [hback]
 rfl
end Go.Proofs.YtlhifcknhgmidaaGreatDoor.gg
