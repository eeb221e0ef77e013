/- A part of our own proof. -/
import Derived.Test.YtlhifcknhgmidaaGreatDoorFA
import Derived.Test.YtlhifcknhgmidaaGreatDoorK6
open Go Go.GG
set_option linter.unusedVariables false
namespace Go.Proofs.YtlhifcknhgmidaaGreatDoor.gg
def yFq (b : List Int) : Bool := decide (b.length ≤ 2) && b.all fun c => decide (128 ≤ c)
def zTn (b : List Int) : Int × List Int × Int × Int := match zAt 0 0 b with
 | none => (0, [], 0, bif yFq b then 12 else 5)
 | some (v, c) => if v < 5 ∨ 1048576 < v then (0, [], 0, 5) else if b.length - c < v then (0, [], 0, 12) else
  if zEh (((b.drop c).take v).drop 4) = (b.drop c).take v then (nth ((b.drop c).take v) 4 0, ((b.drop c).take v).drop 5, ((c + v : Nat) : Int), 0) else (0, [], 0, 5)
theorem yPx {a b : List Int} (ha : ∀ x ∈ a, yQ x) (hb : ∀ x ∈ b, yQ x) : (wW a == wW b) = decide (a = b) := by
 rw [Bool.eq_iff_iff, yNw ha hb, decide_eq_true_eq]
theorem yUm (b : List Int) (c v : Nat) : cut b (c : Int) ((c + v : Nat) : Int) = (b.drop c).take v := by
 simp only [cut, Int.toNat_natCast]
 rw [List.drop_take]
 congr 1
 omega
theorem yN9 {a k : Nat} {c : Int} (ha : a < 128 ^ k) (hk : k ≤ 2) (hc : yQ c) :
 yD .or .i64 (a : Int) (kU .i64 (IntKind.wrap .i64 (yD .and .u8 c 127)) (IntKind.wrap .i64 (7 * (k : Int)))) = ((a + c.toNat % 128 * 128 ^ k : Nat) : Int) := by
 obtain ⟨h0, h1⟩ := hc
 rw [yQs ⟨h0, h1⟩, wY (by omega) (by omega), wY (by omega) (by omega)]
 have e1 : c % 128 = ((c.toNat % 128 : Nat) : Int) := by omega
 rw [e1]
 have hd : c.toNat % 128 < 128 := Nat.mod_lt _ (by decide)
 generalize c.toNat % 128 = d at hd ⊢
 have e7 : (128 ^ k : Nat) = 2 ^ (7 * k) := by rw [Nat.pow_mul]
 have p2 : 128 ^ k ≤ (128 ^ 2 : Nat) := Nat.pow_le_pow_right (by decide) hk
 have hpp : 0 < (128 ^ k : Nat) := Nat.pow_pos (by decide)
 have hlt : d * 128 ^ k ≤ 127 * 128 ^ 2 := Nat.mul_le_mul (by omega) p2
 have s1 : kU .i64 (d : Int) (7 * (k : Int)) = ((d * 128 ^ k : Nat) : Int) := by
  unfold kU
  have h0 : min (7 * (k : Int)).toNat IntKind.i64.bits = 7 * k := by
   have : IntKind.i64.bits = 64 := rfl
   rw [this]; omega
  rw [h0]
  have : ((d : Int) * 2 ^ (7 * k)) = ((d * 128 ^ k : Nat) : Int) := by rw [e7]; simp
  rw [this, wY (by omega) (by omega)]
 rw [s1]
 have b1 : (BitVec.ofInt IntKind.i64.bits (a : Int)).toNat = a := by
  rw [show IntKind.i64.bits = 64 from rfl, BitVec.toNat_ofInt]; omega
 have b2 : (BitVec.ofInt IntKind.i64.bits ((d * 128 ^ k : Nat) : Int)).toNat = d * 128 ^ k := by
  rw [show IntKind.i64.bits = 64 from rfl, BitVec.toNat_ofInt]; omega
 show IntKind.wrap .i64 (((BitVec.ofInt IntKind.i64.bits (a : Int) ||| BitVec.ofInt IntKind.i64.bits ((d * 128 ^ k : Nat) : Int)).toNat : Nat) : Int) = _
 rw [BitVec.toNat_or, b1, b2]
 have : a ||| d * 128 ^ k = a + d * 128 ^ k := by
  rw [e7] at ha ⊢
  rw [Nat.or_comm, Nat.mul_comm, ← Nat.two_pow_add_eq_or_of_lt ha]; omega
 rw [this, wY (by omega) (by omega)]
def yP6 (b : List Int) : Int × Int × Int := match zAt 0 0 b with
 | none => (0, 0, bif yFq b then 12 else 5)
 | some (v, c) => if v < 5 ∨ 1048576 < v then (0, 0, 5) else ((v : Int), (c : Int), 0)
def yJw : ((List Int) × Int × Int) ⊕ (Int × Int × Int) → Option (Int × Int × Int) := fun o2 => Sum.elim (fun a3 => (bif (a3.2.2 == 0) then (bif (decide (((a3.1).length : Int) < 3)) then some (0, 0, 12) else (bif (a3.2.2 == 0) then some (0, 0, 5) else (bif (decide (a3.2.1 < 5)) then some (0, 0, 5) else (bif (decide (a3.2.1 > 1048576)) then some (0, 0, 5) else some (a3.2.1, a3.2.2, 0))))) else (bif (a3.2.2 == 0) then some (0, 0, 5) else (bif (decide (a3.2.1 < 5)) then some (0, 0, 5) else (bif (decide (a3.2.1 > 1048576)) then some (0, 0, 5) else some (a3.2.1, a3.2.2, 0)))))) (fun b4 => some b4) o2
theorem ySt {s : List Int} {a v c : Nat} (hb : ∀ x ∈ s, yQ x) (h : zAt 3 a s = some (v, c)) : 1048576 < v := by
 obtain ⟨m, h1, _, h3, _, _⟩ := yEw s 3 a v c (by omega) hb h
 have := h3 (by omega)
 have : 1 * 128 ^ 3 ≤ m * 128 ^ 3 := Nat.mul_le_mul_right _ this
 omega
theorem yIs {b : List Int} (hl : b.length ≤ 1000000000000) (hb : ∀ x ∈ b, yQ x) : ∀ (m i a : Nat) (s : List Int), i + m = 3 → i ≤ b.length → b.drop i = s → a < 128 ^ i →
 (kK b (a : Int) 0 b (b.length : Int) (i : Int)).bind yJw = some (match zAt i a s with
  | none => (0, 0, bif decide (b.length ≤ 2) && s.all (fun c => decide (128 ≤ c)) then 12 else 5)
  | some (v, c) => if v < 5 ∨ 1048576 < v then (0, 0, 5) else ((v : Int), (c : Int), 0))
 | m, i, a, [], hi, hib, hs, ha => by
   have hlen : b.length = i := by
    have := congrArg List.length hs
    simp at this; omega
   rw [zK9, decide_eq_false (by omega : ¬ (i : Int) < (b.length : Int))]
   simp only [cond_false, Option.bind_some, yJw, Sum.elim_inl, zAt]
   by_cases h3 : b.length ≤ 2
   ·rw [decide_eq_true h3, decide_eq_true (by omega : (b.length : Int) < 3)]; rfl
   ·rw [decide_eq_false h3, decide_eq_false (by omega : ¬ (b.length : Int) < 3)]; rfl
 | 0, i, a, c :: s, hi, hib, hs, ha => by
   obtain rfl : i = 3 := by omega
   have hlen : 4 ≤ b.length := by
    have := congrArg List.length hs
    simp at this; omega
   have hc : b[3]'(by omega) = c := by
    rw [List.drop_eq_getElem_cons (by omega)] at hs
    injection hs
   rw [zK9, decide_eq_true (by omega : ((3 : Nat) : Int) < (b.length : Int)), zGj (by omega : 3 < b.length)]
   simp only [cond_true, Option.bind_some]
   have h5 : (match zAt 3 a (c :: s) with
    | none => ((0 : Int), (0 : Int), (bif decide (b.length ≤ 2) && (c :: s).all (fun c => decide (128 ≤ c)) then (12 : Int) else 5))
    | some (v, c) => if v < 5 ∨ 1048576 < v then (0, 0, 5) else ((v : Int), (c : Int), 0)) = (0, 0, 5) := by
    cases hg : zAt 3 a (c :: s) with
    | none => rw [decide_eq_false (by omega : ¬ b.length ≤ 2)]; rfl
    | some p =>
      obtain ⟨v, q⟩ := p
      have := ySt (fun x hx => hb x (List.mem_of_mem_drop (hs ▸ hx))) hg
      show (if v < 5 ∨ 1048576 < v then _ else _) = _
      rw [if_pos (.inr this)]
   rw [h5]
   rfl
 | m + 1, i, a, c :: s, hi, hib, hs, ha => by
   have hlen : i < b.length := by
    have := congrArg List.length hs
    simp at this; omega
   have hc : b[i] = c ∧ b.drop (i + 1) = s := by
    rw [List.drop_eq_getElem_cons hlen] at hs
    injection hs with h1 h2
    exact ⟨h1, h2⟩
   have hcb : yQ c := hc.1 ▸ hb _ (List.getElem_mem hlen)
   have hdg := yN9 (k := i) ha (by omega) hcb
   have hdr := yN9 (k := i) ha (by omega) hcb
   have e7 : IntKind.wrap .i64 (7 * (i : Int)) = 7 * (i : Int) := wY (by omega) (by omega)
   rw [zK9, decide_eq_true (by omega : (i : Int) < (b.length : Int)), zGj hlen, hc.1, jN (by omega)]
   simp only [cond_true, Option.bind_some]
   rw [hdg]
   have e3 : ((i : Int) == 3) = false := by rw [beq_eq_false_iff_ne]; omega
   rw [e3, e7, decide_eq_true (by omega : (0 : Int) ≤ 7 * (i : Int))]
   simp only [cond_false, cond_true, zAt]
   have h9 : ¬ (i = 9 ∧ c > 1) := by omega
   by_cases hz : c = 0 ∧ i > 0
   ·rw [if_pos (.inr hz), decide_eq_true (by omega : (i : Int) > 0)]
    have : (c == 0) = true := by simp [hz.1]
    rw [this]
    simp only [cond_true, Option.bind_some, yJw, Sum.elim_inr]
    have : (c :: s).all (fun c => decide (128 ≤ c)) = false := by simp [hz.1]
    rw [this, Bool.and_false]
    rfl
   ·rw [if_neg (fun h => h.elim h9 hz)]
    have go : (bif decide ((i : Int) > 0) then bif c == 0 then (some (.inr (0, 0, 5)) : Option (((List Int) × Int × Int) ⊕ (Int × Int × Int))) else bif decide (c < 128) then some (.inl (b, ((a + c.toNat % 128 * 128 ^ i : Nat) : Int), ((i + 1 : Nat) : Int))) else kK b ((a + c.toNat % 128 * 128 ^ i : Nat) : Int) 0 b (b.length : Int) ((i + 1 : Nat) : Int) else bif decide (c < 128) then some (.inl (b, ((a + c.toNat % 128 * 128 ^ i : Nat) : Int), ((i + 1 : Nat) : Int))) else kK b ((a + c.toNat % 128 * 128 ^ i : Nat) : Int) 0 b (b.length : Int) ((i + 1 : Nat) : Int)) = bif decide (c < 128) then some (.inl (b, ((a + c.toNat % 128 * 128 ^ i : Nat) : Int), ((i + 1 : Nat) : Int))) else kK b ((a + c.toNat % 128 * 128 ^ i : Nat) : Int) 0 b (b.length : Int) ((i + 1 : Nat) : Int) := by
     by_cases hi0 : i > 0
     ·have : (c == 0) = false := by rw [beq_eq_false_iff_ne]; exact fun h => hz ⟨h, hi0⟩
      rw [decide_eq_true (by omega : (i : Int) > 0), this]; rfl
     ·rw [decide_eq_false (by omega : ¬ (i : Int) > 0)]; rfl
    rw [go]
    by_cases h128 : c < 128
    ·rw [decide_eq_true h128, if_pos h128]
     simp only [cond_true, Option.bind_some, yJw, Sum.elim_inl]
     have hn : (((i + 1 : Nat) : Int) == 0) = false := by rw [beq_eq_false_iff_ne]; omega
     rw [hn]
     simp only [cond_false]
     generalize a + c.toNat % 128 * 128 ^ i = v
     by_cases h5 : v < 5
     ·rw [if_pos (.inl h5), decide_eq_true (by omega : (v : Int) < 5)]; rfl
     ·by_cases h6 : 1048576 < v
      ·rw [if_pos (.inr h6), decide_eq_false (by omega : ¬ (v : Int) < 5), decide_eq_true (by omega : (v : Int) > 1048576)]; rfl
      ·rw [if_neg (by omega), decide_eq_false (by omega : ¬ (v : Int) < 5), decide_eq_false (by omega : ¬ (v : Int) > 1048576)]; rfl
    ·rw [decide_eq_false h128, if_neg h128, cond_false, yIs hl hb m (i + 1) _ s (by omega) (by omega) hc.2 (yRl ha)]
     have : (c :: s).all (fun c => decide (128 ≤ c)) = s.all (fun c => decide (128 ≤ c)) := by
      rw [List.all_cons, decide_eq_true (by omega : 128 ≤ c), Bool.true_and]
     rw [this]
theorem yUs {b : List Int} (hl : b.length ≤ 1000000000000) (hb : ∀ x ∈ b, yQ x) : zKr b = some (yP6 b) := by
 have h := yIs hl hb 3 0 0 b rfl (by omega) (by simp) (by decide)
 unfold zKr yP6 yFq
 exact h
theorem yUd {l : List Int} (hl : l.length ≤ 100000000) (hb : ∀ x ∈ l, yQ x) : zP8 l = some (if 4 ≤ l.length ∧ zEh (l.drop 4) = l then (l.drop 4, true) else ([], false)) := by
 unfold zP8
 by_cases h4 : 4 ≤ l.length
 ·rw [decide_eq_false (by omega : ¬ (l.length : Int) < 4), decide_eq_true (by omega : (4 : Int) ≤ (l.length : Int)), decide_eq_true (by omega : (l.length : Int) ≤ (l.length : Int)), zO1]
  simp only [Bool.and_self, cond_true, cond_false]
  have hd : ∀ x ∈ l.drop 4, yQ x := fun x hx => hb x (List.mem_of_mem_drop hx)
  have e4 : (4 : Int).toNat = 4 := rfl
  rw [e4, yOx (by rw [List.length_drop]; omega) hd]
  simp only [Option.bind_some]
  rw [yPx (yGg hd) hb]
  by_cases he : zEh (l.drop 4) = l
  ·rw [decide_eq_true he, if_pos ⟨h4, he⟩]
   simp only [Bool.not_true, cond_false]
   have : zR (l.drop 4) = some (l.drop 4) := by
    unfold zR
    rw [vV (by simp; omega)]; simp
   rw [this]; rfl
  ·rw [decide_eq_false he, if_neg (fun h => he h.2)]; rfl
 ·rw [decide_eq_true (by omega : (l.length : Int) < 4), if_neg (fun h => h4 h.1)]; rfl
theorem yNy {b : List Int} (hl : b.length ≤ 100000000) (hb : ∀ x ∈ b, yQ x) : zKp b = some (zTn b) := by
 unfold zKp
 rw [yUs (by omega) hb]
 unfold yP6 zTn
 cases hg : zAt 0 0 b with
 | none =>
   simp only [Option.bind_some]
   cases yFq b <;> rfl
 | some p =>
   obtain ⟨v, c⟩ := p
   obtain ⟨hv, hc0, hc10, hcl, hcv, hbs⟩ := zL6 hb hg
   simp only [Option.bind_some]
   by_cases hr : v < 5 ∨ 1048576 < v
   ·rw [if_pos hr, if_pos hr]; rfl
   ·rw [if_neg hr, if_neg hr]
    have e1 : IntKind.wrap .i64 ((b.length : Int) - (c : Int)) = ((b.length - c : Nat) : Int) := by rw [wY (by omega) (by omega)]; omega
    have e2 : IntKind.wrap .i64 ((c : Int) + (v : Int)) = ((c + v : Nat) : Int) := by rw [wY (by omega) (by omega)]; omega
    have e0 : ((0 : Int) != 0) = false := by decide
    simp only [e0, cond_false, e1, e2]
    by_cases hs : b.length - c < v
    ·rw [if_pos hs, decide_eq_true (by omega : ((b.length - c : Nat) : Int) < (v : Int))]; rfl
    ·rw [if_neg hs, decide_eq_false (by omega : ¬ ((b.length - c : Nat) : Int) < (v : Int)), decide_eq_true (by omega : (0 : Int) ≤ (c : Int)), decide_eq_true (by omega : (c : Int) ≤ ((c + v : Nat) : Int)), decide_eq_true (by omega : ((c + v : Nat) : Int) ≤ (b.length : Int)), yUm]
     simp only [Bool.and_self, cond_true, cond_false]
     have hbody : ((b.drop c).take v).length = v := by rw [List.length_take, List.length_drop]; omega
     have hbb : ∀ x ∈ (b.drop c).take v, yQ x := fun x hx => hb x (List.mem_of_mem_drop (List.mem_of_mem_take hx))
     generalize (b.drop c).take v = body at hbody hbb ⊢
     rw [yUd (by omega) hbb]
     simp only [Option.bind_some]
     by_cases he : zEh (body.drop 4) = body
     ·rw [if_pos ⟨by omega, he⟩, if_pos he]
      have hp : zIp (c : Int) (v : Int) (body.drop 4) true = some (.inl ((c : Int), (v : Int), body.drop 4)) := rfl
      rw [hp]
      simp only [Option.bind_some, Sum.elim_inl]
      have h0 : at? (body.drop 4) 0 = some (nth body 4 0) := by
       have hd4 : 0 < (body.drop 4).length := by rw [List.length_drop]; omega
       have := zGj hd4
       simp only [show ((0 : Nat) : Int) = 0 from rfl] at this
       rw [this, zVk (by omega), List.getElem_drop]
      rw [h0, decide_eq_true (by rw [List.length_drop]; omega : (1 : Int) ≤ ((body.drop 4).length : Int)), decide_eq_true (by omega : ((body.drop 4).length : Int) ≤ ((body.drop 4).length : Int)), zO1, e2]
      simp only [Option.bind_some, Bool.and_self, cond_true, beq_self_eq_true]
      rw [show (1 : Int).toNat = 1 from rfl, List.drop_drop]
     ·rw [if_neg (fun h => he h.2), if_neg he]
      rfl
end Go.Proofs.YtlhifcknhgmidaaGreatDoor.gg
