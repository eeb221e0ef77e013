/- No number has two forms: the plain law. -/
import Derived.Test.YtgkdcldmepodfaaW2
open Go Go.GG
set_option linter.unusedVariables false
namespace Go.Proofs.Ytgkdcldmepodfaa.gg
theorem awake02_eq : law02_awake' = some true := law02_awake_lm.of_some 20 (by decide +kernel)
theorem same_eq (a b : List Int) : law02_same' a b = some (toBytes a == toBytes b) := rfl
theorem left_eq {s : Rd} (h : RInv s) : wire_Reader_Left' s = some ((s.1.length : Int) - s.2.1, s) := by
  have h1 := h.lo; have h2 := h.hi; have h3 := h.big
  unfold wire_Reader_Left'
  rw [i64_in (by omega) (by omega)]
theorem err_eq (s : Rd) : wire_Reader_Err' s = some (s.2.2, s) := rfl
theorem rU_fst {b : List Int} (hl : b.length ≤ 1000000000000) (h : ∀ x ∈ b, IsByte x) : (rU (b, 0, 0)).2.1 = b := by
  unfold rU
  simp only [if_true]
  cases getU 0 0 (rest (b, 0, 0)) with
  | none => rfl
  | some p => rfl
/-- The bytes that were read. -/
theorem cut_read {b : List Int} (hl : b.length ≤ 1000000000000) (h : ∀ x ∈ b, IsByte x) (e : (rU (b, 0, 0)).2.2.2 = 0) : ∃ n : Nat, n < 18446744073709551616 ∧ (rU (b, 0, 0)).1 = n ∧ cut b 0 (rU (b, 0, 0)).2.2.1 = putU n := by
  have i0 := read_inv b hl h
  have i1 := rU_inv i0
  obtain ⟨_, n, hn, v, q, e1⟩ := rU_ok i0 e
  refine ⟨n, hn, v, ?_⟩
  rw [read_rest] at q
  have hr := i1.rest_len
  have hlo := i1.lo
  have hl' := congrArg List.length q
  simp at hl'
  rw [e1] at hr
  try dsimp only at hr
  have hat : (rU (b, 0, 0)).2.2.1.toNat = (putU n).length := by omega
  unfold cut
  rw [hat]
  simp only [Int.toNat_zero, List.drop_zero]
  conv => lhs; rw [q]
  simp
theorem law_WireCanonical (b : List Int) (hb : ∀ x ∈ b, IsByte x) (hl : b.length ≤ 1000000000000) : ∃ k, law02_WireCanonical k b = some true := by
  refine (law02_WireCanonical_lm b).fin ?_
  have i0 := read_inv b hl hb
  have i1 := rU_inv i0
  have hf := rU_fst hl hb
  have h1 := i1.lo; have h2 := i1.hi; have h3 := i1.big
  have hrg := rU_range i0
  rw [hf] at h2
  have hk : IntKind.wrap .i64 ((b.length : Int) - ((b.length : Int) - (rU (b, 0, 0)).2.2.1)) = (rU (b, 0, 0)).2.2.1 := by rw [i64_in (by omega) (by omega)]; omega
  have hd : (true && decide ((0 : Int) ≤ (rU (b, 0, 0)).2.2.1) && decide ((rU (b, 0, 0)).2.2.1 ≤ (b.length : Int))) = true := by rw [decide_eq_true h1, decide_eq_true h2]; rfl
  unfold law02_WireCanonical'
  simp only [rRead_eq b hl, Option.bind_some, rUvarint_eq i0, left_eq i1, hf, eta2, hk]
  unfold law02_WireCanonical_p17'
  simp only [err_eq, Option.bind_some, eta2]
  by_cases he : (rU (b, 0, 0)).2.2.2 = 0
  · obtain ⟨n, hn, v, hc⟩ := cut_read hl hb he
    have u1 := Uvarint_eq [] n hn (by simp)
    have hz := zag_range hrg.1 hrg.2
    have u2 := Varint_eq (n := zag (n : Int)) (b := []) (by rw [← v]; exact hz.1) (by rw [← v]; exact hz.2) (by simp)
    rw [Z_zag (by omega)] at u2
    simp only [List.nil_append, Int.toNat_natCast] at u1 u2
    have t : (toBytes (putU n) == toBytes (putU n)) = true := by simp
    simp only [he, beq_self_eq_true, cond_true, v, u1, Option.bind_some, hd, hc, same_eq, t, Bool.not_true, cond_false, rRead_eq b hl, rVarint_eq i0, left_eq i1, hf, hk, err_eq, u2, awake02_eq]
  · have hb : ((rU (b, 0, 0)).2.2.2 == 0) = false := by simp [he]
    simp only [hb, cond_false, Option.bind_some, rRead_eq b hl, rVarint_eq i0, left_eq i1, hf, hk, err_eq, beq_self_eq_true, cond_true, awake02_eq]
end Go.Proofs.Ytgkdcldmepodfaa.gg
