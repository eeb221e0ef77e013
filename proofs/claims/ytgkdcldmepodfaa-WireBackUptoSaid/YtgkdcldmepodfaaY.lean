/- What was written is read back, and nothing is left: the plain law. -/
import Derived.Test.YtgkdcldmepodfaaW2
open Go Go.GG
set_option linter.unusedVariables false
namespace Go.Proofs.Ytgkdcldmepodfaa.gg
abbrev Item := Int × Int × (List Int) × Int
abbrev it0 : Item := (0, 0, [], 0)
theorem awake02_eq' : law02_awake' = some true := law02_awake_lm.of_some 20 (by decide +kernel)
def enc (x : Item) : List Int :=
  if x.1 = 0 then putU x.2.1.toNat else if x.1 = 1 then putU (Z (IntKind.wrap .i64 x.2.1)).toNat else if x.1 = 2 then X 4 x.2.1 else if x.1 = 3 then X 8 x.2.1 else if x.1 = 6 then putU x.2.2.1.length ++ x.2.2.1 else []
structure ItOk (x : Item) : Prop where
  lo : 0 ≤ x.2.1
  hi : x.2.1 < 18446744073709551616
  b : ∀ y ∈ x.2.2.1, IsByte y
  len : x.2.2.1.length ≤ 1048576
theorem wrap_range (n : Int) : -9223372036854775808 ≤ IntKind.wrap .i64 n ∧ IntKind.wrap .i64 n ≤ 9223372036854775807 := by rw [IntKind.wrap_i64]; omega
theorem enc_len {x : Item} (h : ItOk x) : (enc x).length ≤ 10 + x.2.2.1.length := by
  have := h.lo; have := h.hi; have := h.len
  have hz := Z_range (wrap_range x.2.1).1 (wrap_range x.2.1).2
  have := putU_len10 (n := x.2.1.toNat) (by omega)
  have := putU_len10 (n := (Z (IntKind.wrap .i64 x.2.1)).toNat) (by omega)
  have := putU_len10 (n := x.2.2.1.length) (by omega)
  unfold enc
  split
  · omega
  split
  · omega
  split
  · rw [X_len]; omega
  split
  · rw [X_len]; omega
  split
  · simp; omega
  · simp
theorem enc_byte {x : Item} (h : ItOk x) : ∀ y ∈ enc x, IsByte y := by
  unfold enc
  split
  · exact putU_byte _
  split
  · exact putU_byte _
  split
  · exact X_byte _ _
  split
  · exact X_byte _ _
  split
  · intro y hy
    rcases List.mem_append.1 hy with hy | hy
    · exact putU_byte _ y hy
    · exact h.b y hy
  · intro y hy; simp at hy
theorem written_eq {x : Item} (h : ItOk x) {b : List Int} (hb : b.length ≤ 100000000000) : ∃ c, law02_written' b x = some (b ++ enc x, c) := by
  have h0 := h.lo; have h1 := h.hi; have h2 := h.len
  obtain ⟨w0, w1⟩ := wrap_range x.2.1
  unfold law02_written' enc
  by_cases d0 : x.1 = 0
  · rw [Uvarint_eq' b x.2.1 h0 h1 (by omega), refUvarint_eq' x.2.1 h0 h1]
    exact ⟨putU x.2.1.toNat, by simp [d0]⟩
  by_cases d1 : x.1 = 1
  · rw [Varint_eq w0 w1 (by omega), refVarint_eq w0 w1]
    exact ⟨putU (Z (IntKind.wrap .i64 x.2.1)).toNat, by simp [d1]⟩
  by_cases d2 : x.1 = 2
  · have e : bitv .and .u64 x.2.1 4294967295 = x.2.1 % 4294967296 := by
      rw [bit64]
      try dsimp only
      rw [BitVec.toNat_and, BitVec.toNat_ofInt, BitVec.toNat_ofInt]
      have : (4294967295 % ((2 ^ 64 : Nat) : Int)).toNat = 2 ^ 32 - 1 := by decide
      rw [this, Nat.and_two_pow_sub_one_eq_mod]
      omega
    rw [Fixed4_eq (by omega), e, show (4 : Int) = ((4 : Nat) : Int) from rfl, refFixed_eq (by omega) (by omega)]
    have : X 4 (IntKind.wrap .u32 x.2.1) = X 4 x.2.1 := X4_congr (by rw [wrap_u32]; omega)
    exact ⟨_, by simp [d2, this]; rfl⟩
  by_cases d3 : x.1 = 3
  · rw [Fixed8_eq h0 h1 (by omega), show (8 : Int) = ((8 : Nat) : Int) from rfl, refFixed_eq (by omega) h0]
    exact ⟨_, by simp [d3]; rfl⟩
  by_cases d6 : x.1 = 6
  · rw [wBytes_eq b x.2.2.1 (by omega) (by omega), refBytes_eq x.2.2.1 (by omega), room_of (by omega)]
    exact ⟨_, by simp [d6]; rfl⟩
  · have e0 : (x.1 == 0) = false := by simpa using d0
    have e1 : (x.1 == 1) = false := by simpa using d1
    have e2 : (x.1 == 2) = false := by simpa using d2
    have e3 : (x.1 == 3) = false := by simpa using d3
    have e6 : (x.1 == 6) = false := by simpa using d6
    exact ⟨[], by simp [e0, e1, e2, e3, e6, d0, d1, d2, d3, d6]⟩
theorem flat_step {l : List Item} {i : Nat} (h : i < l.length) : (l.take (i + 1)).flatMap enc = (l.take i).flatMap enc ++ enc l[i] := by
  rw [take_succ' h, List.flatMap_append]; simp only [List.flatMap_cons, List.flatMap_nil, List.append_nil]
theorem flat_len : ∀ (l : List Item), (∀ x ∈ l, ItOk x) → (l.flatMap enc).length ≤ 10 * l.length + (l.map fun x => x.2.2.1.length).sum
  | [], _ => by simp
  | x :: l, h => by
    have := flat_len l (fun y hy => h y (by simp [hy]))
    have := enc_len (h x (by simp))
    rw [List.flatMap_cons, List.length_append, List.map_cons, List.sum_cons, List.length_cons]; omega
theorem writes_eq {l : List Item} (h : ∀ x ∈ l, ItOk x) (hl : l.length ≤ 1048576) (ht : (l.flatMap enc).length ≤ 100000000) : law02_WireBack_p8' [] l 0 = some (l.flatMap enc, l) := by
  have key : ∀ (i : Nat) (s : List Int), i ≤ l.length → s = (l.take i).flatMap enc → law02_WireBack_p8' s l (i : Int) = some (l.flatMap enc, l) := by
    apply loop_inv l.length (fun i s => law02_WireBack_p8' s l (i : Int)) (fun i s => s = (l.take i).flatMap enc) (fun r => r = some (l.flatMap enc, l))
    · rintro i s hi rfl
      have hlen : ((l.take i).flatMap enc).length ≤ 100000000 := by
        have e : l.flatMap enc = (l.take i).flatMap enc ++ (l.drop i).flatMap enc := by rw [← List.flatMap_append, List.take_append_drop]
        rw [e] at ht
        simp only [List.length_append] at ht; omega
      obtain ⟨c, hc⟩ := written_eq (h l[i] (by simp)) (b := (l.take i).flatMap enc) (by omega)
      refine .inl ⟨_, ?_, rfl⟩
      try dsimp only
      rw [law02_WireBack_p8_eq, decide_eq_true (by omega : (i : Int) < (l.length : Int)), at?_nat hi, wrap_succ (by omega)]
      simp only [cond_true, Option.bind_some, hc]
      rw [flat_step hi]
    · rintro s rfl
      try dsimp only
      rw [law02_WireBack_p8_eq, decide_eq_false (by omega : ¬ (l.length : Int) < (l.length : Int))]
      simp
  exact key 0 [] (by omega) rfl
/-- One item is read. -/
theorem reads_step {l : List Item} {i : Nat} (hi : i < l.length) (hl : l.length ≤ 1048576) (hx : ItOk l[i]) {s : Rd} (h : RInv s) (h0 : s.2.2 = 0) {r : List Int} (hr : rest s = enc l[i] ++ r) :
    ∃ s', law02_WireBack_p33' l (i : Int) s = law02_WireBack_p33' l ((i + 1 : Nat) : Int) s' ∧ RInv s' ∧ s'.2.2 = 0 ∧ rest s' = r := by
  have hx0 := hx.lo; have hx1 := hx.hi; have hx2 := hx.len
  obtain ⟨w0, w1⟩ := wrap_range l[i].2.1
  have hz := Z_range w0 w1
  rw [law02_WireBack_p33_eq, decide_eq_true (by omega : (i : Int) < (l.length : Int)), at?_nat hi]
  simp only [cond_true, Option.bind_some, eta2]
  unfold law02_WireBack_p45'
  simp only [eta2]
  unfold enc at hr
  by_cases d0 : l[i].1 = 0
  · rw [if_pos d0] at hr
    obtain ⟨s', e, i', z', t', _⟩ := rU_read h h0 (by omega) hr
    refine ⟨s', ?_, i', z', t'⟩
    have : (((l[i].2.1.toNat : Nat) : Int) != l[i].2.1) = false := by simp; omega
    simp only [d0, beq_self_eq_true, cond_true, rUvarint_eq h, e, Option.bind_some, this, cond_false, law02_WireBack_p51', law02_WireBack_p57', wrap_succ (by omega : i ≤ 1000000000000000000), eta2, Int.reduceBEq]
  rw [if_neg d0] at hr
  have e0 : (l[i].1 == 0) = false := by simpa using d0
  simp only [e0, cond_false, Option.bind_some]
  unfold law02_WireBack_p51'
  by_cases d1 : l[i].1 = 1
  · rw [if_pos d1] at hr
    obtain ⟨s', e, i', z', t', _⟩ := rU_read h h0 (by omega) hr
    refine ⟨s', ?_, i', z', t'⟩
    have hv : zag (((Z (IntKind.wrap .i64 l[i].2.1)).toNat : Nat) : Int) = IntKind.wrap .i64 l[i].2.1 := by rw [Int.toNat_of_nonneg hz.1, zag_Z]
    simp only [d1, beq_self_eq_true, cond_true, rVarint_eq h, e, hv, Option.bind_some, bne_self_eq_false, cond_false, law02_WireBack_p57', wrap_succ (by omega : i ≤ 1000000000000000000), eta2, Int.reduceBEq]
  rw [if_neg d1] at hr
  have e1 : (l[i].1 == 1) = false := by simpa using d1
  simp only [e1, cond_false, Option.bind_some, eta2]
  unfold law02_WireBack_p57'
  by_cases d2 : l[i].1 = 2
  · rw [if_pos d2] at hr
    have hle : 4 ≤ (rest s).length := by rw [hr]; simp [X_len]
    refine ⟨rto s 4, ?_, rto_inv h hle, h0, by rw [rest_rto h, hr, List.drop_left' (X_len 4 _)]⟩
    have hv : (l[i].2.1 % 4294967296 != IntKind.wrap .u32 l[i].2.1) = false := by rw [wrap_u32]; simp
    simp only [d2, beq_self_eq_true, cond_true, rFixed4_eq h h0 hr, hv, Option.bind_some, cond_false, wrap_succ (by omega : i ≤ 1000000000000000000), eta2, Int.reduceBEq]
  rw [if_neg d2] at hr
  have e2 : (l[i].1 == 2) = false := by simpa using d2
  simp only [e2, cond_false, Option.bind_some, eta2]
  by_cases d3 : l[i].1 = 3
  · rw [if_pos d3] at hr
    have hle : 8 ≤ (rest s).length := by rw [hr]; simp [X_len]
    refine ⟨rto s 8, ?_, rto_inv h hle, h0, by rw [rest_rto h, hr, List.drop_left' (X_len 8 _)]⟩
    simp only [d3, beq_self_eq_true, cond_true, rFixed8_eq h h0 hx0 hx1 hr, Option.bind_some, bne_self_eq_false, cond_false, wrap_succ (by omega : i ≤ 1000000000000000000), eta2, Int.reduceBEq]
  rw [if_neg d3] at hr
  have e3 : (l[i].1 == 3) = false := by simpa using d3
  simp only [e3, cond_false, Option.bind_some, eta2]
  by_cases d6 : l[i].1 = 6
  · rw [if_pos d6] at hr
    obtain ⟨s', e, i', z', t', _⟩ := rBytes_read h h0 (by omega) (Int.le_refl _) hr
    refine ⟨s', ?_, i', z', t'⟩
    have ts : law02_same' l[i].2.2.1 l[i].2.2.1 = some true := by simp [law02_same']
    simp only [d6, beq_self_eq_true, cond_true, rBytes_eq h (l[i].2.2.1.length : Int) (by omega), e, Option.bind_some, ts, Bool.not_true, cond_false, wrap_succ (by omega : i ≤ 1000000000000000000), eta2, Int.reduceBEq]
  rw [if_neg d6] at hr
  have e6 : (l[i].1 == 6) = false := by simpa using d6
  refine ⟨s, ?_, h, h0, by simpa using hr⟩
  simp only [e6, cond_false, wrap_succ (by omega : i ≤ 1000000000000000000), eta2]
abbrev itT : T := .pair (.int .i64) (.pair (.int .u64) (.pair (.slice (.int .u8)) (.int .i64)))
theorem bulk_items : ∀ l : List Item, (l.map fun x => x.2.2.1.length).sum ≤ (l.map (T.bulk itT)).sum
  | [] => by simp
  | x :: l => by
    have h1 := bulk_items l
    have h2 := bulk_slice (t := .int .u8) x.2.2.1
    have h3 : T.bulk itT x = 1 + (1 + ((T.slice (.int .u8)).bulk x.2.2.1 + 1)) := rfl
    rw [List.map_cons, List.sum_cons, List.map_cons, List.sum_cons, h3]; omega
theorem sum_mem {l : List Item} {x : Item} (h : x ∈ l) : x.2.2.1.length ≤ (l.map fun x => x.2.2.1.length).sum := by
  induction l with
  | nil => simp at h
  | cons y l ih =>
    rw [List.map_cons, List.sum_cons]
    rcases List.mem_cons.1 h with rfl | h
    · omega
    · have := ih h; omega
theorem law_WireBack (l : List Item) (h : ∀ x ∈ l, ItOk x) (hl : l.length ≤ 1048576) (ht : (l.map fun x => x.2.2.1.length).sum ≤ 1048576) : ∃ k, law02_WireBack k l = some true := by
  refine (law02_WireBack_lm l).fin ?_
  have hf := flat_len l h
  have hb : ∀ y ∈ l.flatMap enc, IsByte y := fun y hy => by
    obtain ⟨x, hx, hy⟩ := List.mem_flatMap.1 hy
    exact enc_byte (h x hx) y hy
  have i0 := read_inv (l.flatMap enc) (by omega) hb
  have key : ∀ (i : Nat) (s : Rd), i ≤ l.length → (RInv s ∧ s.2.2 = 0 ∧ rest s = (l.drop i).flatMap enc) → ∃ s' : Rd, law02_WireBack_p33' l (i : Int) s = some (.inl s') ∧ RInv s' ∧ s'.2.2 = 0 ∧ rest s' = [] := by
    apply loop_inv l.length (fun i s => law02_WireBack_p33' l (i : Int) s) (fun i s => RInv s ∧ s.2.2 = 0 ∧ rest s = (l.drop i).flatMap enc) (fun r => ∃ s' : Rd, r = some (.inl s') ∧ RInv s' ∧ s'.2.2 = 0 ∧ rest s' = [])
    · rintro i s hi ⟨a, b, c⟩
      rw [List.drop_eq_getElem_cons hi, List.flatMap_cons] at c
      obtain ⟨s', e, f, g, k⟩ := reads_step hi hl (h _ (by simp)) a b c
      exact .inl ⟨s', e, f, g, k⟩
    · rintro s ⟨a, b, c⟩
      refine ⟨s, ?_, a, b, by simpa using c⟩
      try dsimp only
      rw [law02_WireBack_p33_eq, decide_eq_false (by omega : ¬ (l.length : Int) < (l.length : Int))]
      rfl
  obtain ⟨s', e, f, g, k⟩ := key 0 (l.flatMap enc, 0, 0) (by omega) ⟨i0, rfl, by rw [read_rest]; rfl⟩
  unfold law02_WireBack'
  rw [writes_eq h hl (by omega)]
  simp only [Option.bind_some, rRead_eq _ (by omega : (l.flatMap enc).length ≤ 1000000000000), eta2]
  simp only [show ((0 : Nat) : Int) = 0 from rfl] at e
  rw [e]
  simp only [Option.bind_some, Sum.elim_inl, rDone_eq f]
  rw [if_neg (by simp [g]), if_neg (by simp [k])]
  simp [awake02_eq']
end Go.Proofs.Ytgkdcldmepodfaa.gg
