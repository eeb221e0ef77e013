/- The readers and writers of bytes: what they are. -/
import Derived.Test.YthdkecdbodenkaaGreatDoorK6
import Derived.Test.YthdkecdbodenkaaGreatDoorM
open Go Go.GG
set_option linter.unusedVariables false
namespace Go.Proofs.YthdkecdbodenkaaGreatDoor.gg
theorem clone_ok (x : List Int) (h : x.length ≤ 100000000000000) : room (([] : List Int) ++ x).length 1 = true := room_of (by simp; omega)
theorem own_eq (b : List Int) : wire_own' b = some b := by simp [wire_own', cut_all]
theorem Uv_p6 : ∀ (n : Nat) (b : List Int), n < 18446744073709551616 → b.length + (putU n).length ≤ 100000000000000 →
    ∃ (m : Nat) (q : List Int), wire_Uvarint_p6' n b = some ((m : Int), b ++ q) ∧ q ++ [(m : Int)] = putU n ∧ m < 128 := by
  intro n
  induction n using Nat.strongRecOn with
  | _ n ih =>
    intro b hn hb
    rw [wire_Uvarint_p6_eq]
    by_cases h : n < 128
    · rw [show (decide ((n : Int) ≥ 128)) = false from decide_eq_false (by omega)]
      exact ⟨n, [], by simp, by rw [putU_lt h]; rfl, h⟩
    · rw [show (decide ((n : Int) ≥ 128)) = true from decide_eq_true (by omega)]
      have e1 : bitv .or .u8 (IntKind.wrap .u8 (n : Int)) 128 = ((n % 128 + 128 : Nat) : Int) := by
        rw [wrap_u8, or128 (by omega) (by omega)]; omega
      have e2 : shrv .u64 (n : Int) 7 = ((n / 128 : Nat) : Int) := by
        rw [show (7 : Int) = ((7 : Nat) : Int) from rfl, shr_u64 7 (by omega)]; omega
      rw [putU_ge h] at hb ⊢
      simp only [List.length_cons] at hb
      rw [e1, e2, room_of (by simp; omega)]
      obtain ⟨m, q, h1, h2, h3⟩ := ih (n / 128) (by omega) (b ++ [((n % 128 + 128 : Nat) : Int)]) (by omega) (by simp; omega)
      refine ⟨m, ((n % 128 + 128 : Nat) : Int) :: q, ?_, ?_, h3⟩
      · rw [cond_true, h1]; simp
      · rw [List.cons_append, h2]
theorem Uvarint_eq (b : List Int) (n : Nat) (hn : n < 18446744073709551616) (hb : b.length ≤ 10000000000000) : wire_Uvarint' b n = some (b ++ putU n) := by
  obtain ⟨m, q, h1, h2, h3⟩ := Uv_p6 n b hn (by have := putU_len10 hn; omega)
  unfold wire_Uvarint'
  rw [own_eq]
  simp only [Option.bind_some, h1]
  have hl := congrArg List.length h2
  have := putU_len10 hn
  simp at hl
  rw [room_of (by simp; omega), cond_true, wrap_u8, Int.emod_eq_of_lt (by omega) (by omega), List.append_assoc, h2]
theorem Uvarint_eq' (b : List Int) (n : Int) (h0 : 0 ≤ n) (hn : n < 18446744073709551616) (hb : b.length ≤ 10000000000000) : wire_Uvarint' b n = some (b ++ putU n.toNat) := by
  have := Uvarint_eq b n.toNat (by omega) hb
  rwa [Int.toNat_of_nonneg h0] at this
theorem refUv_p6 : ∀ (n : Nat) (b : List Int), n < 18446744073709551616 → b.length + (putU n).length ≤ 100000000000000 →
    ∃ (m : Nat) (q : List Int), ref02_Uvarint_p6' n b = some ((m : Int), b ++ q) ∧ q ++ [(m : Int)] = putU n ∧ m < 128 := by
  intro n
  induction n using Nat.strongRecOn with
  | _ n ih =>
    intro b hn hb
    rw [ref02_Uvarint_p6_eq]
    by_cases h : n < 128
    · rw [show (decide ((n : Int) ≥ 128)) = false from decide_eq_false (by omega)]
      exact ⟨n, [], by simp, by rw [putU_lt h]; rfl, h⟩
    · rw [show (decide ((n : Int) ≥ 128)) = true from decide_eq_true (by omega)]
      have e1 : IntKind.wrap .u8 ((IntKind.wrap .u8 (Int.tmod (n : Int) 128)) + 128) = ((n % 128 + 128 : Nat) : Int) := by
        rw [Int.tmod_eq_emod_of_nonneg (by omega), wrap_u8, wrap_u8]; omega
      have e2 : IntKind.wrap .u64 (Int.tdiv (n : Int) 128) = ((n / 128 : Nat) : Int) := by
        rw [Int.tdiv_eq_ediv_of_nonneg (by omega), wrap_u64]; omega
      rw [putU_ge h] at hb ⊢
      simp only [List.length_cons] at hb
      rw [e1, e2, room_of (by simp; omega)]
      obtain ⟨m, q, h1, h2, h3⟩ := ih (n / 128) (by omega) (b ++ [((n % 128 + 128 : Nat) : Int)]) (by omega) (by simp; omega)
      refine ⟨m, ((n % 128 + 128 : Nat) : Int) :: q, ?_, ?_, h3⟩
      · rw [cond_true, h1]; simp
      · rw [List.cons_append, h2]
theorem refUvarint_eq (n : Nat) (hn : n < 18446744073709551616) : ref02_Uvarint' n = some (putU n) := by
  obtain ⟨m, q, h1, h2, h3⟩ := refUv_p6 n [] hn (by have := putU_len10 hn; simp; omega)
  unfold ref02_Uvarint'
  simp only [Option.bind_some, h1, List.nil_append]
  have hl := congrArg List.length h2
  have := putU_len10 hn
  simp at hl
  rw [room_of (by simp; omega), cond_true, wrap_u8, Int.emod_eq_of_lt (by omega) (by omega), h2]
theorem refUvarint_eq' (n : Int) (h0 : 0 ≤ n) (hn : n < 18446744073709551616) : ref02_Uvarint' n = some (putU n.toNat) := by
  have := refUvarint_eq n.toNat (by omega)
  rwa [Int.toNat_of_nonneg h0] at this
theorem peek_p8 (l : List Int) (hl : l.length ≤ 1000000000000) (hb : ∀ x ∈ l, IsByte x) (r : Rd) : ∀ (s : List Int) (k a : Nat), l.drop k = s → k ≤ 9 → a < 128 ^ k →
    wire_Reader_peek_p8' a l l.length k r = some (match getU k a s with | none => .inl r | some (v, c) => .inr ((v : Int), (c : Int), r))
  | [], k, a, hs, hk, ha => by
    rw [wire_Reader_peek_p8_eq]
    have := congrArg List.length hs
    simp at this
    rw [show (decide ((k : Int) < (l.length : Int))) = false from decide_eq_false (by omega)]
    simp [getU]
  | c :: s, k, a, hs, hk, ha => by
    have hlen := congrArg List.length hs
    simp at hlen
    have hkl : k < l.length := by omega
    have hc : l[k] = c := by
      have := congrArg (fun x => x[0]?) hs
      simp at this
      obtain ⟨_, h⟩ := List.getElem?_eq_some_iff.1 this; exact h
    have hcb : IsByte c := hb c (hc ▸ List.getElem_mem hkl)
    have hs' : l.drop (k + 1) = s := by rw [← List.drop_drop, hs]; rfl
    rw [wire_Reader_peek_p8_eq, show (decide ((k : Int) < (l.length : Int))) = true from decide_eq_true (by omega), at?_lt hkl, hc]
    simp only [cond_true, Option.bind_some, getU, eta2]
    obtain ⟨hc0, hc1⟩ := hcb
    have hroom : decide ((0 : Int) ≤ IntKind.wrap .i64 (7 * (k : Int))) = true := by rw [i64_in (by omega) (by omega)]; exact decide_eq_true (by omega)
    have hk1 : IntKind.wrap .i64 ((k : Int) + 1) = ((k + 1 : Nat) : Int) := by rw [i64_in (by omega) (by omega)]; omega
    rw [hroom, hk1]
    by_cases h9 : k = 9 ∧ c > 1
    · have : ((k : Int) == 9) = true := by simp; omega
      simp [h9.1, h9.2]
    · have hd : ∀ (_ : k = 9), c % 128 ≤ 1 := fun e => by
        have : ¬ c > 1 := fun h => h9 ⟨e, h⟩
        omega
      have hdig := digit1 (a := a) (k := k) (c := c) ha hk ⟨hc0, hc1⟩ hd
      rw [hdig]
      have ih := fun (h : k + 1 ≤ 9) => peek_p8 l hl hb r s (k + 1) (a + c.toNat % 128 * 128 ^ k) hs' h (acc_lt ha)
      by_cases h0 : c = 0 ∧ k > 0
      · simp [h0.1, h0.2]
      · by_cases hlt : c < 128
        · have : ¬ ((k = 9 ∧ c > 1) ∨ (c = 0 ∧ k > 0)) := by rintro (h | h); exact h9 h; exact h0 h
          rw [if_neg this, if_pos hlt]
          by_cases hz : c = 0
          · have hk0 : k = 0 := by omega
            subst hz; subst hk0; simp
          · by_cases he : (k : Int) = 9
            · have : ¬ c > 1 := fun h => h9 ⟨by omega, h⟩
              have hzb : (c == 0) = false := by simp; exact hz
              simp [he, hzb, hlt, this]
            · have he' : k ≠ 9 := by omega
              have h7 : ((k : Int) == 9) = false := by simp; omega
              have hzb : (c == 0) = false := by simp; exact hz
              simp [h7, hzb, hlt]
        · have hk9 : k ≠ 9 := fun e => h9 ⟨e, by omega⟩
          have : ¬ ((k = 9 ∧ c > 1) ∨ (c = 0 ∧ k > 0)) := by rintro (h | h); exact h9 h; exact h0 h
          rw [if_neg this, if_neg hlt, ← ih (by omega)]
          have h7 : ((k : Int) == 9) = false := by simp; omega
          have hz : (c == 0) = false := by simp; omega
          simp [h7, hz, hlt]
theorem cut_drop (xs : List Int) (i : Int) : cut xs i (xs.length : Int) = xs.drop i.toNat := by simp [cut]
theorem peek_eq {s : Rd} (h : RInv s) : wire_Reader_peek' s = some (match getU 0 0 (rest s) with | none => (0, 0, s) | some (v, c) => ((v : Int), (c : Int), s)) := by
  have h1 := h.lo; have h2 := h.hi; have h3 := h.big
  have hr := h.rest_len
  unfold wire_Reader_peek'
  rw [decide_eq_true (by omega : (0 : Int) ≤ s.2.1), decide_eq_true (by omega : s.2.1 ≤ (s.1.length : Int)), decide_eq_true (Int.le_refl _)]
  simp only [Bool.and_self, cond_true, cut_drop]
  have := peek_p8 (rest s) (by omega) h.rest_byte s (rest s) 0 0 rfl (by omega) (by decide)
  simp only [rest] at this ⊢
  simp only [Int.natCast_zero, show ((0 : Nat) : Int) = 0 from rfl] at this
  rw [this]
  cases getU 0 0 (s.1.drop s.2.1.toNat) with
  | none => rfl
  | some p => rfl
theorem fine_eq (s : Rd) : wire_Reader_fine' s = some ((s.2.2 == 0), s) := rfl
theorem fail_eq (s : Rd) (e : Int) (h : s.2.2 = 0) : wire_Reader_fail' s e = some (rfail s e) := by simp [wire_Reader_fail', h, rfail]
theorem rUvarint_eq {s : Rd} (h : RInv s) : wire_Reader_Uvarint' s = some (rU s) := by
  have h1 := h.lo; have h2 := h.hi; have h3 := h.big
  unfold wire_Reader_Uvarint' rU
  rw [fine_eq]
  by_cases h0 : s.2.2 = 0
  · simp only [Option.bind_some, h0, beq_self_eq_true, Bool.not_true, cond_false, if_true, peek_eq h]
    cases hg : getU 0 0 (rest s) with
    | none =>
      simp only [Option.bind_some, beq_self_eq_true, cond_true, fail_eq s 5 h0]
      have e : IntKind.wrap .i64 ((rfail s 5).2.1 + 0) = s.2.1 := by simp only [rfail]; rw [i64_in (by omega) (by omega)]; omega
      rw [e]; rfl
    | some p =>
      obtain ⟨v, c⟩ := p
      obtain ⟨_, hc0, _, hc1, _⟩ := getU_le h.rest_byte hg
      have := h.rest_len
      have e0 : ((c : Int) == 0) = false := by simp; omega
      simp only [Option.bind_some, e0, cond_false]
      rw [i64_in (n := s.2.1 + (c : Int)) (by omega) (by omega)]
      rfl
  · have : (s.2.2 == 0) = false := by simp [h0]
    simp [this, h0]
theorem rnumber_eq {s : Rd} (h : RInv s) (most : Int) (hm : most ≤ 9223372036854775807) : wire_Reader_number' s most = some (if s.2.2 = 0 then (match getU 0 0 (rest s) with | none => (0, 0, rfail s 5) | some (v, c) => if (v : Int) > most then (0, 0, rfail s 3) else ((v : Int), (c : Int), s)) else (0, 0, s)) := by
  have h1 := h.lo; have h2 := h.hi; have h3 := h.big
  unfold wire_Reader_number'
  rw [fine_eq]
  by_cases h0 : s.2.2 = 0
  · simp only [Option.bind_some, h0, beq_self_eq_true, Bool.not_true, cond_false, if_true, peek_eq h]
    cases hg : getU 0 0 (rest s) with
    | none => simp only [Option.bind_some, beq_self_eq_true, cond_true, fail_eq s 5 h0]
    | some p =>
      obtain ⟨v, c⟩ := p
      obtain ⟨hv, hc0, _, hc1, _⟩ := getU_le h.rest_byte hg
      have := h.rest_len
      have e0 : ((c : Int) == 0) = false := by simp; omega
      simp only [Option.bind_some, e0, cond_false]
      by_cases hbig : (v : Int) > 9223372036854775807
      · have : (v : Int) > most := by omega
        simp [hbig, this, fail_eq s 3 h0]
      · rw [i64_in (n := (v : Int)) (by omega) (by omega)]
        by_cases hv : (v : Int) > most
        · simp [hbig, hv, fail_eq s 3 h0]
        · simp [hbig, hv]
  · have : (s.2.2 == 0) = false := by simp [h0]
    simp [this, h0]
theorem rNumber_eq {s : Rd} (h : RInv s) (most : Int) (hm : most ≤ 9223372036854775807) : wire_Reader_Number' s most = some (rNum s most) := by
  have h1 := h.lo; have h2 := h.hi; have h3 := h.big
  unfold wire_Reader_Number' rNum
  rw [rnumber_eq h most hm]
  by_cases h0 : s.2.2 = 0
  · simp only [h0, if_true]
    cases hg : getU 0 0 (rest s) with
    | none => simp
    | some p =>
      obtain ⟨v, c⟩ := p
      obtain ⟨hv, hc0, _, hc1, _⟩ := getU_le h.rest_byte hg
      have := h.rest_len
      by_cases hv : (v : Int) > most
      · simp [hv]
      · have hcp : (c : Int) > 0 := by omega
        simp only [Option.bind_some, if_neg hv, decide_eq_true hcp, cond_true]
        rw [i64_in (n := s.2.1 + (c : Int)) (by omega) (by omega)]
        rfl
  · simp [h0]
theorem rDone_eq {s : Rd} (h : RInv s) : wire_Reader_Done' s = some ((if s.2.2 ≠ 0 then s.2.2 else if rest s ≠ [] then 5 else 0), s) := by
  have h1 := h.lo; have h2 := h.hi; have h3 := h.big; have h4 := h.rest_len
  unfold wire_Reader_Done' wire_Reader_Err' wire_Reader_Left'
  simp only [Option.bind_some]
  by_cases h0 : s.2.2 = 0
  · rw [i64_in (n := (s.1.length : Int) - s.2.1) (by omega) (by omega)]
    by_cases hr : rest s = []
    · have h5 : ¬ ((s.1.length : Int) - s.2.1 > 0) := by rw [hr] at h4; simp at h4; omega
      simp only [h0, bne_self_eq_false, cond_false, decide_eq_false h5]
      simp [hr]
    · have : (rest s).length ≠ 0 := fun e => hr (List.length_eq_zero_iff.1 e)
      simp only [h0, bne_self_eq_false, cond_false]
      rw [decide_eq_true (by omega)]
      simp [hr]
  · have : (s.2.2 != 0) = true := by simp [h0]
    simp [h0, this]
theorem rRead_eq (b : List Int) (hb : b.length ≤ 1000000000000) : wire_Read' b = some (b, 0, 0) := by
  unfold wire_Read' slices_Clone_byte_byte'
  rw [room_of (by simp; omega)]; simp
theorem read_inv (b : List Int) (hb : b.length ≤ 1000000000000) (h : ∀ x ∈ b, IsByte x) : RInv (b, 0, 0) := ⟨h, by simp, by simp, hb⟩
theorem read_rest (b : List Int) : rest (b, 0, 0) = b := by simp [rest]
theorem next_eq {s : Rd} (h : RInv s) (h0 : s.2.2 = 0) : ref02_next' s = some (match rest s with | [] => (0, false, s) | c :: _ => (c, true, rto s 1)) := by
  have h1 := h.lo; have h2 := h.hi; have h3 := h.big; have h4 := h.rest_len
  unfold ref02_next'
  simp only [h0, bne_self_eq_false, cond_false]
  cases hr : rest s with
  | nil => rw [hr] at h4; simp at h4; rw [decide_eq_true (by omega)]; rfl
  | cons c t =>
    rw [hr] at h4; simp at h4
    rw [decide_eq_false (by omega : ¬ s.2.1 ≥ (s.1.length : Int)), i64_in (n := s.2.1 + 1) (by omega) (by omega), i64_in (n := s.2.1 + 1 - 1) (by omega) (by omega)]
    have e : s.2.1 + 1 - 1 = ((s.2.1.toNat : Nat) : Int) := by omega
    have hlt : s.2.1.toNat < s.1.length := by omega
    have hc : s.1[s.2.1.toNat] = c := by
      have := congrArg (fun x => x[0]?) hr
      simp [rest] at this
      obtain ⟨_, h⟩ := List.getElem?_eq_some_iff.1 this; exact h
    rw [e, at?_lt hlt, hc]
    simp [rto, h0]
theorem ref_p10 (b : List Int) (from_ : Int) : ∀ (l : List Int) (s : Rd) (k a : Nat), RInv s → s.2.2 = 0 → s.1 = b → rest s = l → k ≤ 9 → a < 128 ^ k →
    ∃ o, ref02_ReadUvarint_p10' from_ a k s = some o ∧ (match getU k a l with | none => ∃ s', o = .inl (from_, s') ∧ s'.1 = b ∧ s'.2.2 = 0 | some (v, c) => o = .inr ((v : Int), rto s (c - k)))
  | [], s, k, a, h, h0, hb, hr, hk, ha => by
    rw [ref02_ReadUvarint_p10_eq, next_eq h h0, hr, decide_eq_true (by omega : (k : Int) < 10)]
    exact ⟨_, rfl, s, by simp, hb, h0⟩
  | c :: t, s, k, a, h, h0, hb, hr, hk, ha => by
    have h1 := h.lo; have h2 := h.hi; have h3 := h.big; have h4 := h.rest_len
    rw [hr] at h4; simp at h4
    have hcb : IsByte c := h.rest_byte c (by rw [hr]; simp)
    have hs1 : RInv (rto s 1) := rto_inv h (by rw [hr]; simp)
    have hr1 : rest (rto s 1) = t := by rw [rest_rto h, hr]; rfl
    rw [ref02_ReadUvarint_p10_eq, next_eq h h0, hr, decide_eq_true (by omega : (k : Int) < 10)]
    simp only [cond_true, Option.bind_some, Bool.not_true, cond_false, eta2, getU]
    obtain ⟨hc0, hc1⟩ := hcb
    have hroom : decide ((0 : Int) ≤ IntKind.wrap .u64 (IntKind.wrap .i64 (7 * (k : Int)))) = true := by rw [i64_in (by omega) (by omega), u64_in (by omega) (by omega)]; exact decide_eq_true (by omega)
    have hk1 : IntKind.wrap .i64 ((k : Int) + 1) = ((k + 1 : Nat) : Int) := by rw [i64_in (by omega) (by omega)]; omega
    have hm : IntKind.wrap .u64 (Int.tmod c 128) = c % 128 := by rw [Int.tmod_eq_emod_of_nonneg hc0, u64_in (by omega) (by omega)]
    rw [hroom, hk1]
    have inl : ∀ (o : (Int × Rd) ⊕ (Int × Rd)), o = .inl (from_, rto s 1) → ∃ s', o = .inl (from_, s') ∧ s'.1 = b ∧ s'.2.2 = 0 := fun o e => ⟨_, e, hb, h0⟩
    by_cases h9 : k = 9 ∧ c > 1
    · have : ¬ (c % 128 > 1) → c ≥ 128 := by intro; omega
      rw [if_pos (.inl h9)]
      obtain ⟨rfl, hc⟩ := h9
      by_cases hg : c % 128 > 1
      · refine ⟨_, ?_, inl _ rfl⟩
        rw [hm]; simp [hg]
      · have hge : ¬ c < 128 := by omega
        -- one round more, which is none
        refine ⟨.inl (from_, rto s 1), ?_, inl _ rfl⟩
        rw [hm]
        simp [hg, hge]
        rw [ref02_ReadUvarint_p10_eq]
        simp
    · have hd : ∀ (_ : k = 9), c % 128 ≤ 1 := fun e => by
        have : ¬ c > 1 := fun h => h9 ⟨e, h⟩
        omega
      have hdig := digit2 (a := a) (k := k) (c := c) ha hk ⟨hc0, hc1⟩ hd
      rw [hdig, hm]
      by_cases h00 : c = 0 ∧ k > 0
      · rw [if_pos (.inr h00)]
        refine ⟨_, ?_, inl _ rfl⟩
        simp [h00.1, h00.2]
      · have hn : ¬ ((k = 9 ∧ c > 1) ∨ (c = 0 ∧ k > 0)) := by rintro (h | h); exact h9 h; exact h00 h
        rw [if_neg hn]
        by_cases hlt : c < 128
        · rw [if_pos hlt]
          refine ⟨_, ?_, rfl⟩
          have hgt : (k : Int) = 9 → ¬ c % 128 > 1 := fun e => by have := hd (by omega); omega
          by_cases hz : c = 0
          · have hk0 : k = 0 := by omega
            subst hz; subst hk0; simp
          · by_cases he : (k : Int) = 9
            · have h5 := hgt he
              have hzb : (c == 0) = false := by simp; exact hz
              simp [he, hzb, hlt, h5]
            · have h7 : ((k : Int) == 9) = false := by simp; omega
              have hzb : (c == 0) = false := by simp; exact hz
              simp [h7, hzb, hlt]
        · rw [if_neg hlt]
          have hk9 : k ≠ 9 := fun e => h9 ⟨e, by omega⟩
          obtain ⟨o, ho, hm'⟩ := ref_p10 b from_ t (rto s 1) (k + 1) (a + c.toNat % 128 * 128 ^ k) hs1 h0 hb hr1 (by omega) (acc_lt ha)
          refine ⟨o, ?_, ?_⟩
          · have h7 : ((k : Int) == 9) = false := by simp; omega
            simp only [h7, cond_false, cond_true, decide_eq_false hlt]
            exact ho
          · cases hg : getU (k + 1) (a + c.toNat % 128 * 128 ^ k) t with
            | none => rw [hg] at hm'; exact hm'
            | some p =>
              obtain ⟨v, c'⟩ := p
              rw [hg] at hm'
              simp only at hm' ⊢
              rw [hm']
              obtain ⟨m, _, _, _, hc', _⟩ := getU_get t (k + 1) _ v c' (by omega) (fun x hx => h.rest_byte x (by rw [hr]; simp [hx])) hg
              have e : s.2.1 + ((1 : Nat) : Int) + ((c' - (k + 1) : Nat) : Int) = s.2.1 + ((c' - k : Nat) : Int) := by omega
              simp only [rto, e]
theorem refU_eq {s : Rd} (h : RInv s) : ref02_ReadUvarint' s = some (rU s) := by
  unfold ref02_ReadUvarint' rU
  by_cases h0 : s.2.2 = 0
  · obtain ⟨o, h1, h2⟩ := ref_p10 s.1 s.2.1 (rest s) s 0 0 h h0 rfl rfl (by omega) (by decide)
    simp only [show ((0 : Nat) : Int) = 0 from rfl] at h1
    simp only [eta2, h1, Option.bind_some, if_pos h0]
    cases hg : getU 0 0 (rest s) with
    | none =>
      rw [hg] at h2
      obtain ⟨s', rfl, h3, h4⟩ := h2
      simp [ref02_wrong', h4, rfail, h3]
    | some p =>
      obtain ⟨v, c⟩ := p
      rw [hg] at h2
      simp only at h2
      rw [h2]; rfl
  · have h1 : (s.2.2 != 0) = true := by simp [h0]
    have h2 : (s.2.2 == 0) = false := by simp [h0]
    have hn : ref02_next' s = some (0, false, s) := by simp [ref02_next', h1]
    rw [if_neg h0, ref02_ReadUvarint_p10_eq]
    simp [hn, ref02_wrong', h2]
theorem refNum_eq {s : Rd} (h : RInv s) (most : Int) (hm : most ≤ 9223372036854775807) : ref02_ReadNumber' s most = some (rNum s most) := by
  unfold ref02_ReadNumber' rNum
  rw [refU_eq h]
  unfold rU
  by_cases h0 : s.2.2 = 0
  · simp only [if_pos h0]
    cases hg : getU 0 0 (rest s) with
    | none => simp [rfail]
    | some p =>
      obtain ⟨v, c⟩ := p
      have hv := (getU_le h.rest_byte hg).1
      by_cases hneg : most < 0
      · have : (v : Int) > most := by omega
        simp [rto, h0, hneg, this, ref02_wrong', rfail]
      · rw [u64_in (n := most) (by omega) (by omega)]
        by_cases hgt : (v : Int) > most
        · simp [rto, h0, hneg, hgt, ref02_wrong', rfail]
        · simp only [Option.bind_some, rto, h0, bne_self_eq_false, cond_false, decide_eq_false hneg, decide_eq_false hgt, if_neg hgt]
          rw [i64_in (by omega) (by omega)]
  · have h1 : (s.2.2 != 0) = true := by simp [h0]
    simp [h0, h1]
theorem toBytes_inj {a b : List Int} (ha : ∀ x ∈ a, IsByte x) (hb : ∀ x ∈ b, IsByte x) : (toBytes a == toBytes b) = true ↔ a = b := by
  rw [beq_iff_eq]
  refine ⟨fun h => ?_, fun h => by rw [h]⟩
  induction a generalizing b with
  | nil => cases b with
    | nil => rfl
    | cons y b => simp [toBytes] at h
  | cons x a ih => cases b with
    | nil => simp [toBytes] at h
    | cons y b =>
      simp only [toBytes, List.map_cons, List.cons.injEq] at h
      have hx := ha x (by simp); have hy := hb y (by simp)
      obtain ⟨hx0, hx1⟩ := hx; obtain ⟨hy0, hy1⟩ := hy
      have h1 := congrArg UInt8.toNat h.1
      simp only [UInt8.toNat_ofNat'] at h1
      rw [Nat.mod_eq_of_lt (by omega), Nat.mod_eq_of_lt (by omega)] at h1
      rw [ih (fun z hz => ha z (by simp [hz])) (fun z hz => hb z (by simp [hz])) h.2]
      congr 1; omega
end Go.Proofs.YthdkecdbodenkaaGreatDoor.gg
