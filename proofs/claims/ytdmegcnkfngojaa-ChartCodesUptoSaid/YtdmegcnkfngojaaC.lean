/- A chart's bytes, and which chart any bytes are: the plain laws. -/
import Derived.Test.YtdmegcnkfngojaaA
import Derived.Test.YtdmegcnkfngojaaW
open Go Go.GG
set_option linter.unusedVariables false
namespace Go.Proofs.Ytdmegcnkfngojaa.gg
def rgCd : Cd Rg := ((Cd.str 64 (by decide)).pair (Cd.str 64 (by decide))).pair ((Cd.num 16 (by decide) (by decide)).pair Cd.u)
def chCd : Cd (List Rg) := rgCd.list 64 (by decide)
theorem rg_enc (r : Rg) : rgCd.enc r = (putU (ofBytes r.1.1).length ++ ofBytes r.1.1 ++ (putU (ofBytes r.1.2).length ++ ofBytes r.1.2)) ++ (putU r.2.1.toNat ++ putU r.2.2.toNat) := rfl
theorem ch_ok {l : List Rg} (h : ChOk l) : chCd.ok l := by
  refine ⟨h.len2, fun r hr => ?_⟩
  obtain ⟨i, hi, rfl⟩ := List.getElem_of_mem hr
  have := h.each i hi
  rw [getD_lt hi] at this
  obtain ⟨a, b, c, d, e⟩ := this
  simp only [spMay, Bool.and_eq_true, decide_eq_true_eq] at a
  refine ⟨⟨?_, ?_⟩, ⟨by show (0 : Int) ≤ _; omega, c⟩, ?_, ?_⟩
  · show (l[i].1.1).length ≤ 64; omega
  · show (l[i].1.2).length ≤ 64; omega
  · show (0 : Int) ≤ l[i].2.2; omega
  · show l[i].2.2 < 18446744073709551616; omega
theorem rg_len {r : Rg} (h : rgCd.ok r) : (rgCd.enc r).length ≤ 200 := by
  obtain ⟨⟨h1, h2⟩, ⟨h3, h4⟩, h5, h6⟩ := h
  have h1 : (r.1.1).length ≤ 64 := h1
  have h2 : (r.1.2).length ≤ 64 := h2
  have h3 : (0 : Int) ≤ r.2.1 := h3
  have h4 : r.2.1 ≤ 16 := h4
  have h5 : (0 : Int) ≤ r.2.2 := h5
  have h6 : r.2.2 < 18446744073709551616 := h6
  rw [rg_enc]
  have := putU_len10 (n := (ofBytes r.1.1).length) (by rw [ofBytes_len]; omega)
  have := putU_len10 (n := (ofBytes r.1.2).length) (by rw [ofBytes_len]; omega)
  have := putU_len10 (n := r.2.1.toNat) (by omega)
  have := putU_len10 (n := r.2.2.toNat) (by omega)
  simp only [List.length_append, ofBytes_len] at *
  omega
theorem flat_len {l : List Rg} (h : ∀ r ∈ l, rgCd.ok r) : (l.flatMap rgCd.enc).length ≤ 200 * l.length := by
  induction l with
  | nil => simp
  | cons r l ih =>
    have := ih (fun x hx => h x (by simp [hx]))
    have := rg_len (h r (by simp))
    rw [List.flatMap_cons, List.length_append, List.length_cons]; omega
theorem ch_len {l : List Rg} (h : chCd.ok l) : (chCd.enc l).length ≤ 20000 := by
  have h1 : l.length ≤ 64 := h.1
  have := flat_len h.2
  have := putU_len10 (n := l.length) (by omega)
  show (putU l.length ++ l.flatMap rgCd.enc).length ≤ 20000
  rw [List.length_append]; omega
theorem flat_step {l : List Rg} {i : Nat} (h : i < l.length) : (l.take (i + 1)).flatMap rgCd.enc = (l.take i).flatMap rgCd.enc ++ rgCd.enc (nth l i rg0) := by
  rw [take_succ' h, getD_lt h, List.flatMap_append]; simp only [List.flatMap_cons, List.flatMap_nil, List.append_nil]
theorem take_len {l : List Rg} (h : chCd.ok l) (i : Nat) : (putU l.length ++ (l.take i).flatMap rgCd.enc).length ≤ 20000 := by
  have h1 : l.length ≤ 64 := h.1
  have := flat_len (l := l.take i) (fun r hr => h.2 r (List.mem_of_mem_take hr))
  have := putU_len10 (n := l.length) (by omega)
  have h5 : (l.take i).length ≤ l.length := by simp; omega
  rw [List.length_append]; omega
theorem get_ok {l : List Rg} (h : chCd.ok l) {i : Nat} (hi : i < l.length) : rgCd.ok (nth l i rg0) := by
  rw [getD_lt hi]; exact h.2 _ (by simp)
theorem Encode_eq {l : List Rg} (hl : l.length ≤ 1048576) : chart_Encode' l = some (cond (chMay l) (chCd.enc l, 0) ([], 1)) := by
  unfold chart_Encode'
  rw [chCheck_eq hl]
  cases hm : chMay l with
  | false => rfl
  | true =>
    have hc := ch_ok (chMay_iff.1 hm)
    have h1 : l.length ≤ 64 := hc.1
    have key : ∀ (i : Nat) (s : List Int), i ≤ l.length → s = putU l.length ++ (l.take i).flatMap rgCd.enc → chart_Encode_p18' l (l.length : Int) (i : Int) s = some (chCd.enc l) := by
      apply loop_inv l.length (fun i s => chart_Encode_p18' l (l.length : Int) (i : Int) s) (fun i s => s = putU l.length ++ (l.take i).flatMap rgCd.enc) (fun r => r = some (chCd.enc l))
      · rintro i s hi rfl
        refine .inl ⟨_, ?_, rfl⟩
        have hk := get_ok hc hi
        have hle := rg_len hk
        have ht := take_len hc i
        obtain ⟨⟨a1, a2⟩, ⟨a3, a4⟩, a5, a6⟩ := hk
        have a1 : ((nth l i rg0).1.1).length ≤ 64 := a1
        have a2 : ((nth l i rg0).1.2).length ≤ 64 := a2
        have a3 : (0 : Int) ≤ (nth l i rg0).2.1 := a3
        have a4 : (nth l i rg0).2.1 ≤ 16 := a4
        have a5 : (0 : Int) ≤ (nth l i rg0).2.2 := a5
        have a6 : (nth l i rg0).2.2 < 18446744073709551616 := a6
        rw [rg_enc] at hle
        simp only [List.length_append] at hle ht
        try dsimp only
        rw [chart_Encode_p18_eq, decide_eq_true (by omega : (i : Int) < (l.length : Int)), at?_getD hi rg0, wrap_succ (by omega)]
        simp only [cond_true, Option.bind_some]
        rw [wBytes_eq _ _ (by simp only [List.length_append]; omega) (by rw [ofBytes_len]; omega)]
        simp only [Option.bind_some]
        rw [wBytes_eq _ _ (by simp only [List.length_append]; omega) (by rw [ofBytes_len]; omega)]
        simp only [Option.bind_some]
        rw [u64_in (n := (nth l i rg0).2.1) (by omega) (by omega), Uvarint_eq' _ _ a3 (by omega) (by simp only [List.length_append]; omega)]
        simp only [Option.bind_some]
        rw [Uvarint_eq' _ _ a5 a6 (by simp only [List.length_append]; omega)]
        simp only [Option.bind_some]
        rw [flat_step hi, rg_enc]
        simp only [List.append_assoc]
      · rintro s rfl
        try dsimp only
        rw [chart_Encode_p18_eq, decide_eq_false (by omega : ¬ (l.length : Int) < (l.length : Int)), List.take_length]; rfl
    have := key 0 (putU l.length) (by omega) (by simp)
    simp only [show ((0 : Nat) : Int) = 0 from rfl] at this
    simp only [cond_true, Option.bind_some, bne_self_eq_false, cond_false]
    rw [u64_in (by omega) (by omega), Uvarint_eq [] l.length (by omega) (by simp)]
    simp only [Option.bind_some, List.nil_append, this]
theorem refEncode_eq {l : List Rg} (hc : chCd.ok l) : ref11_Encode' l = some (chCd.enc l) := by
  have h1 : l.length ≤ 64 := hc.1
  unfold ref11_Encode'
  have key : ∀ (i : Nat) (s : List Int), i ≤ l.length → s = putU l.length ++ (l.take i).flatMap rgCd.enc → ref11_Encode_p8' l (i : Int) s = some (chCd.enc l) := by
    apply loop_inv l.length (fun i s => ref11_Encode_p8' l (i : Int) s) (fun i s => s = putU l.length ++ (l.take i).flatMap rgCd.enc) (fun r => r = some (chCd.enc l))
    · rintro i s hi rfl
      refine .inl ⟨_, ?_, rfl⟩
      have hk := get_ok hc hi
      have hle := rg_len hk
      have ht := take_len hc i
      obtain ⟨⟨a1, a2⟩, ⟨a3, a4⟩, a5, a6⟩ := hk
      have a1 : ((nth l i rg0).1.1).length ≤ 64 := a1
      have a2 : ((nth l i rg0).1.2).length ≤ 64 := a2
      have a3 : (0 : Int) ≤ (nth l i rg0).2.1 := a3
      have a4 : (nth l i rg0).2.1 ≤ 16 := a4
      have a5 : (0 : Int) ≤ (nth l i rg0).2.2 := a5
      have a6 : (nth l i rg0).2.2 < 18446744073709551616 := a6
      rw [rg_enc] at hle
      simp only [List.length_append] at hle ht
      try dsimp only
      rw [ref11_Encode_p8_eq, decide_eq_true (by omega : (i : Int) < (l.length : Int)), at?_getD hi rg0, wrap_succ (by omega), flat_step hi, rg_enc]
      simp only [cond_true, Option.bind_some]
      rw [u64_in (n := (nth l i rg0).2.1) (by omega) (by omega), refBytes_eq _ (by rw [ofBytes_len]; omega), refBytes_eq _ (by rw [ofBytes_len]; omega), refUvarint_eq' _ a3 (by omega), refUvarint_eq' _ a5 a6]
      simp only [Option.bind_some]
      rw [room_of (by simp only [List.length_append]; omega), room_of (by simp only [List.length_append]; omega), room_of (by simp only [List.length_append]; omega), room_of (by simp only [List.length_append]; omega)]
      simp only [cond_true, List.append_assoc]
    · rintro s rfl
      try dsimp only
      rw [ref11_Encode_p8_eq, decide_eq_false (by omega : ¬ (l.length : Int) < (l.length : Int)), List.take_length]; rfl
  have := key 0 (putU l.length) (by omega) (by simp)
  simp only [show ((0 : Nat) : Int) = 0 from rfl] at this
  rw [u64_in (by omega) (by omega), refUvarint_eq l.length (by omega)]
  simp only [Option.bind_some, this]
theorem rg_rd (s : Rd) : rgCd.rd s = (((toBytes (rBytes s 64).1, toBytes (rBytes (rBytes s 64).2 64).1), (rNum (rBytes (rBytes s 64).2 64).2 16).1, (rU (rNum (rBytes (rBytes s 64).2 64).2 16).2).1), (rU (rNum (rBytes (rBytes s 64).2 64).2 16).2).2) := rfl
theorem dec_loop : ∀ (m i : Nat) (s : Rd) (acc : List Rg), RInv s → acc.length + m ≤ 64 → i + m ≤ 64 → chart_Decode_p10' ((i + m : Nat) : Int) (i : Int) s acc = some ((rgCd.rds m s).2, acc ++ (rgCd.rds m s).1)
  | 0, i, s, acc, h, ha, hi => by
    rw [chart_Decode_p10_eq, decide_eq_false (by omega)]
    simp [Cd.rds]
  | m + 1, i, s, acc, h, ha, hi => by
    have i1 := rBytes_inv h 64
    have i2 := rBytes_inv i1 64
    have i3 := rNum_inv i2 16
    have i4 := rU_inv i3
    rw [chart_Decode_p10_eq, decide_eq_true (by omega : (i : Int) < ((i + (m + 1) : Nat) : Int)), wrap_succ (by omega)]
    simp only [cond_true, eta2]
    rw [rBytes_eq h 64 (by decide)]
    simp only [Option.bind_some]
    rw [rBytes_eq i1 64 (by decide)]
    simp only [Option.bind_some]
    rw [rNumber_eq i2 16 (by decide)]
    simp only [Option.bind_some]
    rw [rUvarint_eq i3]
    simp only [Option.bind_some]
    rw [room_of (by simp; omega)]
    have ih := dec_loop m (i + 1) (rgCd.rd s).2 (acc ++ [(rgCd.rd s).1]) (rgCd.inv s h).1 (by simp; omega)
    rw [show i + 1 + m = i + (m + 1) by omega] at ih
    simp only [cond_true, Cd.rds]
    rw [rg_rd] at ih ⊢
    try dsimp only at ih ⊢
    rw [ih (by omega)]; simp
theorem Decode_eq {b : List Int} (hb : ∀ x ∈ b, IsByte x) (hl : b.length ≤ 1000000000000) : chart_Decode' b = some (cond (decide (chCd.enc (chCd.rd (b, 0, 0)).1 = b) && chMay (chCd.rd (b, 0, 0)).1) ((chCd.rd (b, 0, 0)).1, 0) ([], 5)) := by
  have i0 := read_inv b hl hb
  have i1 := rNum_inv i0 64
  have hn := rNum_range i0 64
  have hw := Cd.whole chCd hb hl
  have hinv := chCd.inv _ i0
  have hlen : (chCd.rd (b, 0, 0)).1.length ≤ 64 := hinv.2.1
  unfold chart_Decode'
  rw [rRead_eq b hl]
  simp only [Option.bind_some]
  rw [rNumber_eq i0 64 (by decide)]
  simp only [Option.bind_some, eta2]
  have hd := dec_loop (rNum (b, 0, 0) 64).1.toNat 0 (rNum (b, 0, 0) 64).2 [] i1 (by simp; omega) (by omega)
  rw [Nat.zero_add, Int.toNat_of_nonneg hn.1, show ((0 : Nat) : Int) = 0 from rfl] at hd
  rw [hd]
  have e : rgCd.rds (rNum (b, 0, 0) 64).1.toNat (rNum (b, 0, 0) 64).2 = chCd.rd (b, 0, 0) := rfl
  rw [e]
  simp only [Option.bind_some, List.nil_append]
  rw [rDone_eq hinv.1]
  simp only [Option.bind_some]
  rw [chCheck_eq (by omega)]
  by_cases h : (chCd.rd (b, 0, 0)).2.2.2 = 0
  · by_cases hr : rest (chCd.rd (b, 0, 0)).2 = []
    · rw [decide_eq_true (hw.1 ⟨h, hr⟩), if_neg (by simp [h]), if_neg (by simp [hr])]
      cases chMay (chCd.rd (b, 0, 0)).1 <;> rfl
    · rw [decide_eq_false (fun hd => hr (hw.2 hd).2), if_neg (by simp [h]), if_pos hr]; rfl
  · have : ((chCd.rd (b, 0, 0)).2.2.2 != 0) = true := by simp [h]
    rw [decide_eq_false (fun hd => h (hw.2 hd).1), if_pos h, this]; rfl
theorem refdec_loop (b : List Int) : ∀ (m i : Nat) (s : Rd) (acc : List Rg), RInv s → acc.length + m ≤ 64 → i + m ≤ 64 → ref11_Decode_p12' b ((i + m : Nat) : Int) (i : Int) s acc = some (b, acc ++ (rgCd.rds m s).1)
  | 0, i, s, acc, h, ha, hi => by
    rw [ref11_Decode_p12_eq, decide_eq_false (by omega)]
    simp [Cd.rds]
  | m + 1, i, s, acc, h, ha, hi => by
    have i1 := rBytes_inv h 64
    have i2 := rBytes_inv i1 64
    have i3 := rNum_inv i2 16
    have i4 := rU_inv i3
    rw [ref11_Decode_p12_eq, decide_eq_true (by omega : (i : Int) < ((i + (m + 1) : Nat) : Int)), wrap_succ (by omega)]
    simp only [cond_true, eta2]
    rw [refBytes_read h 64 (by decide)]
    simp only [Option.bind_some]
    rw [refBytes_read i1 64 (by decide)]
    simp only [Option.bind_some]
    rw [refNum_eq i2 16 (by decide)]
    simp only [Option.bind_some]
    rw [refU_eq i3]
    simp only [Option.bind_some]
    rw [room_of (by simp; omega)]
    have ih := refdec_loop b m (i + 1) (rgCd.rd s).2 (acc ++ [(rgCd.rd s).1]) (rgCd.inv s h).1 (by simp; omega) (by omega)
    rw [show i + 1 + m = i + (m + 1) by omega] at ih
    simp only [cond_true, Cd.rds]
    rw [rg_rd] at ih ⊢
    try dsimp only at ih ⊢
    rw [ih]; simp
theorem refDecode_eq {b : List Int} (hb : ∀ x ∈ b, IsByte x) (hl : b.length ≤ 1000000000000) : ref11_Decode' b = some (cond (decide (chCd.enc (chCd.rd (b, 0, 0)).1 = b) && chMay (chCd.rd (b, 0, 0)).1) ((chCd.rd (b, 0, 0)).1, true) ([], false)) := by
  have i0 := read_inv b hl hb
  have i1 := rNum_inv i0 64
  have hn := rNum_range i0 64
  have hinv := chCd.inv _ i0
  have hlen : (chCd.rd (b, 0, 0)).1.length ≤ 64 := hinv.2.1
  unfold ref11_Decode'
  rw [refNum_eq i0 64 (by decide)]
  simp only [Option.bind_some, eta2]
  have hd := refdec_loop b (rNum (b, 0, 0) 64).1.toNat 0 (rNum (b, 0, 0) 64).2 [] i1 (by simp; omega) (by omega)
  rw [Nat.zero_add, Int.toNat_of_nonneg hn.1, show ((0 : Nat) : Int) = 0 from rfl] at hd
  rw [hd]
  have e : rgCd.rds (rNum (b, 0, 0) 64).1.toNat (rNum (b, 0, 0) 64).2 = chCd.rd (b, 0, 0) := rfl
  rw [e]
  simp only [Option.bind_some, List.nil_append]
  rw [refMay_eq (by omega)]
  simp only [Option.bind_some]
  rw [refEncode_eq hinv.2]
  simp only [Option.bind_some]
  have ht := toBytes_inj (chCd.byte _ hinv.2) hb
  by_cases hd : chCd.enc (chCd.rd (b, 0, 0)).1 = b
  · rw [decide_eq_true hd, ht.2 hd]
    cases chMay (chCd.rd (b, 0, 0)).1 <;> rfl
  · rw [decide_eq_false hd]
    have : (toBytes (chCd.enc (chCd.rd (b, 0, 0)).1) == toBytes b) = false := by
      cases hh : (toBytes (chCd.enc (chCd.rd (b, 0, 0)).1) == toBytes b) with
      | true => exact absurd (ht.1 hh) hd
      | false => rfl
    rw [this]
    cases chMay (chCd.rd (b, 0, 0)).1 <;> rfl
theorem law_ChartDecodes (b : List Int) (hb : ∀ x ∈ b, IsByte x) : ∃ k, law11_ChartDecodes k b = some true := by
  refine (law11_ChartDecodes_lm b).fin ?_
  unfold law11_ChartDecodes'
  rw [awake11_eq]
  by_cases h : (b.length : Int) > 20000
  · rw [decide_eq_true h]; rfl
  · have hlen : (chCd.rd (b, 0, 0)).1.length ≤ 64 := (chCd.inv _ (read_inv b (by omega) hb)).2.1
    rw [decide_eq_false h, cond_false, List.nil_append, room_of (by omega), Decode_eq hb (by omega), refDecode_eq hb (by omega)]
    simp only [cond_true, Option.bind_some]
    cases (decide (chCd.enc (chCd.rd (b, 0, 0)).1 = b) && chMay (chCd.rd (b, 0, 0)).1) with
    | true =>
      simp only [cond_true]
      rw [Same_eq (by omega)]; simp
    | false =>
      simp only [cond_false]
      rw [Same_eq (by simp)]; simp
theorem law_ChartCodes (l : List Rg) (hl : l.length ≤ 1048576) : ∃ k, law11_ChartCodes k l = some true := by
  refine (law11_ChartCodes_lm l).fin ?_
  unfold law11_ChartCodes'
  rw [awake11_eq, Encode_eq hl, refMay_eq hl]
  cases hm : chMay l with
  | false => rfl
  | true =>
    have hc := ch_ok (chMay_iff.1 hm)
    have hle := ch_len hc
    have hbk := Cd.back chCd hc (by omega)
    simp only [Option.bind_some, cond_true, Bool.not_true, cond_false]
    rw [Decode_eq (chCd.byte l hc) (by omega), hbk, hm, refEncode_eq hc]
    simp only [decide_true, Bool.and_self, cond_true, Option.bind_some]
    rw [Same_eq hl]
    simp
end Go.Proofs.Ytdmegcnkfngojaa.gg
