/- Seats' bytes, and which seats any bytes are: the plain laws. -/
import Derived.Test.YtfhocjhnoocajaaX
import Derived.Test.YtfhocjhnoocajaaW
open Go Go.GG
set_option linter.unusedVariables false
namespace Go.Proofs.Ytfhocjhnoocajaa.gg
def seCd : Cd Seat := (Cd.num 8 (by decide) (by decide)).pair (Cd.u.pair (Cd.bytes 4096 (by decide)))
def tsCd : Cd (List Seat) := seCd.list 8 (by decide)
theorem se_enc (r : Seat) : seCd.enc r = putU r.1.toNat ++ (putU r.2.1.toNat ++ (putU r.2.2.length ++ r.2.2)) := rfl
theorem len_le8 {l : List Seat} (h : mayT l = true) : l.length ≤ 8 := by
  have hs := mayT_sorted h
  have key : ∀ i (hi : i < l.length), (i : Int) ≤ (l[i]).1 := by
    intro i
    induction i with
    | zero =>
      intro hi
      have := (mayT_get h (List.getElem_mem hi)).1
      simp only [callB, Bool.and_eq_true, decide_eq_true_eq] at this
      omega
    | succ i ih =>
      intro hi
      have h1 := ih (by omega)
      have h2 := List.pairwise_iff_getElem.1 hs i (i + 1) (by omega) hi (by omega)
      simp only [intOrd, decide_eq_true_eq] at h2
      omega
  by_cases h8 : l.length ≤ 8
  · exact h8
  · have h1 := key 8 (by omega)
    have := (mayT_get h (List.getElem_mem (by omega : 8 < l.length))).1
    simp only [callB, Bool.and_eq_true, decide_eq_true_eq] at this
    omega
theorem ts_ok {l : List Seat} (h : mayT l = true) (hb : ∀ x ∈ l, ∀ y ∈ x.2.2, IsByte y) : tsCd.ok l := by
  refine ⟨len_le8 h, fun r hr => ?_⟩
  obtain ⟨h1, h2⟩ := mayT_get h hr
  simp only [callB, Bool.and_eq_true, decide_eq_true_eq] at h1
  refine ⟨⟨by omega, by omega⟩, ⟨by omega, by omega⟩, hb r hr, h2⟩
theorem se_len {r : Seat} (h : seCd.ok r) : (seCd.enc r).length ≤ 4200 := by
  obtain ⟨⟨h1, h2⟩, ⟨h3, h4⟩, h5, h6⟩ := h
  rw [se_enc]
  have := putU_len10 (n := r.1.toNat) (by omega)
  have := putU_len10 (n := r.2.1.toNat) (by omega)
  have := putU_len10 (n := r.2.2.length) (by omega)
  simp only [List.length_append] at *
  omega
theorem sflat_len {l : List Seat} (h : ∀ r ∈ l, seCd.ok r) : (l.flatMap seCd.enc).length ≤ 4200 * l.length := by
  induction l with
  | nil => simp
  | cons r l ih =>
    have := ih (fun x hx => h x (by simp [hx]))
    have := se_len (h r (by simp))
    rw [List.flatMap_cons, List.length_append, List.length_cons]; omega
theorem ts_len {l : List Seat} (h : tsCd.ok l) : (tsCd.enc l).length ≤ 40000 := by
  have h1 : l.length ≤ 8 := h.1
  have := sflat_len h.2
  have := putU_len10 (n := l.length) (by omega)
  show (putU l.length ++ l.flatMap seCd.enc).length ≤ 40000
  rw [List.length_append]; omega
theorem sflat_step {l : List Seat} {i : Nat} (h : i < l.length) : (l.take (i + 1)).flatMap seCd.enc = (l.take i).flatMap seCd.enc ++ seCd.enc (nth l i st0) := by
  rw [take_succ' h, getD_lt h, List.flatMap_append]; simp only [List.flatMap_cons, List.flatMap_nil, List.append_nil]
theorem stake_len {l : List Seat} (h : tsCd.ok l) (i : Nat) : (putU l.length ++ (l.take i).flatMap seCd.enc).length ≤ 40000 := by
  have h1 : l.length ≤ 8 := h.1
  have := sflat_len (l := l.take i) (fun r hr => h.2 r (List.mem_of_mem_take hr))
  have := putU_len10 (n := l.length) (by omega)
  have h5 : (l.take i).length ≤ l.length := by simp; omega
  rw [List.length_append]; omega
theorem sget_ok {l : List Seat} (h : tsCd.ok l) {i : Nat} (hi : i < l.length) : seCd.ok (nth l i st0) := by
  rw [getD_lt hi]; exact h.2 _ (by simp)
theorem Encode_eq {l : List Seat} (hl : l.length ≤ 1048576) (hb : ∀ x ∈ l, ∀ y ∈ x.2.2, IsByte y) : session_Encode' l = some (cond (mayT l) (tsCd.enc l, 0) ([], 1)) := by
  unfold session_Encode'
  rw [Check_eq hl]
  cases hm : mayT l with
  | false => rfl
  | true =>
    have hc := ts_ok hm hb
    have h1 : l.length ≤ 8 := hc.1
    have key : ∀ (i : Nat) (s : List Int), i ≤ l.length → s = putU l.length ++ (l.take i).flatMap seCd.enc → session_Encode_p18' l (l.length : Int) (i : Int) s = some (tsCd.enc l) := by
      apply loop_inv l.length (fun i s => session_Encode_p18' l (l.length : Int) (i : Int) s) (fun i s => s = putU l.length ++ (l.take i).flatMap seCd.enc) (fun r => r = some (tsCd.enc l))
      · rintro i s hi rfl
        refine .inl ⟨_, ?_, rfl⟩
        have hk := sget_ok hc hi
        have hle := se_len hk
        have ht := stake_len hc i
        obtain ⟨⟨a3, a4⟩, ⟨a5, a6⟩, a7, a8⟩ := hk
        rw [se_enc] at hle
        simp only [List.length_append] at hle ht
        try dsimp only
        rw [session_Encode_p18_eq, decide_eq_true (by omega : (i : Int) < (l.length : Int)), at?_getD hi st0, wrap_succ (by omega)]
        simp only [cond_true, Option.bind_some]
        rw [u64_in (n := (nth l i st0).1) (by omega) (by omega), Uvarint_eq' _ _ a3 (by omega) (by simp only [List.length_append]; omega)]
        simp only [Option.bind_some]
        rw [Uvarint_eq' _ _ a5 a6 (by simp only [List.length_append]; omega)]
        simp only [Option.bind_some]
        rw [wBytes_eq _ _ (by simp only [List.length_append]; omega) (by omega)]
        simp only [Option.bind_some]
        rw [sflat_step hi, se_enc]
        simp only [List.append_assoc]
      · rintro s rfl
        try dsimp only
        rw [session_Encode_p18_eq, decide_eq_false (by omega : ¬ (l.length : Int) < (l.length : Int)), List.take_length]; rfl
    have := key 0 (putU l.length) (by omega) (by simp)
    simp only [show ((0 : Nat) : Int) = 0 from rfl] at this
    simp only [cond_true, Option.bind_some, bne_self_eq_false, cond_false]
    rw [u64_in (by omega) (by omega), Uvarint_eq [] l.length (by omega) (by simp)]
    simp only [Option.bind_some, List.nil_append, this]
theorem refEncode_eq {l : List Seat} (hc : tsCd.ok l) : ref16_Encode' l = some (tsCd.enc l) := by
  have h1 : l.length ≤ 8 := hc.1
  unfold ref16_Encode'
  have key : ∀ (i : Nat) (s : List Int), i ≤ l.length → s = putU l.length ++ (l.take i).flatMap seCd.enc → ref16_Encode_p8' l (i : Int) s = some (tsCd.enc l) := by
    apply loop_inv l.length (fun i s => ref16_Encode_p8' l (i : Int) s) (fun i s => s = putU l.length ++ (l.take i).flatMap seCd.enc) (fun r => r = some (tsCd.enc l))
    · rintro i s hi rfl
      refine .inl ⟨_, ?_, rfl⟩
      have hk := sget_ok hc hi
      have hle := se_len hk
      have ht := stake_len hc i
      obtain ⟨⟨a3, a4⟩, ⟨a5, a6⟩, a7, a8⟩ := hk
      rw [se_enc] at hle
      simp only [List.length_append] at hle ht
      try dsimp only
      rw [ref16_Encode_p8_eq, decide_eq_true (by omega : (i : Int) < (l.length : Int)), at?_getD hi st0, wrap_succ (by omega), sflat_step hi, se_enc]
      simp only [cond_true, Option.bind_some]
      rw [u64_in (n := (nth l i st0).1) (by omega) (by omega), refUvarint_eq' _ a3 (by omega), refUvarint_eq' _ a5 a6, refBytes_eq _ (by omega)]
      simp only [Option.bind_some]
      rw [room_of (by simp only [List.length_append]; omega), room_of (by simp only [List.length_append]; omega), room_of (by simp only [List.length_append]; omega)]
      simp only [cond_true, List.append_assoc]
    · rintro s rfl
      try dsimp only
      rw [ref16_Encode_p8_eq, decide_eq_false (by omega : ¬ (l.length : Int) < (l.length : Int)), List.take_length]; rfl
  have := key 0 (putU l.length) (by omega) (by simp)
  simp only [show ((0 : Nat) : Int) = 0 from rfl] at this
  rw [u64_in (by omega) (by omega), refUvarint_eq l.length (by omega)]
  simp only [Option.bind_some, this]
theorem se_rd (s : Rd) : seCd.rd s = (((rNum s 8).1, ((rU (rNum s 8).2).1, (rBytes (rU (rNum s 8).2).2 4096).1)), (rBytes (rU (rNum s 8).2).2 4096).2) := rfl
theorem dec_loop : ∀ (m i : Nat) (s : Rd) (acc : List Seat), RInv s → acc.length + m ≤ 8 → i + m ≤ 8 → session_Decode_p10' ((i + m : Nat) : Int) (i : Int) s acc = some ((seCd.rds m s).2, acc ++ (seCd.rds m s).1)
  | 0, i, s, acc, h, ha, hi => by
    rw [session_Decode_p10_eq, decide_eq_false (by omega)]
    simp [Cd.rds]
  | m + 1, i, s, acc, h, ha, hi => by
    have i1 := rNum_inv h 8
    have i2 := rU_inv i1
    have i3 := rBytes_inv i2 4096
    rw [session_Decode_p10_eq, decide_eq_true (by omega : (i : Int) < ((i + (m + 1) : Nat) : Int)), wrap_succ (by omega)]
    simp only [cond_true, eta2]
    rw [rNumber_eq h 8 (by decide)]
    simp only [Option.bind_some]
    rw [rUvarint_eq i1]
    simp only [Option.bind_some]
    rw [rBytes_eq i2 4096 (by decide)]
    simp only [Option.bind_some]
    rw [room_of (by simp; omega)]
    have ih := dec_loop m (i + 1) (seCd.rd s).2 (acc ++ [(seCd.rd s).1]) (seCd.inv s h).1 (by simp; omega)
    rw [show i + 1 + m = i + (m + 1) by omega] at ih
    simp only [cond_true, Cd.rds]
    rw [se_rd] at ih ⊢
    try dsimp only at ih ⊢
    rw [ih (by omega)]; simp
theorem Decode_eq {b : List Int} (hb : ∀ x ∈ b, IsByte x) (hl : b.length ≤ 1000000000000) : session_Decode' b = some (cond (decide (tsCd.enc (tsCd.rd (b, 0, 0)).1 = b) && mayT (tsCd.rd (b, 0, 0)).1) ((tsCd.rd (b, 0, 0)).1, 0) ([], 5)) := by
  have i0 := read_inv b hl hb
  have i1 := rNum_inv i0 8
  have hn := rNum_range i0 8
  have hw := Cd.whole tsCd hb hl
  have hinv := tsCd.inv _ i0
  have hlen : (tsCd.rd (b, 0, 0)).1.length ≤ 8 := hinv.2.1
  unfold session_Decode'
  rw [rRead_eq b hl]
  simp only [Option.bind_some]
  rw [rNumber_eq i0 8 (by decide)]
  simp only [Option.bind_some, eta2]
  have hd := dec_loop (rNum (b, 0, 0) 8).1.toNat 0 (rNum (b, 0, 0) 8).2 [] i1 (by simp; omega) (by omega)
  rw [Nat.zero_add, Int.toNat_of_nonneg hn.1, show ((0 : Nat) : Int) = 0 from rfl] at hd
  rw [hd]
  have e : seCd.rds (rNum (b, 0, 0) 8).1.toNat (rNum (b, 0, 0) 8).2 = tsCd.rd (b, 0, 0) := rfl
  rw [e]
  simp only [Option.bind_some, List.nil_append]
  rw [rDone_eq hinv.1]
  simp only [Option.bind_some]
  rw [Check_eq (by omega)]
  by_cases h : (tsCd.rd (b, 0, 0)).2.2.2 = 0
  · by_cases hr : rest (tsCd.rd (b, 0, 0)).2 = []
    · rw [decide_eq_true (hw.1 ⟨h, hr⟩), if_neg (by simp [h]), if_neg (by simp [hr])]
      cases mayT (tsCd.rd (b, 0, 0)).1 <;> rfl
    · rw [decide_eq_false (fun hd => hr (hw.2 hd).2), if_neg (by simp [h]), if_pos hr]; rfl
  · have : ((tsCd.rd (b, 0, 0)).2.2.2 != 0) = true := by simp [h]
    rw [decide_eq_false (fun hd => h (hw.2 hd).1), if_pos h, this]; rfl
theorem refdec_loop (b : List Int) : ∀ (m i : Nat) (s : Rd) (acc : List Seat), RInv s → acc.length + m ≤ 8 → i + m ≤ 8 → ref16_Decode_p12' b ((i + m : Nat) : Int) (i : Int) s acc = some (b, acc ++ (seCd.rds m s).1)
  | 0, i, s, acc, h, ha, hi => by
    rw [ref16_Decode_p12_eq, decide_eq_false (by omega)]
    simp [Cd.rds]
  | m + 1, i, s, acc, h, ha, hi => by
    have i1 := rNum_inv h 8
    have i2 := rU_inv i1
    have i3 := rBytes_inv i2 4096
    rw [ref16_Decode_p12_eq, decide_eq_true (by omega : (i : Int) < ((i + (m + 1) : Nat) : Int)), wrap_succ (by omega)]
    simp only [cond_true, eta2]
    rw [refNum_eq h 8 (by decide)]
    simp only [Option.bind_some]
    rw [refU_eq i1]
    simp only [Option.bind_some]
    rw [refBytes_read i2 4096 (by decide)]
    simp only [Option.bind_some]
    rw [room_of (by simp; omega)]
    have ih := refdec_loop b m (i + 1) (seCd.rd s).2 (acc ++ [(seCd.rd s).1]) (seCd.inv s h).1 (by simp; omega) (by omega)
    rw [show i + 1 + m = i + (m + 1) by omega] at ih
    simp only [cond_true, Cd.rds]
    rw [se_rd] at ih ⊢
    try dsimp only at ih ⊢
    rw [ih]; simp
theorem refDecode_eq {b : List Int} (hb : ∀ x ∈ b, IsByte x) (hl : b.length ≤ 1000000000000) : ref16_Decode' b = some (cond (decide (tsCd.enc (tsCd.rd (b, 0, 0)).1 = b) && mayT (tsCd.rd (b, 0, 0)).1) ((tsCd.rd (b, 0, 0)).1, true) ([], false)) := by
  have i0 := read_inv b hl hb
  have i1 := rNum_inv i0 8
  have hn := rNum_range i0 8
  have hinv := tsCd.inv _ i0
  have hlen : (tsCd.rd (b, 0, 0)).1.length ≤ 8 := hinv.2.1
  unfold ref16_Decode'
  rw [refNum_eq i0 8 (by decide)]
  simp only [Option.bind_some, eta2]
  have hd := refdec_loop b (rNum (b, 0, 0) 8).1.toNat 0 (rNum (b, 0, 0) 8).2 [] i1 (by simp; omega) (by omega)
  rw [Nat.zero_add, Int.toNat_of_nonneg hn.1, show ((0 : Nat) : Int) = 0 from rfl] at hd
  rw [hd]
  have e : seCd.rds (rNum (b, 0, 0) 8).1.toNat (rNum (b, 0, 0) 8).2 = tsCd.rd (b, 0, 0) := rfl
  rw [e]
  simp only [Option.bind_some, List.nil_append]
  rw [refMay_eq (by omega)]
  simp only [Option.bind_some]
  rw [refEncode_eq hinv.2]
  simp only [Option.bind_some]
  have ht := toBytes_inj (tsCd.byte _ hinv.2) hb
  by_cases hd : tsCd.enc (tsCd.rd (b, 0, 0)).1 = b
  · rw [decide_eq_true hd, ht.2 hd]
    cases mayT (tsCd.rd (b, 0, 0)).1 <;> rfl
  · rw [decide_eq_false hd]
    have : (toBytes (tsCd.enc (tsCd.rd (b, 0, 0)).1) == toBytes b) = false := by
      cases hh : (toBytes (tsCd.enc (tsCd.rd (b, 0, 0)).1) == toBytes b) with
      | true => exact absurd (ht.1 hh) hd
      | false => rfl
    rw [this]
    cases mayT (tsCd.rd (b, 0, 0)).1 <;> rfl
theorem law_SessionDecodes (b : List Int) (hb : ∀ x ∈ b, IsByte x) : ∃ k, law16_SessionDecodes k b = some true := by
  refine (law16_SessionDecodes_lm b).fin ?_
  unfold law16_SessionDecodes'
  rw [awake_eq]
  by_cases h : (b.length : Int) > 40000
  · rw [decide_eq_true h]; rfl
  · have hlen : (tsCd.rd (b, 0, 0)).1.length ≤ 8 := (tsCd.inv _ (read_inv b (by omega) hb)).2.1
    rw [decide_eq_false h, cond_false, List.nil_append, room_of (by omega), Decode_eq hb (by omega), refDecode_eq hb (by omega)]
    simp only [cond_true, Option.bind_some]
    cases (decide (tsCd.enc (tsCd.rd (b, 0, 0)).1 = b) && mayT (tsCd.rd (b, 0, 0)).1) with
    | true =>
      simp only [cond_true]
      rw [Same_refl _ (by omega)]; simp
    | false =>
      simp only [cond_false]
      rw [Same_refl _ (by simp)]; simp
theorem law_SessionCodes (l : List Seat) (hl : l.length ≤ 1048576) (hr : ∀ x ∈ l, x.2.2.length ≤ 1048576) (hb : ∀ x ∈ l, ∀ y ∈ x.2.2, IsByte y) : ∃ k, law16_SessionCodes k l = some true := by
  refine (law16_SessionCodes_lm l).fin ?_
  unfold law16_SessionCodes'
  obtain ⟨bl, hbl⟩ := light_some hl hr
  rw [hbl, awake_eq, Encode_eq hl hb, refMay_eq hl]
  simp only [Option.bind_some]
  cases bl with
  | false => rfl
  | true =>
    cases hm : mayT l with
    | false => rfl
    | true =>
      have hc := ts_ok hm hb
      have hle := ts_len hc
      have hbk := Cd.back tsCd hc (by omega)
      simp only [Option.bind_some, cond_true, Bool.not_true, cond_false]
      rw [Decode_eq (tsCd.byte l hc) (by omega), hbk, hm, refEncode_eq hc]
      simp only [decide_true, Bool.and_self, cond_true, Option.bind_some]
      rw [Same_refl _ (by omega)]
      simp
end Go.Proofs.Ytfhocjhnoocajaa.gg
