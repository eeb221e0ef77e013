/- A hard state's bytes, and which state bytes are: the plain laws. -/
import Derived.Test.YthdkecdbodenkaaGreatDoorFB
open Go Go.GG Go.Proofs
set_option linter.unusedVariables false
namespace Go.Proofs.YthdkecdbodenkaaGreatDoor.gg
abbrev HV := Int × Int × Int
abbrev hvT : T := .pair (.int .u64) (.pair (.int .i64) (.int .u64))
def HOk (h : HV) : Prop := (0 ≤ h.1 ∧ h.1 < 18446744073709551616) ∧ (0 ≤ h.2.2 ∧ h.2.2 < 18446744073709551616)
def mayH (h : HV) : Prop := 0 ≤ h.2.1 ∧ h.2.1 ≤ 7
def payF (h : HV) : List Int := putU h.1.toNat ++ putU h.2.1.toNat ++ putU h.2.2.toNat
def encF (h : HV) : List Int := frameF 2 (payF h)
theorem payF_byte (h : HV) : ∀ x ∈ payF h, IsByte x := by
  intro x hx
  simp only [payF, List.mem_append] at hx
  rcases hx with (hx | hx) | hx <;> exact putU_byte _ x hx
theorem payF_len {h : HV} (hk : HOk h) (hm : mayH h) : (payF h).length ≤ 30 := by
  obtain ⟨⟨h1, h2⟩, h3, h4⟩ := hk
  obtain ⟨h5, h6⟩ := hm
  have e1 := putU_len10 (n := h.1.toNat) (by omega)
  have e2 := putU_len10 (n := h.2.1.toNat) (by omega)
  have e3 := putU_len10 (n := h.2.2.toNat) (by omega)
  simp only [payF, List.length_append]
  omega
theorem two_byte : IsByte 2 := ⟨by decide, by decide⟩
theorem encF_byte (h : HV) : ∀ x ∈ encF h, IsByte x := frameF_byte two_byte (payF_byte h)
theorem encF_len {h : HV} (hk : HOk h) (hm : mayH h) : (encF h).length ≤ 45 := by
  have h1 := payF_len hk hm
  have h2 := frameF_len (k := 2) (b := payF h) (by omega)
  unfold encF
  omega
/-- A frame is found. -/
theorem nextF_frame {k : Int} {p : List Int} (hk : IsByte k) (hp : ∀ x ∈ p, IsByte x) (hl : p.length ≤ 1048571) (t : List Int) : nextF (frameF k p ++ t) = (k, p, ((frameF k p).length : Int), 0) := by
  unfold nextF frameF
  have hs : (sealF (k :: p)).length = p.length + 5 := by rw [sealF_len, List.length_cons]
  rw [List.append_assoc, getU_putU (by omega)]
  simp only
  rw [if_neg (by omega), List.length_append, List.length_append, hs, if_neg (by omega), List.drop_left, List.take_left' hs, sealF_drop, if_pos rfl]
  refine Prod.ext ?_ (Prod.ext ?_ (Prod.ext ?_ rfl))
  · show nth (sealF (k :: p)) 4 0 = k
    rw [getD_lt (by omega)]
    rfl
  · show (sealF (k :: p)).drop 5 = p
    rfl
  · show (((putU (p.length + 5)).length + (p.length + 5) : Nat) : Int) = ((putU (p.length + 5) ++ sealF (k :: p)).length : Int)
    rw [List.length_append, hs]
theorem nextF_sound {b : List Int} (hb : ∀ x ∈ b, IsByte x) (e : (nextF b).2.2.2 = 0) : IsByte (nextF b).1 ∧ (∀ x ∈ (nextF b).2.1, IsByte x) ∧ (nextF b).2.1.length ≤ 1048571 ∧
    (nextF b).2.2.1 = ((frameF (nextF b).1 (nextF b).2.1).length : Int) ∧ ∃ t, b = frameF (nextF b).1 (nextF b).2.1 ++ t := by
  unfold nextF at e ⊢
  cases hg : getU 0 0 b with
  | none =>
    rw [hg] at e
    simp only at e
    cases ho : openF b <;> rw [ho] at e <;> cases e
  | some q =>
    obtain ⟨v, c⟩ := q
    obtain ⟨hv, hc0, hc10, hcl, hcv, hbs⟩ := getU_le hb hg
    rw [hg] at e
    simp only at e ⊢
    by_cases h1 : v < 5 ∨ 1048576 < v
    · rw [if_pos h1] at e; cases e
    · rw [if_neg h1] at e ⊢
      by_cases h2 : b.length - c < v
      · rw [if_pos h2] at e; cases e
      · rw [if_neg h2] at e ⊢
        have hbody : ((b.drop c).take v).length = v := by rw [List.length_take, List.length_drop]; omega
        have hbb : ∀ x ∈ (b.drop c).take v, IsByte x := fun x hx => hb x (List.mem_of_mem_drop (List.mem_of_mem_take hx))
        have hsp : b = putU v ++ ((b.drop c).take v ++ (b.drop c).drop v) := by rw [List.take_append_drop]; exact hbs
        generalize (b.drop c).take v = body at hbody hbb e hsp ⊢
        by_cases h3 : sealF (body.drop 4) = body
        · rw [if_pos h3]
          simp only
          have h4 : 4 < body.length := by omega
          have hd : body.drop 4 = nth body 4 0 :: body.drop 5 := by
            rw [List.drop_eq_getElem_cons h4, getD_lt h4]
          have hlen : (body.drop 5).length + 5 = v := by rw [List.length_drop]; omega
          have hfr : frameF (nth body 4 0) (body.drop 5) = putU v ++ body := by
            unfold frameF
            rw [hlen, ← hd, h3]
          refine ⟨?_, fun x hx => hbb x (List.mem_of_mem_drop hx), by omega, ?_, ?_⟩
          · rw [getD_lt h4]; exact hbb _ (List.getElem_mem h4)
          · rw [hfr, List.length_append, hbody, ← hcv]
          · refine ⟨(b.drop c).drop v, ?_⟩
            rw [hfr, List.append_assoc]
            exact hsp
        · rw [if_neg h3] at e; cases e
theorem Encode_is {h : HV} (hk : HOk h) : hard_Encode' h = some (if h.2.1 < 0 ∨ h.2.1 > 7 then ([], 1) else (encF h, 0)) := by
  unfold hard_Encode'
  by_cases h0 : h.2.1 < 0
  · rw [if_pos (.inl h0), decide_eq_true h0]; rfl
  · by_cases h7 : h.2.1 > 7
    · rw [if_pos (.inr h7), decide_eq_false h0, decide_eq_true h7]; rfl
    · rw [if_neg (by omega), decide_eq_false h0, decide_eq_false h7]
      have hm : mayH h := ⟨by omega, by omega⟩
      have hpl := payF_len hk hm
      obtain ⟨⟨h1, h2⟩, h3, h4⟩ := hk
      have e1 := putU_len10 (n := h.1.toNat) (by omega)
      have e2 := putU_len10 (n := h.2.1.toNat) (by omega)
      simp only [cond_false]
      rw [Uvarint_eq' [] h.1 h1 h2 (by simp)]
      simp only [Option.bind_some, List.nil_append]
      rw [u64_in (n := h.2.1) (by omega) (by omega), Uvarint_eq' _ h.2.1 (by omega) (by omega) (by omega)]
      simp only [Option.bind_some]
      rw [Uvarint_eq' _ h.2.2 h3 h4 (by rw [List.length_append]; omega)]
      simp only [Option.bind_some]
      show ((frame_Put' 2 (payF h)).bind fun r4 => some r4) = some (encF h, 0)
      rw [Put_is two_byte (payF_byte h) (by omega)]
      rw [if_neg (by show ¬ ((payF h).length : Int) > 1048571; omega)]
      rfl
theorem refEncode_is {h : HV} (hk : HOk h) (hm : mayH h) : ref07_Encode' h = some (encF h) := by
  unfold ref07_Encode'
  have hpl := payF_len hk hm
  obtain ⟨⟨h1, h2⟩, h3, h4⟩ := hk
  obtain ⟨h5, h6⟩ := hm
  have e1 := putU_len10 (n := h.1.toNat) (by omega)
  have e2 := putU_len10 (n := h.2.1.toNat) (by omega)
  have e3 := putU_len10 (n := h.2.2.toNat) (by omega)
  rw [refUvarint_eq' h.1 h1 h2]
  simp only [Option.bind_some]
  rw [u64_in (n := h.2.1) (by omega) (by omega), refUvarint_eq' h.2.1 (by omega) (by omega)]
  simp only [Option.bind_some]
  rw [room_of (by rw [List.length_append]; omega), refUvarint_eq' h.2.2 h3 h4]
  simp only [cond_true, Option.bind_some]
  rw [room_of (by rw [List.length_append, List.length_append]; omega)]
  show ((ref03_Frame' 2 (payF h)).bind fun r4 => some r4) = some (encF h)
  rw [refFrame_is two_byte (payF_byte h) (by omega)]
  rfl
theorem payF_reads {h : HV} (hk : HOk h) (hm : mayH h) : ∃ s1 s2 s3, rU (payF h, 0, 0) = (h.1, s1) ∧ rNum s1 7 = (h.2.1, s2) ∧ rU s2 = (h.2.2, s3) ∧ RInv s1 ∧ RInv s2 ∧ RInv s3 ∧ s3.2.2 = 0 ∧ rest s3 = [] := by
  have hpl := payF_len hk hm
  obtain ⟨⟨h1, h2⟩, h3, h4⟩ := hk
  obtain ⟨h5, h6⟩ := hm
  obtain ⟨s1, a1, a2, a3, a4, _⟩ := rU_read (read_inv (payF h) (by omega) (payF_byte h)) rfl (n := h.1.toNat) (by omega) (r := putU h.2.1.toNat ++ putU h.2.2.toNat) (by rw [read_rest]; simp [payF])
  obtain ⟨s2, b1, b2, b3, b4, _⟩ := rNum_read a2 a3 (n := h.2.1.toNat) (by omega) (most := 7) (by omega) (r := putU h.2.2.toNat) a4
  obtain ⟨s3, c1, c2, c3, c4, _⟩ := rU_read b2 b3 (n := h.2.2.toNat) (by omega) (r := []) (by rw [b4]; simp)
  rw [Int.toNat_of_nonneg h1] at a1
  rw [Int.toNat_of_nonneg h5] at b1
  rw [Int.toNat_of_nonneg h3] at c1
  exact ⟨s1, s2, s3, a1, b1, c1, a2, b2, c2, c3, c4⟩
theorem rNum_most {s : Rd} (h : RInv s) {most : Int} (hm : 0 ≤ most) : 0 ≤ (rNum s most).1 ∧ (rNum s most).1 ≤ most := by
  unfold rNum
  split
  · split
    · exact ⟨by simp, hm⟩
    · split
      · exact ⟨by simp, hm⟩
      · exact ⟨by simp, by simp only; omega⟩
  · exact ⟨by simp, hm⟩
theorem Decode_full {h : HV} (hk : HOk h) (hm : mayH h) : hard_Decode' (encF h) = some (h, 0) := by
  have hpl := payF_len hk hm
  have hel := encF_len hk hm
  unfold hard_Decode'
  rw [Next_is (by omega) (encF_byte h)]
  have hn := nextF_frame two_byte (payF_byte h) (by omega) []
  rw [List.append_nil] at hn
  rw [show nextF (encF h) = (2, payF h, ((encF h).length : Int), 0) from hn]
  simp only [Option.bind_some]
  have b1 : ((0 : Int) != 0) = false := by decide
  have b2 : ((2 : Int) != 2) = false := by decide
  have b3 : (((encF h).length : Int) != ((encF h).length : Int)) = false := by simp
  simp only [b1, b2, b3, cond_false]
  obtain ⟨s1, s2, s3, r1, r2, r3, i1, i2, i3, z3, t3⟩ := payF_reads hk hm
  rw [rRead_eq _ (by omega)]
  simp only [Option.bind_some]
  rw [rUvarint_eq (read_inv _ (by omega) (payF_byte h)), r1]
  simp only [Option.bind_some]
  rw [rNumber_eq i1 7 (by decide), r2]
  simp only [Option.bind_some]
  rw [rUvarint_eq i2, r3]
  simp only [Option.bind_some]
  rw [rDone_eq i3, if_neg (by simp [z3]), if_neg (by simp [t3])]
  rfl
theorem Decode_sound {b : List Int} (hl : b.length ≤ 1000000) (hb : ∀ x ∈ b, IsByte x) : ∃ x e, hard_Decode' b = some (x, e) ∧ ((e = 0 ∧ HOk x ∧ mayH x ∧ b = encF x) ∨ (e = 5 ∧ x = (0, 0, 0))) := by
  unfold hard_Decode'
  rw [Next_is (by omega) hb]
  simp only [Option.bind_some]
  by_cases he : (nextF b).2.2.2 = 0
  · have b1 : ((nextF b).2.2.2 != 0) = false := by simp [he]
    rw [b1]
    obtain ⟨hkb, hdb, hdl, hn, t, hbt⟩ := nextF_sound hb he
    generalize nextF b = q at *
    obtain ⟨k, d, n, e⟩ := q
    simp only at *
    by_cases hk2 : k = 2
    · subst hk2
      have b2 : ((2 : Int) != 2) = false := by decide
      simp only [b2, cond_false]
      by_cases hnb : n = (b.length : Int)
      · have b3 : (n != (b.length : Int)) = false := by simp [hnb]
        have ht : t = [] := by
          have := congrArg List.length hbt
          rw [List.length_append] at this
          exact List.eq_nil_of_length_eq_zero (by omega)
        subst ht
        rw [List.append_nil] at hbt
        rw [b3, cond_false, rRead_eq _ (by omega)]
        have i0 := read_inv d (by omega) hdb
        simp only [Option.bind_some]
        rw [rUvarint_eq i0]
        simp only [Option.bind_some]
        have i1 := rU_inv i0
        rw [rNumber_eq i1 7 (by decide)]
        simp only [Option.bind_some]
        have i2 := rNum_inv i1 7
        rw [rUvarint_eq i2]
        simp only [Option.bind_some]
        have i3 := rU_inv i2
        rw [rDone_eq i3]
        simp only [Option.bind_some]
        by_cases hz : (rU (rNum (rU (d, 0, 0)).2 7).2).2.2.2 = 0 ∧ rest (rU (rNum (rU (d, 0, 0)).2 7).2).2 = []
        · rw [if_neg (by simp [hz.1]), if_neg (by simp [hz.2])]
          obtain ⟨z2, c, hc1, hc2, hc3, _⟩ := rU_ok i2 hz.1
          obtain ⟨z1, v, hv1, hv2, hv3, hv4, _⟩ := rNum_ok i1 z2
          obtain ⟨_, u, hu1, hu2, hu3, _⟩ := rU_ok i0 z1
          refine ⟨((u : Int), (v : Int), (c : Int)), 0, ?_, .inl ⟨rfl, ⟨⟨by simp, by simp only; omega⟩, by simp, by simp only; omega⟩, ⟨by simp, hv2⟩, ?_⟩⟩
          · rw [hu2, hv3, hc2]; rfl
          · rw [hz.2, List.append_nil] at hc3
            rw [hc3] at hv4
            rw [hv4, read_rest] at hu3
            rw [hbt, hu3]
            simp [encF, payF]
        · refine ⟨(0, 0, 0), 5, ?_, .inr ⟨rfl, rfl⟩⟩
          by_cases hz1 : (rU (rNum (rU (d, 0, 0)).2 7).2).2.2.2 = 0
          · rw [if_neg (by simp [hz1]), if_pos (fun h => hz ⟨hz1, h⟩)]; rfl
          · rw [if_pos hz1]
            have : ((rU (rNum (rU (d, 0, 0)).2 7).2).2.2.2 != 0) = true := by simp [hz1]
            simp only [this]; rfl
      · have b3 : (n != (b.length : Int)) = true := by simp [hnb]
        rw [b3]
        exact ⟨_, _, rfl, .inr ⟨rfl, rfl⟩⟩
    · have b2 : (k != 2) = true := by simp [hk2]
      rw [b2]
      exact ⟨_, _, rfl, .inr ⟨rfl, rfl⟩⟩
  · have b1 : ((nextF b).2.2.2 != 0) = true := by simp [he]
    rw [b1]
    exact ⟨_, _, rfl, .inr ⟨rfl, rfl⟩⟩
theorem refMay_is (h : HV) : ref07_May' h = some (decide (0 ≤ h.2.1) && decide (h.2.1 ≤ 7)) := by
  unfold ref07_May'
  by_cases h0 : 0 ≤ h.2.1
  · rw [decide_eq_true (by omega : h.2.1 ≥ 0)]; rfl
  · rw [decide_eq_false (by omega : ¬ h.2.1 ≥ 0)]; rfl
theorem refDecode_full {h : HV} (hk : HOk h) (hm : mayH h) : ref07_Decode' (encF h) = some (h, true) := by
  have hpl := payF_len hk hm
  have hel := encF_len hk hm
  unfold ref07_Decode'
  rw [refNext_is (by omega) (encF_byte h)]
  have hn := nextF_frame two_byte (payF_byte h) (by omega) []
  rw [List.append_nil] at hn
  rw [show nextF (encF h) = (2, payF h, ((encF h).length : Int), 0) from hn]
  simp only [Option.bind_some]
  have b1 : ((0 : Int) != 0) = false := by decide
  simp only [b1, cond_false]
  obtain ⟨s1, s2, s3, r1, r2, r3, i1, i2, i3, z3, t3⟩ := payF_reads hk hm
  rw [refU_eq (read_inv _ (by omega) (payF_byte h)), r1]
  simp only [Option.bind_some]
  rw [refNum_eq i1 7 (by decide), r2]
  simp only [Option.bind_some]
  rw [refU_eq i2, r3]
  simp only [Option.bind_some]
  rw [refMay_is]
  simp only [Option.bind_some]
  rw [decide_eq_true hm.1, decide_eq_true hm.2]
  simp only [Bool.and_self, Bool.not_true, cond_false]
  rw [show (h.1, h.2.1, h.2.2) = h from rfl, refEncode_is hk hm]
  simp only [Option.bind_some]
  rw [toBytes_eq (encF_byte h) (encF_byte h)]
  simp
theorem refDecode_sound {b : List Int} (hl : b.length ≤ 1000000) (hb : ∀ x ∈ b, IsByte x) : ∃ x ok, ref07_Decode' b = some (x, ok) ∧ ((ok = true ∧ HOk x ∧ mayH x ∧ b = encF x) ∨ (ok = false ∧ x = (0, 0, 0))) := by
  unfold ref07_Decode'
  rw [refNext_is (by omega) hb]
  simp only [Option.bind_some]
  by_cases he : (nextF b).2.2.2 = 0
  · have b1 : ((nextF b).2.2.2 != 0) = false := by simp [he]
    rw [b1]
    obtain ⟨hkb, hdb, hdl, hn, t, hbt⟩ := nextF_sound hb he
    simp only [cond_false]
    have i0 := read_inv (nextF b).2.1 (by omega) hdb
    rw [refU_eq i0]
    simp only [Option.bind_some]
    have i1 := rU_inv i0
    rw [refNum_eq i1 7 (by decide)]
    simp only [Option.bind_some]
    have i2 := rNum_inv i1 7
    rw [refU_eq i2]
    simp only [Option.bind_some]
    rw [refMay_is]
    have g1 := rU_range i0
    have g2 := rNum_most i1 (most := 7) (by decide)
    have g3 := rU_range i2
    generalize (rU ((nextF b).2.1, 0, 0)).1 = u at *
    generalize hv : (rNum (rU ((nextF b).2.1, 0, 0)).2 7).1 = v at *
    generalize hc : (rU (rNum (rU ((nextF b).2.1, 0, 0)).2 7).2).1 = c at *
    simp only [Option.bind_some]
    rw [decide_eq_true g2.1, decide_eq_true g2.2]
    simp only [Bool.and_self, Bool.not_true, cond_false]
    have hk : HOk (u, v, c) := ⟨g1, g3⟩
    have hm : mayH (u, v, c) := g2
    rw [refEncode_is hk hm]
    simp only [Option.bind_some]
    rw [toBytes_eq (encF_byte _) hb]
    by_cases hq : encF (u, v, c) = b
    · rw [decide_eq_true hq]
      exact ⟨(u, v, c), true, rfl, .inl ⟨rfl, hk, hm, hq.symm⟩⟩
    · rw [decide_eq_false hq]
      exact ⟨_, _, rfl, .inr ⟨rfl, rfl⟩⟩
  · have b1 : ((nextF b).2.2.2 != 0) = true := by simp [he]
    rw [b1]
    exact ⟨_, _, rfl, .inr ⟨rfl, rfl⟩⟩
theorem hv_eqb (x y : HV) : T.eqb hvT x y = decide (x = y) := by
  rw [Bool.eq_iff_iff, eqb_iff (t := hvT) rfl, decide_eq_true_eq]
theorem hawake_is : law07_awake' = some true := law07_awake_lm.of_some 60 (by decide +kernel)
end Go.Proofs.YthdkecdbodenkaaGreatDoor.gg
