/- A window's bytes, and which window any bytes are: the plain laws. -/
import Derived.Test.YtlmfnbcnfhiheaaW
open Go Go.GG
set_option linter.unusedVariables false
namespace Go.Proofs.Ytlmfnbcnfhiheaa.gg
abbrev Win := Int × Int × Bool
def wmay (w : Win) : Bool := w.1 != 0 && (!decide (w.2.1 < IntKind.wrap .u64 (w.1 - 1)) && (!w.2.2 || (w.1 == 18446744073709551615 && w.2.1 == 18446744073709551615)))
theorem Check_eq (w : Win) : oracle_Check' w = some (cond (wmay w) 0 1) := by
  unfold oracle_Check' wmay
  cases h1 : (w.1 == 0) <;> cases h2 : decide (w.2.1 < IntKind.wrap .u64 (w.1 - 1)) <;> cases h3 : w.2.2 <;> cases h4 : (w.1 == 18446744073709551615) <;> cases h5 : (w.2.1 == 18446744073709551615) <;> simp [bne, h1, h4, h5]
theorem refMay_eq (w : Win) (h0 : 0 ≤ w.1) (h1 : w.1 < 18446744073709551616) : ref18_May' w = some (wmay w) := by
  unfold ref18_May' wmay
  by_cases hz : w.1 = 0
  · simp [hz]
  · have hzb : (w.1 == 0) = false := by simp; exact hz
    rw [u64_in (n := w.1 - 1) (by omega) (by omega)]
    by_cases hlt : w.2.1 < w.1 - 1
    · have : w.1 - 1 > w.2.1 := hlt
      simp [hzb, hlt, this]
    · have : ¬ (w.1 - 1 > w.2.1) := hlt
      cases h3 : w.2.2 <;> cases h4 : (w.1 == 18446744073709551615) <;> cases h5 : (w.2.1 == 18446744073709551615) <;> simp [hzb, hlt, this, bne, h4, h5]
def wenc (w : Win) : List Int := putU w.1.toNat ++ putU w.2.1.toNat ++ [cond w.2.2 1 0]
structure WR (w : Win) : Prop where
  a0 : 0 ≤ w.1
  a1 : w.1 < 18446744073709551616
  b0 : 0 ≤ w.2.1
  b1 : w.2.1 < 18446744073709551616
theorem putU_bit (b : Bool) : putU (cond b 1 0) = [cond b 1 0] := by cases b <;> rw [putU_lt (by decide)] <;> rfl
theorem wenc_len {w : Win} (h : WR w) : (wenc w).length ≤ 21 := by
  have := h.a0; have := h.a1; have := h.b0; have := h.b1
  have := putU_len10 (n := w.1.toNat) (by omega)
  have := putU_len10 (n := w.2.1.toNat) (by omega)
  simp [wenc]; omega
theorem wenc_byte (w : Win) : ∀ x ∈ wenc w, IsByte x := by
  intro x hx
  simp only [wenc, List.mem_append, List.mem_singleton] at hx
  rcases hx with (hx | hx) | hx
  · exact putU_byte _ x hx
  · exact putU_byte _ x hx
  · subst hx; cases w.2.2 <;> constructor <;> decide
theorem refEncode_eq {w : Win} (h : WR w) : ref18_Encode' w = some (wenc w) := by
  have l := wenc_len h
  simp only [wenc, List.length_append] at l
  simp at l
  unfold ref18_Encode' wenc
  rw [refUvarint_eq' _ h.a0 h.a1, refUvarint_eq' _ h.b0 h.b1]
  simp only [Option.bind_some]
  rw [room_of (by simp; omega), room_of (by simp; omega), room_of (by simp; omega)]
  cases w.2.2 <;> rfl
theorem Encode_eq {w : Win} (h : WR w) : oracle_Encode' w = some (cond (wmay w) (wenc w, 0) ([], 1)) := by
  have l := wenc_len h
  simp only [wenc, List.length_append] at l
  simp at l
  unfold oracle_Encode'
  rw [Check_eq]
  cases hm : wmay w with
  | false => rfl
  | true =>
    have e := putU_bit w.2.2
    simp only [Option.bind_some, cond_true, bne_self_eq_false, cond_false]
    have u1 := Uvarint_eq' [] w.1 h.a0 h.a1 (by simp)
    have u2 := Uvarint_eq' ([] ++ putU w.1.toNat) w.2.1 h.b0 h.b1 (by simp; omega)
    have u3 := Uvarint_eq' ([] ++ putU w.1.toNat ++ putU w.2.1.toNat) 1 (by decide) (by decide) (by simp; omega)
    have u4 := Uvarint_eq' ([] ++ putU w.1.toNat ++ putU w.2.1.toNat) 0 (by decide) (by decide) (by simp; omega)
    simp only [u1, Option.bind_some, u2, u3, u4, wenc]
    have p1 : putU (Int.toNat 1) = [1] := by rw [putU_lt (by decide)]; rfl
    have p0 : putU (Int.toNat 0) = [0] := by rw [putU_lt (by decide)]; rfl
    rw [p1, p0]
    cases w.2.2 <;> simp
/-- What is read of some bytes. -/
def wread (b : List Int) : Win × Rd :=
  let r1 := rU (b, 0, 0)
  let r2 := rU r1.2
  let r3 := rNum r2.2 1
  ((r1.1, r2.1, r3.1 == 1), r3.2)
theorem wread_inv {b : List Int} (hb : ∀ x ∈ b, IsByte x) (hl : b.length ≤ 1000000000000) : RInv (wread b).2 ∧ WR (wread b).1 := by
  have i0 := read_inv b hl hb
  have i1 := rU_inv i0
  have i2 := rU_inv i1
  exact ⟨rNum_inv i2 1, (rU_range i0).1, (rU_range i0).2, (rU_range i1).1, (rU_range i1).2⟩
theorem wread_iff {b : List Int} (hb : ∀ x ∈ b, IsByte x) (hl : b.length ≤ 1000000000000) : ((wread b).2.2.2 = 0 ∧ rest (wread b).2 = []) ↔ wenc (wread b).1 = b := by
  have i0 := read_inv b hl hb
  have i1 := rU_inv i0
  have i2 := rU_inv i1
  constructor
  · rintro ⟨h1, h2⟩
    obtain ⟨e3, n3, hn3, hm3, v3, q3, _⟩ := rNum_ok i2 h1
    obtain ⟨e2, n2, hn2, v2, q2, _⟩ := rU_ok i1 e3
    obtain ⟨e1, n1, hn1, v1, q1, _⟩ := rU_ok i0 e2
    have h2' : rest (rNum (rU (rU (b, 0, 0)).2).2 1).2 = [] := h2
    rw [read_rest, q2, q3, h2'] at q1
    simp only [wenc, wread, v1, v2, v3, Int.toNat_natCast]
    rw [q1]
    have : n3 = 0 ∨ n3 = 1 := by omega
    rcases this with rfl | rfl
    · rw [putU_lt (n := 0) (by decide)]; simp
    · rw [putU_lt (n := 1) (by decide)]; simp
  · intro he
    obtain ⟨_, hr⟩ := wread_inv hb hl
    have ha0 := hr.a0; have ha1 := hr.a1; have hb0 := hr.b0; have hb1 := hr.b1
    have q0 : rest ((b, 0, 0) : Rd) = putU (wread b).1.1.toNat ++ (putU (wread b).1.2.1.toNat ++ [cond (wread b).1.2.2 1 0]) := by
      rw [read_rest]; conv => lhs; rw [← he]
      simp [wenc]
    obtain ⟨s1, r1, j1, z1, t1, _⟩ := rU_read i0 rfl (by omega) q0
    obtain ⟨s2, r2, j2, z2, t2, _⟩ := rU_read j1 z1 (by omega) t1
    have hbit : [cond (wread b).1.2.2 1 0] = putU (cond (wread b).1.2.2 1 0) ++ [] := by rw [putU_bit]; simp
    rw [hbit] at t2
    obtain ⟨s3, r3, j3, z3, t3, _⟩ := rNum_read j2 z2 (n := cond (wread b).1.2.2 1 0) (by cases (wread b).1.2.2 <;> decide) (most := 1) (by cases (wread b).1.2.2 <;> decide) t2
    have e : (wread b).2 = s3 := by
      show (rNum (rU (rU (b, 0, 0)).2).2 1).2 = s3
      rw [r1]
      show (rNum (rU s1).2 1).2 = s3
      rw [r2]
      show (rNum s2 1).2 = s3
      rw [r3]
    rw [e]
    exact ⟨z3, t3⟩
theorem Decode_eq {b : List Int} (hb : ∀ x ∈ b, IsByte x) (hl : b.length ≤ 1000000000000) : oracle_Decode' b = some (cond (decide (wenc (wread b).1 = b) && wmay (wread b).1) ((wread b).1, 0) ((0, 0, false), 5)) := by
  have i0 := read_inv b hl hb
  have i1 := rU_inv i0
  have i2 := rU_inv i1
  have i3 := rNum_inv i2 1
  have hiff := wread_iff hb hl
  unfold oracle_Decode'
  simp only [rRead_eq b hl, rUvarint_eq i0, Option.bind_some, rUvarint_eq i1, rNumber_eq i2 1 (by decide), rDone_eq i3, Check_eq]
  have e2 : (wread b).2 = (rNum (rU (rU (b, 0, 0)).2).2 1).2 := rfl
  rw [e2] at hiff
  by_cases h : (rNum (rU (rU (b, 0, 0)).2).2 1).2.2.2 = 0
  · by_cases hr : rest (rNum (rU (rU (b, 0, 0)).2).2 1).2 = []
    · have hd := hiff.1 ⟨h, hr⟩
      rw [decide_eq_true hd]
      simp only [h, hr, ne_eq, not_true, if_false, bne_self_eq_false, cond_false, Bool.true_and]
      have e1 : (wread b).1 = ((rU (b, 0, 0)).1, (rU (rU (b, 0, 0)).2).1, (rNum (rU (rU (b, 0, 0)).2).2 1).1 == 1) := rfl
      rw [← e1]
      cases wmay (wread b).1 <;> rfl
    · have hd : ¬ wenc (wread b).1 = b := fun hd => hr (hiff.2 hd).2
      rw [decide_eq_false hd]
      simp [h, hr]
  · have hd : ¬ wenc (wread b).1 = b := fun hd => h (hiff.2 hd).1
    rw [decide_eq_false hd]
    have : ((rNum (rU (rU (b, 0, 0)).2).2 1).2.2.2 != 0) = true := by simp [h]
    simp [h, this]
theorem refDecode_eq {b : List Int} (hb : ∀ x ∈ b, IsByte x) (hl : b.length ≤ 1000000000000) : ref18_Decode' b = some (cond (decide (wenc (wread b).1 = b) && wmay (wread b).1) ((wread b).1, true) ((0, 0, false), false)) := by
  have i0 := read_inv b hl hb
  have i1 := rU_inv i0
  have i2 := rU_inv i1
  have hw := (wread_inv hb hl).2
  have e1 : (wread b).1 = ((rU (b, 0, 0)).1, (rU (rU (b, 0, 0)).2).1, (rNum (rU (rU (b, 0, 0)).2).2 1).1 == 1) := rfl
  unfold ref18_Decode'
  simp only [refU_eq i0, Option.bind_some, refU_eq i1, refNum_eq i2 1 (by decide)]
  rw [← e1, refMay_eq _ hw.a0 hw.a1, refEncode_eq hw]
  have ht := toBytes_inj (wenc_byte (wread b).1) hb
  by_cases hd : wenc (wread b).1 = b
  · rw [decide_eq_true hd]
    simp only [Option.bind_some, ht.2 hd]
    cases wmay (wread b).1 <;> rfl
  · rw [decide_eq_false hd]
    have : (toBytes (wenc (wread b).1) == toBytes b) = false := by
      cases hh : (toBytes (wenc (wread b).1) == toBytes b) with
      | true => exact absurd (ht.1 hh) hd
      | false => rfl
    simp only [Option.bind_some, this]
    cases wmay (wread b).1 <;> rfl
theorem awake_eq : law18_awake' = some true := law18_awake_lm.of_some 20 (by decide +kernel)
theorem win_eqb (w : Win) : T.eqb (.pair (.int .u64) (.pair (.int .u64) .bool)) w w = true := by simp [T.eqb]
theorem law_OracleDecodes (b : List Int) (hb : ∀ x ∈ b, IsByte x) : ∃ k, law18_OracleDecodes k b = some true := by
  refine (law18_OracleDecodes_lm b).fin ?_
  unfold law18_OracleDecodes'
  rw [awake_eq]
  by_cases h : (b.length : Int) > 100
  · rw [decide_eq_true h]; rfl
  · rw [decide_eq_false h, cond_false, List.nil_append, room_of (by omega), Decode_eq hb (by omega), refDecode_eq hb (by omega)]
    simp only [cond_true, Option.bind_some]
    cases (decide (wenc (wread b).1 = b) && wmay (wread b).1) with
    | true => simp [win_eqb]
    | false => rfl
theorem wread_enc {w : Win} (h : WR w) : (wread (wenc w)).1 = w := by
  have ha0 := h.a0; have ha1 := h.a1; have hb0 := h.b0; have hb1 := h.b1
  have i0 := read_inv (wenc w) (by have := wenc_len h; omega) (wenc_byte w)
  have q0 : rest ((wenc w, 0, 0) : Rd) = putU w.1.toNat ++ (putU w.2.1.toNat ++ (putU (cond w.2.2 1 0) ++ [])) := by
    rw [read_rest, putU_bit]; simp [wenc]
  obtain ⟨s1, r1, j1, z1, t1, _⟩ := rU_read i0 rfl (by omega) q0
  obtain ⟨s2, r2, j2, z2, t2, _⟩ := rU_read j1 z1 (by omega) t1
  obtain ⟨s3, r3, j3, z3, t3, _⟩ := rNum_read j2 z2 (n := cond w.2.2 1 0) (by cases w.2.2 <;> decide) (most := 1) (by cases w.2.2 <;> decide) t2
  simp only [wread, r1, r2, r3]
  obtain ⟨a, c, d⟩ := w
  simp only at *
  cases d <;> simp <;> omega
theorem law_OracleCodes (w : Win) (h : WR w) : ∃ k, law18_OracleCodes k w = some true := by
  refine (law18_OracleCodes_lm w).fin ?_
  unfold law18_OracleCodes'
  rw [awake_eq, Encode_eq h, refMay_eq w h.a0 h.a1, refEncode_eq h]
  cases hm : wmay w with
  | false => rfl
  | true =>
    simp only [Option.bind_some, cond_true, Bool.not_true, cond_false]
    rw [Decode_eq (wenc_byte w) (by have := wenc_len h; omega), wread_enc h, hm]
    simp [win_eqb]
end Go.Proofs.Ytlmfnbcnfhiheaa.gg
