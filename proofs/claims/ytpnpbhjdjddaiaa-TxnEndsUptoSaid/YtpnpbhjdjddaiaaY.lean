/- A record comes to its end: the plain law. -/
import Derived.Test.YtpnpbhjdjddaiaaX
open Go Go.GG
set_option linter.unusedVariables false
namespace Go.Proofs.Ytpnpbhjdjddaiaa.gg
def bitB (n g : Int) : Bool := n.toNat.testBit (g - 1).toNat
theorem bit_eq {n g : Int} (h0 : 0 ≤ n) (h1 : n < 65536) (g1 : 1 ≤ g) (g16 : g ≤ 16) : ((Int.tmod (shrv .u16 n (IntKind.wrap .u64 (IntKind.wrap .i64 (g - 1)))) 2) == 1) = bitB n g := by
  obtain ⟨m, rfl⟩ : ∃ m : Nat, n = (m : Int) := ⟨n.toNat, by omega⟩
  obtain ⟨i, hi, hg⟩ : ∃ i : Nat, i < 16 ∧ g - 1 = (i : Int) := ⟨(g - 1).toNat, by omega, by omega⟩
  rw [hg, i64_in (by omega) (by omega), u64_in (by omega) (by omega)]
  unfold shrv bitB
  rw [hg, Int.toNat_natCast, Int.toNat_natCast, show min i IntKind.u16.bits = i by simp [IntKind.bits]; omega]
  rw [Int.fdiv_eq_ediv_of_nonneg _ (Int.le_of_lt (Int.pow_pos (by decide)))]
  rw [show (2 : Int) ^ i = ((2 ^ i : Nat) : Int) by simp, ← Int.natCast_ediv, Nat.testBit_eq_decide_div_mod_eq]
  generalize m / 2 ^ i = q
  rw [Int.tmod_eq_emod_of_nonneg (Int.natCast_nonneg q), Bool.eq_iff_iff, beq_iff_eq, decide_eq_true_eq]
  omega
theorem and16 {a b : Int} (a0 : 0 ≤ a) (a1 : a < 65536) (b0 : 0 ≤ b) (b1 : b < 65536) : (bitv .and .u16 a b == 0) = !(upTo 16).any fun g => bitB a g && bitB b g := by
  obtain ⟨m, rfl⟩ : ∃ m : Nat, a = (m : Int) := ⟨a.toNat, by omega⟩
  obtain ⟨n, rfl⟩ : ∃ n : Nat, b = (n : Int) := ⟨b.toNat, by omega⟩
  have e : bitv .and .u16 (m : Int) (n : Int) = ((m &&& n : Nat) : Int) := by
    have hle : m &&& n ≤ m := Nat.and_le_left
    show IntKind.u16.wrap (((BitVec.ofInt 16 (m : Int) &&& BitVec.ofInt 16 (n : Int)).toNat : Nat) : Int) = _
    rw [BitVec.toNat_and, BitVec.toNat_ofInt, BitVec.toNat_ofInt, wrap_u16,show ((m : Int) % ((2 ^ 16 : Nat) : Int)).toNat = m by omega, show ((n : Int) % ((2 ^ 16 : Nat) : Int)).toNat = n by omega]
    omega
  rw [e, Bool.eq_iff_iff, beq_iff_eq, Bool.not_eq_true', List.any_eq_false]
  constructor
  · intro h g hg hh
    rw [mem_upTo] at hg
    have h0 : m &&& n = 0 := by omega
    have := congrArg (fun z => Nat.testBit z (g - 1).toNat) h0
    simp only [Nat.testBit_and, Nat.zero_testBit] at this
    unfold bitB at hh
    rw [Int.toNat_natCast, Int.toNat_natCast, this] at hh
    cases hh
  · intro h
    have : m &&& n = 0 := by
      apply Nat.eq_of_testBit_eq
      intro i
      rw [Nat.testBit_and, Nat.zero_testBit]
      by_cases hi : i < 16
      · have := h ((i + 1 : Nat) : Int) (mem_upTo.2 ⟨by omega, by omega⟩)
        unfold bitB at this
        rw [Int.toNat_natCast, Int.toNat_natCast, show (((i + 1 : Nat) : Int) - 1).toNat = i by omega] at this
        simpa using this
      · rw [Nat.testBit_lt_two_pow (x := m) (i := i) (Nat.lt_of_lt_of_le (by omega : m < 2 ^ 16) (Nat.pow_le_pow_right (by decide) (by omega)))]
        rfl
    omega
def gsOf (a : Int) : List Int := (upTo 16).filter (bitB a)
theorem gsOf_len (a : Int) : (gsOf a).length ≤ 16 := Nat.le_trans (List.length_filter_le _ _) (by rw [upTo_len]; omega)
theorem p8g_eq (i : Int × Int) (c : Cl) (x : Int × Int) (h0 : 0 ≤ x.1) (h1 : x.1 < 65536) : law20_TxnEnds_p8' 1 i c x [] = some (i, c, x, gsOf x.1) := by
  have key := fold_loop (upTo 16) (fun (o : List Int) g => bif bitB x.1 g then o ++ [g] else o) [] (fun j o => law20_TxnEnds_p8' ((j + 1 : Nat) : Int) i c x o) (out := fun o => some (i, c, x, o)) (fun j hj => by
    try dsimp only
    rw [upTo_len] at hj
    rw [upTo_get (by rw [upTo_len]; exact hj), foldl_filter, take_upTo (by omega), List.nil_append, law20_TxnEnds_p8_eq, decide_eq_true (by omega), wrap_succ (by omega), bit_eq h0 h1 (by omega) (by omega)]
    have hlf : ((upTo j).filter (bitB x.1)).length ≤ 16 := Nat.le_trans (List.length_filter_le _ _) (by rw [upTo_len]; omega)
    have hw : decide (0 ≤ IntKind.wrap .u64 (IntKind.wrap .i64 (((j + 1 : Nat) : Int) - 1))) = true := by
      rw [i64_in (by omega) (by omega), u64_in (by omega) (by omega), decide_eq_true (by omega)]
    rw [hw, room_of (by rw [List.length_append, List.length_singleton]; omega)]
    simp only [cond_true]
    cases bitB x.1 ((j + 1 : Nat) : Int) <;> rfl) (by
    try dsimp only
    rw [upTo_len, law20_TxnEnds_p8_eq, decide_eq_false (by omega)]; rfl)
  try dsimp only at key
  simp only [show ((0 + 1 : Nat) : Int) = 1 from rfl] at key
  rw [key, foldl_filter, List.nil_append]
  rfl
theorem but_eq {l m : List Int} (hl : l.length ≤ 1048576) (hm : m.length ≤ 1048576) : txn_but' l m = some (l.filter fun g => !m.contains g) := by
  unfold txn_but'
  rw [slices_Clone_int_int_is l (by omega)]
  simp only [Option.bind_some]
  rw [slices_DeleteFunc_int_int_is l _ (fun g => m.contains g) (by omega) (fun x => by
    try dsimp only
    unfold txn_but_1'
    rw [Contains_eq (by omega)]; rfl)]
  rfl
def askOf (x : Tx) : List Int := bif txOk x && ((x.2.2.2.2.2.2.1 == 1) && (x.2.2.2.1 != 0)) then x.2.2.2.2.2.1.filter (fun g => !x.2.2.2.2.2.2.2.1.contains g) else []
def tellOf (x : Tx) : List Int := bif txOk x && ((x.2.2.2.2.2.2.1 == 2) || (x.2.2.2.2.2.2.1 == 3)) then x.2.2.2.2.2.1.filter (fun g => !x.2.2.2.2.2.2.2.2.1.contains g) else []
theorem Ask_eq (x : Tx) (h : Small x) : txn_Ask' x = some (askOf x) := by
  unfold txn_Ask' askOf
  rw [Check_eq x h, but_eq h.gs h.yes]
  simp only [bne]
  cases txOk x <;> cases (x.2.2.2.2.2.2.1 == 1) <;> cases (x.2.2.2.1 == 0) <;> rfl
theorem Tell_eq (x : Tx) (h : Small x) : txn_Tell' x = some (tellOf x) := by
  unfold txn_Tell' tellOf
  rw [Check_eq x h, but_eq h.gs h.dn]
  simp only [bne]
  cases txOk x <;> cases (x.2.2.2.2.2.2.1 == 2) <;> cases (x.2.2.2.2.2.2.1 == 3) <;> rfl
/-- Of two rising lists, one in the other and not as long: somebody is left. -/
theorem left_head {l m : List Int} (hl : Rise l) (hm : Rise m) (hs : ∀ x ∈ m, x ∈ l) (hn : m.length ≠ l.length) : ∃ g r, l.filter (fun g => !m.contains g) = g :: r ∧ g ∈ l ∧ g ∉ m := by
  cases hf : l.filter (fun g => !m.contains g) with
  | nil =>
    exfalso
    have : ∀ x ∈ l, x ∈ m := by
      intro x hx
      by_cases h : x ∈ m
      · exact h
      · have : x ∈ l.filter (fun g => !m.contains g) := by simp [hx, h]
        rw [hf] at this; cases this
    have a := hl.len_le this
    have b := hm.len_le hs
    omega
  | cons g r =>
    have : g ∈ l.filter (fun g => !m.contains g) := by rw [hf]; simp
    rw [List.mem_filter] at this
    exact ⟨g, r, rfl, this.1, by simpa using this.2⟩
/-- What holds while a record goes on. -/
structure On (G : List Int) (b : Int) (x : Tx) : Prop where
  ok : TxOk x
  small : Small x
  tok : x.2.2.2.1 ≠ 0
  gs : x.2.2.2.2.2.1 = G
  yes : ∀ g ∈ x.2.2.2.2.2.2.2.1, bitB b g = false
  code : x.2.2.2.2.2.2.2.2.2 = 0 ∨ (x.2.2.2.2.2.2.2.2.2 = 8 ∧ ∃ g ∈ G, bitB b g = true)
def todo (x : Tx) : Nat := if x.2.2.2.2.2.2.1 = 1 then (x.2.2.2.2.2.1.length - x.2.2.2.2.2.2.2.1.length) + x.2.2.2.2.2.1.length else if x.2.2.2.2.2.2.1 = 4 then 0 else x.2.2.2.2.2.1.length - x.2.2.2.2.2.2.2.2.1.length
theorem settle_yes (z : Tx) : (settleOf z).2.2.2.2.2.1 = z.2.2.2.2.2.1 ∧ (settleOf z).2.2.2.1 = z.2.2.2.1 ∧ (settleOf z).2.2.2.2.2.2.2 = z.2.2.2.2.2.2.2 ∧ ((settleOf z).2.2.2.2.2.2.1 = 2 ∨ (settleOf z).2.2.2.2.2.2.1 = z.2.2.2.2.2.2.1) := by
  unfold settleOf withSt
  cases rdB z with
  | true => exact ⟨rfl, rfl, rfl, .inl rfl⟩
  | false => exact ⟨rfl, rfl, rfl, .inr rfl⟩
theorem ends_loop {G : List Int} {x : Int × Int} (h0 : 0 ≤ x.2) (h1 : x.2 < 65536) : ∀ (k n : Nat) (t : Tx), On G x.2 t → todo t ≤ k → n + k ≤ 39 →
    ∃ t', On G x.2 t' ∧ t'.2.2.2.2.2.2.1 = 4 ∧ law20_TxnEnds_p43' 0 (n : Int) x (flat t) = some (.inl (0, x, flat t')) := by
  intro k
  induction k with
  | zero =>
    intro n t R hk hn
    by_cases h4 : t.2.2.2.2.2.2.1 = 4
    · refine ⟨t, R, h4, ?_⟩
      rw [law20_TxnEnds_p43_eq, decide_eq_true (by omega : (n : Int) < 40)]
      show (bif (t.2.2.2.2.2.2.1 != 4) then _ else _) = _
      rw [h4]; rfl
    · exfalso
      unfold todo at hk
      have hne := R.ok.ne
      by_cases h1 : t.2.2.2.2.2.2.1 = 1
      · rw [if_pos h1] at hk; omega
      · rw [if_neg h1, if_neg h4] at hk
        have hda : daB t = false := by
          rcases st_other R.ok h1 with ⟨_, _, c, _⟩ | ⟨_, _, c⟩ | ⟨a, _⟩
          · exact c
          · exact c
          · exact absurd a h4
        have hle := R.ok.rd.len_le R.ok.sd
        unfold daB at hda
        simp only [decide_eq_false_iff_not] at hda
        omega
  | succ k ih =>
    intro n t R hk hn
    by_cases h4 : t.2.2.2.2.2.2.1 = 4
    · refine ⟨t, R, h4, ?_⟩
      rw [law20_TxnEnds_p43_eq, decide_eq_true (by omega : (n : Int) < 40)]
      show (bif (t.2.2.2.2.2.2.1 != 4) then _ else _) = _
      rw [h4]; rfl
    · rw [law20_TxnEnds_p43_eq, decide_eq_true (by omega : (n : Int) < 40)]
      have hT := txOk_iff.2 R.ok
      by_cases hs1 : t.2.2.2.2.2.2.1 = 1
      · -- votes
        obtain ⟨o1, o2, o3⟩ := st_one R.ok hs1
        have hnl : t.2.2.2.2.2.2.2.1.length ≠ t.2.2.2.2.2.1.length := by
          unfold rdB at o3
          rw [show (t.2.2.2.1 != 0) = true by simpa using R.tok, Bool.and_true, decide_eq_false_iff_not] at o3
          exact o3
        obtain ⟨g, r, hf, hg, hng⟩ := left_head R.ok.rg R.ok.ry R.ok.sy hnl
        have hb := R.ok.bg g hg
        have hask : askOf t = g :: r := by
          unfold askOf
          rw [hT, hs1, show (t.2.2.2.1 != 0) = true by simpa using R.tok]
          exact hf
        have htell : tellOf t = [] := by
          unfold tellOf
          rw [hT, hs1]; rfl
        have hle := R.ok.ry.len_le R.ok.sy
        have htodo : todo t = (t.2.2.2.2.2.1.length - t.2.2.2.2.2.2.2.1.length) + t.2.2.2.2.2.1.length := by unfold todo; rw [if_pos hs1]
        have hv : ∀ c, votedOf t g c = (bif c != 0 then (abortOf t c, 0) else (settleOf (withYes t (addI t.2.2.2.2.2.2.2.1 g)), 0)) := by
          intro c
          unfold votedOf
          rw [hT, hs1, show t.2.2.2.2.2.1.contains g = true by simpa using hg, show t.2.2.2.2.2.2.2.1.contains g = false by simpa using hng]
          rfl
        have hw : decide (0 ≤ IntKind.wrap .u64 (IntKind.wrap .i64 (g - 1))) = true := by
          rw [i64_in (by omega) (by omega), u64_in (by omega) (by omega), decide_eq_true (by omega)]
        simp only [cond_true]
        rw [show ((0 : Int) == 0) = true from rfl]
        simp only [cond_true]
        show ∃ t', _ ∧ _ ∧ (bif (t.2.2.2.2.2.2.1 != 4) then (Option.bind (txn_Ask' t) _) else _) = _
        rw [show (t.2.2.2.2.2.2.1 != 4) = true by simpa using h4, Ask_eq t R.small, hask]
        simp only [cond_true, Option.bind_some]
        show ∃ t', _ ∧ _ ∧ Option.bind (txn_Tell' t) _ = _
        rw [Tell_eq t R.small, htell]
        simp only [Option.bind_some, List.length_cons]
        rw [decide_eq_true (by omega : ((r.length + 1 : Nat) : Int) > 0), show decide ((0 : Int) ≤ 0) = true from rfl]
        simp only [Bool.and_self, cond_true]
        rw [show ((g :: r : List Int)[Int.toNat 0]?) = some g from rfl]
        simp only [Option.bind_some]
        rw [hw, bit_eq h0 h1 hb.1 hb.2]
        simp only [cond_true]
        cases hbit : bitB x.2 g with
        | true =>
          simp only [cond_true]
          have K := voted_keep (g := g) (c := 8) R.ok R.small (by rw [hv]; rfl)
          rw [hv] at K
          have K1 := K.ok
          have K2 := K.small
          rw [show ((8 : Int) != 0) = true from rfl] at K1 K2
          simp only [cond_true] at K1 K2
          have R' : On G x.2 (abortOf t 8) := ⟨K1, K2, R.tok, R.gs, R.yes, .inr ⟨rfl, g, R.gs ▸ hg, hbit⟩⟩
          have hm : todo (abortOf t 8) ≤ k := by
            have : todo (abortOf t 8) = t.2.2.2.2.2.1.length - t.2.2.2.2.2.2.2.2.1.length := by
              unfold todo abortOf; simp
            rw [this]; omega
          obtain ⟨t', a, b, c⟩ := ih (n + 1) (abortOf t 8) R' hm (by omega)
          refine ⟨t', a, b, ?_⟩
          show Option.bind (txn_Voted' t g 8) _ = _
          rw [Voted_eq t g 8 R.small, hv, wrap_succ (by omega)]
          exact c
        | false =>
          simp only [cond_false]
          have K := voted_keep (g := g) (c := 0) R.ok R.small (by rw [hv]; rfl)
          rw [hv] at K
          have K1 := K.ok
          have K2 := K.small
          rw [show ((0 : Int) != 0) = false from rfl] at K1 K2
          simp only [cond_false] at K1 K2
          obtain ⟨s1, s2, s3, s4⟩ := settle_yes (withYes t (addI t.2.2.2.2.2.2.2.1 g))
          have R' : On G x.2 (settleOf (withYes t (addI t.2.2.2.2.2.2.2.1 g))) := ⟨K1, K2, by rw [s2]; exact R.tok, by rw [s1]; exact R.gs, fun y hy => by
            rw [s3] at hy
            rcases mem_addI.1 hy with hy | rfl
            · exact R.yes y hy
            · exact hbit, by rw [s3]; exact R.code⟩
          have hm : todo (settleOf (withYes t (addI t.2.2.2.2.2.2.2.1 g))) ≤ k := by
            unfold todo
            rw [s1, s3]
            have e : (withYes t (addI t.2.2.2.2.2.2.2.1 g)).2.2.2.2.2.2.2.1.length = t.2.2.2.2.2.2.2.1.length + 1 := addI_len _ _
            have e2 : (withYes t (addI t.2.2.2.2.2.2.2.1 g)).2.2.2.2.2.1 = t.2.2.2.2.2.1 := rfl
            have e3 : (withYes t (addI t.2.2.2.2.2.2.2.1 g)).2.2.2.2.2.2.2.2.1 = [] := o1
            rw [e, e2, e3]
            split
            · omega
            · split
              · omega
              · simp; omega
          obtain ⟨t', a, b, c⟩ := ih (n + 1) _ R' hm (by omega)
          refine ⟨t', a, b, ?_⟩
          show Option.bind (txn_Voted' t g 0) _ = _
          rw [Voted_eq t g 0 R.small, hv, wrap_succ (by omega)]
          exact c
      · -- what is done
        have h23 : (t.2.2.2.2.2.2.1 = 2 ∨ t.2.2.2.2.2.2.1 = 3) ∧ daB t = false := by
          rcases st_other R.ok hs1 with ⟨a, _, c, _⟩ | ⟨a, _, c⟩ | ⟨a, _⟩
          · exact ⟨.inl a, c⟩
          · exact ⟨.inr a, c⟩
          · exact absurd a h4
        obtain ⟨h23, hda⟩ := h23
        have hnl : t.2.2.2.2.2.2.2.2.1.length ≠ t.2.2.2.2.2.1.length := by
          unfold daB at hda
          exact of_decide_eq_false hda
        obtain ⟨g, r, hf, hg, hng⟩ := left_head R.ok.rg R.ok.rd R.ok.sd hnl
        have hask : askOf t = [] := by
          unfold askOf
          rw [hT, show (t.2.2.2.2.2.2.1 == 1) = false by simpa using hs1]; rfl
        have htell : tellOf t = g :: r := by
          unfold tellOf
          rw [hT, show ((t.2.2.2.2.2.2.1 == 2) || (t.2.2.2.2.2.2.1 == 3)) = true by rcases h23 with h | h <;> rw [h] <;> rfl]
          exact hf
        have hle := R.ok.rd.len_le R.ok.sd
        have htodo : todo t = t.2.2.2.2.2.1.length - t.2.2.2.2.2.2.2.2.1.length := by unfold todo; rw [if_neg hs1, if_neg h4]
        have hap : appliedOf t g = (withDone t (bif decide ((addI t.2.2.2.2.2.2.2.2.1 g).length = t.2.2.2.2.2.1.length) then 4 else t.2.2.2.2.2.2.1) (addI t.2.2.2.2.2.2.2.2.1 g), 0) := by
          unfold appliedOf
          rw [hT, show t.2.2.2.2.2.1.contains g = true by simpa using hg, show t.2.2.2.2.2.2.2.2.1.contains g = false by simpa using hng, show (t.2.2.2.2.2.2.1 != 2 && t.2.2.2.2.2.2.1 != 3) = false by rcases h23 with h | h <;> rw [h] <;> rfl]
          rfl
        have K := applied_keep (g := g) R.ok R.small (by rw [hap])
        rw [hap] at K
        have R' : On G x.2 (withDone t (bif decide ((addI t.2.2.2.2.2.2.2.2.1 g).length = t.2.2.2.2.2.1.length) then 4 else t.2.2.2.2.2.2.1) (addI t.2.2.2.2.2.2.2.2.1 g)) := ⟨K.ok, K.small, R.tok, R.gs, R.yes, R.code⟩
        have hm : todo (withDone t (bif decide ((addI t.2.2.2.2.2.2.2.2.1 g).length = t.2.2.2.2.2.1.length) then 4 else t.2.2.2.2.2.2.1) (addI t.2.2.2.2.2.2.2.2.1 g)) ≤ k := by
          unfold todo withDone
          simp only [addI_len]
          cases decide (t.2.2.2.2.2.2.2.2.1.length + 1 = t.2.2.2.2.2.1.length) with
          | true => simp
          | false =>
            simp only [cond_false]
            rw [if_neg hs1, if_neg h4]
            omega
        obtain ⟨t', a, b, c⟩ := ih (n + 1) _ R' hm (by omega)
        refine ⟨t', a, b, ?_⟩
        simp only [cond_true]
        rw [show ((0 : Int) == 0) = true from rfl]
        simp only [cond_true]
        show (bif (t.2.2.2.2.2.2.1 != 4) then (Option.bind (txn_Ask' t) _) else _) = _
        rw [show (t.2.2.2.2.2.2.1 != 4) = true by simpa using h4, Ask_eq t R.small, hask]
        simp only [cond_true, Option.bind_some]
        show Option.bind (txn_Tell' t) _ = _
        rw [Tell_eq t R.small, htell]
        simp only [Option.bind_some, List.length_cons, List.length_nil]
        rw [show decide (((0 : Nat) : Int) > 0) = false from rfl, decide_eq_true (by omega : ((r.length + 1 : Nat) : Int) > 0), show decide ((0 : Int) ≤ 0) = true from rfl]
        simp only [cond_true, cond_false, Bool.and_self]
        rw [show ((g :: r : List Int)[Int.toNat 0]?) = some g from rfl]
        simp only [Option.bind_some]
        show Option.bind (txn_Applied' t g) _ = _
        rw [Applied_eq t g R.small, hap, wrap_succ (by omega)]
        exact c
theorem law_TxnEnds (i : Int × Int) (c : Cl) (x : Int × Int) (hc : c.2.1.length ≤ 1048576) (h1 : 0 ≤ x.1 ∧ x.1 < 65536) (h2 : 0 ≤ x.2 ∧ x.2 < 65536) : ∃ k, law20_TxnEnds k i c x = some true := by
  refine (law20_TxnEnds_lm i c x).fin ?_
  unfold law20_TxnEnds'
  rw [awake20_eq]
  show (Option.bind (law20_TxnEnds_p8' 1 i c x []) _) = _
  rw [p8g_eq i c x h1.1 h1.2]
  have hgl := gsOf_len x.1
  have hsm : Small (openOf i c (gsOf x.1)) := small_open hc (by omega)
  simp only [Option.bind_some]
  unfold law20_TxnEnds_p23'
  show (Option.bind ((txn_Begin' i c (gsOf x.1)).bind _) _) = _
  rw [Begin_eq i c _ hc (by omega)]
  simp only [Option.bind_some]
  unfold beginOf
  cases hk : (callB c && txOk (openOf i c (gsOf x.1))) with
  | false =>
    simp only [cond_false]
    rw [show ((1 : Int) != 0) = true from rfl]
    simp only [cond_true]
    show (Option.bind (ref20_May' (openOf i c (gsOf x.1))) _) = _
    rw [May_eq _ hsm]
    simp only [Option.bind_some]
    cases hx : txOk (openOf i c (gsOf x.1)) with
    | false => rfl
    | true =>
      rw [hx, Bool.and_true] at hk
      simp only [Bool.not_true, cond_false]
      have hcall := (txOk_iff.1 hx).call
      unfold callOf openOf at hcall
      simp only at hcall
      cases h3 : (c.1 == 1) with
      | false =>
        rw [h3] at hcall
        exact absurd (hcall.symm.trans hk) (by simp)
      | true =>
        rw [h3] at hcall
        cases h4 : (c.2.2.1 != 0) with
        | true => rfl
        | false =>
          rw [bne_eq_false_iff_eq] at h4
          rw [cond_true, ← h4] at hcall
          exact absurd (hcall.symm.trans hk) (by simp)
  | true =>
    rw [Bool.and_eq_true] at hk
    obtain ⟨hcb, hx⟩ := hk
    have T := txOk_iff.1 hx
    simp only [cond_true, bne_self_eq_false, cond_false]
    have hlast : (c.2.2.1 == 0) = (c.1 == 1) := by
      unfold callB at hcb
      simp only [Bool.and_eq_true] at hcb
      simpa using hcb.2.1
    have fin : ∀ t : Tx, On (gsOf x.1) x.2 t → todo t ≤ 39 → (Option.bind (law20_TxnEnds_p43' 0 0 x (flat t)) fun o18 => Sum.elim (fun a19 => ((txn_Reply' ((a19.2.2.1, a19.2.2.2.1), a19.2.2.2.2)).bind fun r21 => (bif (a19.1 == 0) then (bif (a19.2.2.2.2.2.2.2.2.2.1 == 4) then (bif r21.2 then (bif ((r21.1.1 == 0) == ((bitv .and .u16 a19.2.1.1 a19.2.1.2) == 0)) then ((some true).bind fun r22 => some r22) else some false) else some false) else some false) else some false))) (fun b20 => some b20) o18) = some true := by
      intro t R hm
      obtain ⟨t', R', h4, he⟩ := ends_loop (x := x) h2.1 h2.2 39 0 t R hm (by omega)
      rw [show ((0 : Nat) : Int) = 0 from rfl] at he
      rw [he]
      simp only [Option.bind_some, Sum.elim_inl]
      show (Option.bind (txn_Reply' t') _) = _
      rw [Reply_eq t' R'.small]
      simp only [Option.bind_some]
      have hr : replyOf t' = ((t'.2.2.2.2.2.2.2.2.2, ((bif t'.2.2.2.2.2.2.2.2.2 == 0 && t'.2.1 == 1 then t'.2.2.2.1 else 0), [])), true) := by
        unfold replyOf
        rw [txOk_iff.2 R'.ok, h4]; rfl
      rw [hr]
      show (bif (t'.2.2.2.2.2.2.1 == 4) then (bif ((t'.2.2.2.2.2.2.2.2.2 == 0) == (bitv .and .u16 x.1 x.2 == 0)) then _ else _) else _) = _
      rw [h4, and16 h1.1 h1.2 h2.1 h2.2]
      have hfin : (t'.2.2.2.2.2.2.2.2.2 == 0) = !(upTo 16).any fun g => bitB x.1 g && bitB x.2 g := by
        rcases R'.code with h0 | ⟨h8, g, hg, hb⟩
        · rw [h0]
          symm
          rw [show ((0 : Int) == 0) = true from rfl, Bool.not_eq_true', List.any_eq_false]
          intro g hg hh
          simp only [Bool.and_eq_true] at hh
          have hgG : g ∈ t'.2.2.2.2.2.1 := by
            rw [R'.gs]
            exact List.mem_filter.2 ⟨hg, hh.1⟩
          have hrd : rdB t' = true := by
            rcases st_other R'.ok (by omega) with ⟨a, _⟩ | ⟨a, _⟩ | ⟨a, b, c⟩
            · omega
            · omega
            · exact c.resolve_left (fun h => h h0)
          unfold rdB at hrd
          simp only [Bool.and_eq_true, decide_eq_true_eq] at hrd
          have := R'.ok.ry.eq_of_len R'.ok.rg R'.ok.sy (by omega)
          rw [← this] at hgG
          rw [R'.yes g hgG] at hh
          exact absurd hh.2 (by simp)
        · rw [h8]
          symm
          rw [show ((8 : Int) == 0) = false from rfl, Bool.not_eq_false', List.any_eq_true]
          have := List.mem_filter.1 hg
          exact ⟨g, this.1, by rw [this.2, hb]; rfl⟩
      rw [hfin]
      simp
    have hyes : (openOf i c (gsOf x.1)).2.2.2.2.2.2.2.1 = [] := rfl
    unfold law20_TxnEnds_p33'
    show (Option.bind (bif (c.1 == 1) then ((txn_Token' (openOf i c (gsOf x.1)) 9).bind _) else _) _) = _
    cases h3 : (c.1 == 1) with
    | true =>
      rw [h3] at hlast
      have htok : tokenOf (openOf i c (gsOf x.1)) 9 = (settleOf (withTok (openOf i c (gsOf x.1)) 9), 0) := by
        unfold tokenOf
        rw [hx]
        show (bif (c.2.2.1 != 0) then _ else _) = _
        rw [show (c.2.2.1 != 0) = false by simp only [bne, hlast]; rfl]
        rfl
      have K := token_keep (t := 9) T hsm (by rw [htok])
      rw [htok] at K
      obtain ⟨s1, s2, s3, s4⟩ := settle_yes (withTok (openOf i c (gsOf x.1)) 9)
      rw [Token_eq _ _ hsm, htok]
      simp only [cond_true, Option.bind_some]
      refine fin (settleOf (withTok (openOf i c (gsOf x.1)) 9)) ⟨K.ok, K.small, by rw [s2]; show (9 : Int) ≠ 0; decide, by rw [s1]; rfl, fun g hg => by rw [s3] at hg; exact absurd hg (by simp [withTok, openOf]), .inl (by rw [s3]; rfl)⟩ ?_
      have e1 : (withTok (openOf i c (gsOf x.1)) 9).2.2.2.2.2.1 = gsOf x.1 := rfl
      unfold todo
      rw [s1, e1]
      split
      · omega
      · split <;> omega
    | false =>
      rw [h3] at hlast
      simp only [cond_false, Option.bind_some]
      refine fin (openOf i c (gsOf x.1)) ⟨T, hsm, by show c.2.2.1 ≠ 0; simpa using hlast, rfl, fun g hg => (by rw [hyes] at hg; simp at hg), .inl rfl⟩ ?_
      have e1 : (openOf i c (gsOf x.1)).2.2.2.2.2.1 = gsOf x.1 := rfl
      unfold todo
      rw [e1]
      split
      · omega
      · split <;> omega
end Go.Proofs.Ytpnpbhjdjddaiaa.gg
