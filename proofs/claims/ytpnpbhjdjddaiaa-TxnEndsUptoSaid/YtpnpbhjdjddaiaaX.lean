/- The theorem of one decision: the plain law. -/
import Derived.Test.YtpnpbhjdjddaiaaB
open Go Go.GG
set_option linter.unusedVariables false
namespace Go.Proofs.Ytpnpbhjdjddaiaa.gg
abbrev Say := Int × Int × Int × Int
abbrev Rp := Int × Int × List Int
abbrev Fx := Int × Int × Int × (List (List UInt8)) × Int × Int × (List Int) × Int × (List Int) × (List Int) × Int
def flat (x : Tx) : Fx := (x.1.1, x.1.2, x.2)
theorem st_one {x : Tx} (T : TxOk x) (h : x.2.2.2.2.2.2.1 = 1) : x.2.2.2.2.2.2.2.2.1 = [] ∧ x.2.2.2.2.2.2.2.2.2 = 0 ∧ rdB x = false := by
  have hs := T.st
  rw [h] at hs
  unfold stB d0B at hs
  simp only [beq_self_eq_true, cond_true, Bool.and_eq_true, decide_eq_true_eq, beq_iff_eq, Bool.not_eq_true'] at hs
  exact ⟨List.length_eq_zero_iff.1 hs.1, hs.2.1, hs.2.2⟩
theorem st_other {x : Tx} (T : TxOk x) (h : x.2.2.2.2.2.2.1 ≠ 1) : (x.2.2.2.2.2.2.1 = 2 ∧ rdB x = true ∧ daB x = false ∧ x.2.2.2.2.2.2.2.2.2 = 0) ∨ (x.2.2.2.2.2.2.1 = 3 ∧ x.2.2.2.2.2.2.2.2.2 ≠ 0 ∧ daB x = false) ∨ (x.2.2.2.2.2.2.1 = 4 ∧ daB x = true ∧ (x.2.2.2.2.2.2.2.2.2 ≠ 0 ∨ rdB x = true)) := by
  have hs := T.st
  unfold stB at hs
  rw [show (x.2.2.2.2.2.2.1 == 1) = false by simpa using h] at hs
  simp only [cond_false] at hs
  by_cases h2 : x.2.2.2.2.2.2.1 = 2
  · rw [h2] at hs
    simp only [beq_self_eq_true, cond_true, Bool.and_eq_true, beq_iff_eq, Bool.not_eq_true'] at hs
    exact .inl ⟨h2, hs.1, hs.2.1, hs.2.2⟩
  · rw [show (x.2.2.2.2.2.2.1 == 2) = false by simpa using h2] at hs
    simp only [cond_false] at hs
    by_cases h3 : x.2.2.2.2.2.2.1 = 3
    · rw [h3] at hs
      simp only [beq_self_eq_true, cond_true, Bool.and_eq_true, bne_iff_ne, ne_eq, Bool.not_eq_true'] at hs
      exact .inr (.inl ⟨h3, hs.1, hs.2⟩)
    · rw [show (x.2.2.2.2.2.2.1 == 3) = false by simpa using h3] at hs
      simp only [cond_false, Bool.and_eq_true, beq_iff_eq, Bool.or_eq_true, bne_iff_ne, ne_eq] at hs
      exact .inr (.inr ⟨hs.1, hs.2.1, hs.2.2⟩)
structure OpenTx (x : Tx) : Prop where
  id : idB x.1 = true
  call : callB (callOf x) = true
  ne : 0 < x.2.2.2.2.2.1.length
  rg : Rise x.2.2.2.2.2.1
  bg : ∀ g ∈ x.2.2.2.2.2.1, 1 ≤ g ∧ g ≤ 16
  ry : Rise x.2.2.2.2.2.2.2.1
  sy : ∀ g ∈ x.2.2.2.2.2.2.2.1, g ∈ x.2.2.2.2.2.1
  st : x.2.2.2.2.2.2.1 = 1
  dn : x.2.2.2.2.2.2.2.2.1 = []
  code : x.2.2.2.2.2.2.2.2.2 = 0
theorem settle_ok {x : Tx} (h : OpenTx x) : TxOk (settleOf x) := by
  have hne := h.ne
  unfold settleOf
  cases hr : rdB x with
  | true =>
    refine ⟨h.id, h.call, h.ne, h.rg, h.bg, h.ry, h.sy, by show Rise x.2.2.2.2.2.2.2.2.1; rw [h.dn]; exact List.Pairwise.nil, by show ∀ g ∈ x.2.2.2.2.2.2.2.2.1, _; rw [h.dn]; simp, ?_⟩
    show stB 2 x.2.2.2.2.2.2.2.2.2 (d0B x) (rdB x) (daB x) = true
    unfold stB daB
    rw [hr, h.code, h.dn, decide_eq_false (by simp; intro e; rw [← e] at hne; simp at hne)]
    rfl
  | false =>
    refine ⟨h.id, h.call, h.ne, h.rg, h.bg, h.ry, h.sy, by show Rise x.2.2.2.2.2.2.2.2.1; rw [h.dn]; exact List.Pairwise.nil, by show ∀ g ∈ x.2.2.2.2.2.2.2.2.1, _; rw [h.dn]; simp, ?_⟩
    show stB x.2.2.2.2.2.2.1 x.2.2.2.2.2.2.2.2.2 (d0B x) (rdB x) (daB x) = true
    unfold stB d0B
    rw [hr, h.code, h.dn, h.st]
    rfl
/-- What a turn must keep. -/
structure Keep (x y : Tx) (no' : Bool) : Prop where
  ok : TxOk y
  small : Small y
  yes : x.2.2.2.2.2.2.2.1.length ≤ y.2.2.2.2.2.2.2.1.length
  dn : x.2.2.2.2.2.2.2.2.1.length ≤ y.2.2.2.2.2.2.2.2.1.length
  no : no' = (y.2.2.2.2.2.2.2.2.2 != 0)
  same : x.2.2.2.2.2.2.1 ≠ 1 → y.2.2.2.2.2.2.1 ≠ 1 ∧ y.2.2.2.2.2.2.2.2.2 = x.2.2.2.2.2.2.2.2.2 ∧ y.2.2.2.1 = x.2.2.2.1 ∧ y.2.1 = x.2.1
theorem settle_fields (z : Tx) : (settleOf z).2.2.2.2.2.2.2 = z.2.2.2.2.2.2.2 := by
  unfold settleOf withSt
  cases rdB z <;> rfl
theorem token_keep {x : Tx} {t : Int} (T : TxOk x) (h : Small x) (he : (tokenOf x t).2 = 0) : Keep x (tokenOf x t).1 (x.2.2.2.2.2.2.2.2.2 != 0) := by
  unfold tokenOf at he ⊢
  rw [txOk_iff.2 T] at he ⊢
  simp only [Bool.not_true, cond_false] at he ⊢
  cases h1 : (x.2.2.2.2.2.2.1 != 1) with
  | true => rw [h1] at he; cases he
  | false =>
    rw [h1] at he
    cases h2 : (t == 0) with
    | true => rw [h2] at he; cases he
    | false =>
      rw [h2] at he
      cases h3 : (x.2.2.2.1 != 0) with
      | true => rw [h3] at he; cases he
      | false =>
        simp only [cond_false]
        rw [bne_eq_false_iff_eq] at h1 h3
        obtain ⟨o1, o2, o3⟩ := st_one T h1
        have hk : (x.2.1 == 1) = true := by
          have := T.call
          unfold callB callOf at this
          rw [h3] at this
          simp only [Bool.and_eq_true] at this
          have e : (bif x.2.1 == 1 then (0 : Int) else 0) = 0 := by cases (x.2.1 == 1) <;> rfl
          have h5 := this.2.1
          rw [e] at h5
          simpa using h5
        have hO : OpenTx (withTok x t) := ⟨T.id, by
          have h5 := T.call
          unfold callOf at h5 ⊢
          show callB (x.2.1, x.2.2.1, (bif x.2.1 == 1 then 0 else t), x.2.2.2.2.1) = true
          rw [hk] at h5 ⊢
          exact h5, T.ne, T.rg, T.bg, T.ry, T.sy, h1, o1, o2⟩
        have hf := settle_fields (withTok x t)
        refine ⟨settle_ok hO, small_settle ⟨h.keys, h.gs, h.yes, h.dn⟩, by rw [hf]; exact Nat.le_refl _, by rw [hf]; exact Nat.le_refl _, by rw [hf]; rfl, fun hh => absurd h1 hh⟩
theorem voted_keep {x : Tx} {g c : Int} (T : TxOk x) (h : Small x) (he : (votedOf x g c).2 = 0) : Keep x (votedOf x g c).1 ((x.2.2.2.2.2.2.2.2.2 != 0) || c != 0) := by
  unfold votedOf at he ⊢
  rw [txOk_iff.2 T] at he ⊢
  simp only [Bool.not_true, cond_false] at he ⊢
  cases h0 : x.2.2.2.2.2.1.contains g with
  | false => rw [h0] at he; cases he
  | true =>
    rw [h0] at he
    cases h1 : (x.2.2.2.2.2.2.1 != 1) with
    | true => rw [h1] at he; cases he
    | false =>
      rw [h1] at he
      rw [bne_eq_false_iff_eq] at h1
      obtain ⟨o1, o2, o3⟩ := st_one T h1
      have hne := T.ne
      simp only [Bool.not_true, cond_false]
      cases h2 : (c != 0) with
      | true =>
        simp only [cond_true, Bool.or_true]
        refine ⟨⟨T.id, T.call, T.ne, T.rg, T.bg, T.ry, T.sy, T.rd, T.sd, ?_⟩, ⟨h.keys, h.gs, h.yes, h.dn⟩, Nat.le_refl _, Nat.le_refl _, h2.symm, fun hh => absurd h1 hh⟩
        show stB 3 c (d0B x) (rdB x) (daB x) = true
        unfold stB daB
        rw [h2, o1, decide_eq_false (by simp; intro e; rw [← e] at hne; simp at hne)]
        rfl
      | false =>
        rw [h2] at he
        simp only [Bool.not_true, cond_false] at he ⊢
        cases h3 : x.2.2.2.2.2.2.2.1.contains g with
        | true => rw [h3] at he; cases he
        | false =>
          simp only [cond_false, Bool.or_false]
          have hny : g ∉ x.2.2.2.2.2.2.2.1 := by
            intro hh; rw [show x.2.2.2.2.2.2.2.1.contains g = true by simpa using hh] at h3; cases h3
          rw [List.contains_iff_mem] at h0
          have hO : OpenTx (withYes x (addI x.2.2.2.2.2.2.2.1 g)) := ⟨T.id, T.call, T.ne, T.rg, T.bg, rise_addI T.ry hny, fun y hy => by
            rcases mem_addI.1 hy with hy | rfl
            · exact T.sy y hy
            · exact h0, h1, o1, o2⟩
          have hf := settle_fields (withYes x (addI x.2.2.2.2.2.2.2.1 g))
          refine ⟨settle_ok hO, small_settle (small_yes h (by have := T.len.2.1; omega)), ?_, ?_, ?_, fun hh => absurd h1 hh⟩
          · rw [hf]; show _ ≤ (addI _ _).length; rw [addI_len]; omega
          · rw [hf]; exact Nat.le_refl _
          · rw [hf]; rfl
theorem applied_keep {x : Tx} {g : Int} (T : TxOk x) (h : Small x) (he : (appliedOf x g).2 = 0) : Keep x (appliedOf x g).1 (x.2.2.2.2.2.2.2.2.2 != 0) := by
  unfold appliedOf at he ⊢
  rw [txOk_iff.2 T] at he ⊢
  simp only [Bool.not_true, cond_false] at he ⊢
  cases h0 : x.2.2.2.2.2.1.contains g with
  | false => rw [h0] at he; cases he
  | true =>
    rw [h0] at he
    cases h1 : (x.2.2.2.2.2.2.1 != 2 && x.2.2.2.2.2.2.1 != 3) with
    | true => rw [h1] at he; cases he
    | false =>
      rw [h1] at he
      cases h3 : x.2.2.2.2.2.2.2.2.1.contains g with
      | true => rw [h3] at he; cases he
      | false =>
        simp only [Bool.not_true, cond_false]
        have hnd : g ∉ x.2.2.2.2.2.2.2.2.1 := by
          intro hh; rw [show x.2.2.2.2.2.2.2.2.1.contains g = true by simpa using hh] at h3; cases h3
        rw [List.contains_iff_mem] at h0
        have hln := T.len
        have h1' : x.2.2.2.2.2.2.1 = 2 ∨ x.2.2.2.2.2.2.1 = 3 := by
          simp only [Bool.and_eq_false_iff, bne_eq_false_iff_eq] at h1
          exact h1
        have hne1 : x.2.2.2.2.2.2.1 ≠ 1 := by omega
        refine ⟨⟨T.id, T.call, T.ne, T.rg, T.bg, T.ry, T.sy, rise_addI T.rd hnd, fun y hy => by
          rcases mem_addI.1 hy with hy | rfl
          · exact T.sd y hy
          · exact h0, ?_⟩, ⟨h.keys, h.gs, h.yes, by show (addI _ _).length ≤ _; rw [addI_len]; omega⟩, Nat.le_refl _, by show _ ≤ (addI _ _).length; rw [addI_len]; omega, rfl, fun _ => ⟨?_, rfl, rfl, rfl⟩⟩
        · show stB (bif decide ((addI x.2.2.2.2.2.2.2.2.1 g).length = x.2.2.2.2.2.1.length) then 4 else x.2.2.2.2.2.2.1) x.2.2.2.2.2.2.2.2.2 (decide ((addI x.2.2.2.2.2.2.2.2.1 g).length = 0)) (rdB x) (decide ((addI x.2.2.2.2.2.2.2.2.1 g).length = x.2.2.2.2.2.1.length)) = true
          rcases st_other T hne1 with ⟨a, b, c, d⟩ | ⟨a, b, c⟩ | ⟨a, b, c⟩
          · rw [a, b, d]
            cases decide ((addI x.2.2.2.2.2.2.2.2.1 g).length = x.2.2.2.2.2.1.length) <;> rfl
          · rw [a]
            unfold stB
            rw [show (x.2.2.2.2.2.2.2.2.2 != 0) = true by simpa using b]
            cases decide ((addI x.2.2.2.2.2.2.2.2.1 g).length = x.2.2.2.2.2.1.length) <;> rfl
          · omega
        · show (bif decide ((addI x.2.2.2.2.2.2.2.2.1 g).length = x.2.2.2.2.2.1.length) then 4 else x.2.2.2.2.2.2.1) ≠ 1
          cases decide ((addI x.2.2.2.2.2.2.2.2.1 g).length = x.2.2.2.2.2.1.length) with
          | true => simp
          | false => exact hne1
def replyOf (x : Tx) : Rp × Bool := bif txOk x && !(x.2.2.2.2.2.2.1 == 1) then ((x.2.2.2.2.2.2.2.2.2, ((bif x.2.2.2.2.2.2.2.2.2 == 0 && x.2.1 == 1 then x.2.2.2.1 else 0), [])), true) else ((0, (0, [])), false)
theorem Reply_eq (x : Tx) (h : Small x) : txn_Reply' x = some (replyOf x) := by
  unfold txn_Reply' replyOf
  rw [Check_eq x h]
  cases txOk x <;> cases (x.2.2.2.2.2.2.1 == 1) <;> cases (x.2.2.2.2.2.2.2.2.2 == 0) <;> cases (x.2.1 == 1) <;> rfl
theorem reply_nil (x : Tx) : (replyOf x).1.2.2 = [] := by
  unfold replyOf
  cases (txOk x && !(x.2.2.2.2.2.2.1 == 1)) <;> rfl
theorem SameReply_eq (a : Rp) (h : a.2.2 = []) : ref20_SameReply' a a = some true := by
  obtain ⟨c, t, l⟩ := a
  simp only at h
  subst h
  unfold ref20_SameReply'
  simp only [bne_self_eq_false, cond_false]
  rw [ref20_SameReply_p14_eq]
  rfl
def doOf (x : Tx) (s : Say) : Tx × Int := bif s.1 == 0 then tokenOf x s.2.2.2 else bif s.1 == 1 then appliedOf x s.2.1 else votedOf x s.2.1 s.2.2.1
def noOf (no : Bool) (s : Say) (e : Int) : Bool := bif s.1 == 0 then no else bif s.1 == 1 then no else no || (e == 0 && s.2.2.1 != 0)
theorem p31_eq (l : List Say) (no dec : Bool) (i j : Int) (b : Bool) (x : Tx) (r : Rp) (s : Say) (y0) (h : Small x) :
    law20_TxnDecides_p31' l no dec i j b (flat x) r s y0 = some (l, noOf no s (doOf x s).2, dec, i, (doOf x s).2, j, b, flat x, r, flat (doOf x s).1) := by
  unfold law20_TxnDecides_p31' noOf doOf
  show (bif s.1 == 0 then (txn_Token' x s.2.2.2).bind _ else bif s.1 == 1 then (txn_Applied' x s.2.1).bind _ else (txn_Voted' x s.2.1 s.2.2.1).bind _) = _
  rw [Token_eq x _ h, Applied_eq x _ h, Voted_eq x _ _ h]
  simp only [Option.bind_some]
  cases (s.1 == 0) with
  | true => rfl
  | false =>
    cases (s.1 == 1) with
    | true => rfl
    | false =>
      simp only [cond_false]
      cases no with
      | true => rfl
      | false => cases ((votedOf x s.2.1 s.2.2.1).2 == 0) <;> rfl
theorem do_keep {x : Tx} {s : Say} (T : TxOk x) (h : Small x) (he : (doOf x s).2 = 0) : Keep x (doOf x s).1 (noOf (x.2.2.2.2.2.2.2.2.2 != 0) s (doOf x s).2) := by
  rw [he]
  unfold doOf noOf at *
  cases h0 : (s.1 == 0) with
  | true => rw [h0] at he; exact token_keep T h he
  | false =>
    rw [h0] at he
    cases h1 : (s.1 == 1) with
    | true => rw [h1] at he; exact applied_keep T h he
    | false => rw [h1] at he; exact voted_keep T h he
theorem no_err (no : Bool) (s : Say) {e : Int} (h : e ≠ 0) : noOf no s e = no := by
  unfold noOf
  rw [show (e == 0) = false by simpa using h]
  cases (s.1 == 0) <;> cases (s.1 == 1) <;> simp
structure DS where
  no : Bool
  dec : Bool
  x : Tx
  r : Rp
theorem decides_loop (l : List Say) (x0 : Tx) (T0 : TxOk x0) (h0 : Small x0) :
    ∃ x, TxOk x ∧ law20_TxnDecides_p18' l (x0.2.2.2.2.2.2.2.2.2 != 0) (replyOf x0).2 0 (flat x0) (replyOf x0).1 = some (.inl (flat x)) := by
  have key := loop_inv (min l.length 100) (fun i (s : DS) => law20_TxnDecides_p18' l s.no s.dec (i : Int) (flat s.x) s.r)
    (fun i s => TxOk s.x ∧ Small s.x ∧ s.no = (s.x.2.2.2.2.2.2.2.2.2 != 0) ∧ (s.r, s.dec) = replyOf s.x) (fun r => ∃ x, TxOk x ∧ r = some (.inl (flat x)))
    (fun i s hi ⟨T, h, hno, hr⟩ => by
      left
      obtain ⟨no, dec, x, r⟩ := s
      simp only at T h hno hr ⊢
      subst hno
      have hr1 : r = (replyOf x).1 := by rw [← hr]
      have hr2 : dec = (replyOf x).2 := by rw [← hr]
      rw [law20_TxnDecides_p18_eq, decide_eq_true (by omega : (i : Int) < (l.length : Int)), decide_eq_true (by omega : (i : Int) < 100), at?_lt (by omega : i < l.length)]
      simp only [cond_true, Option.bind_some]
      generalize l[i]'(by omega) = s
      show ∃ s', (Option.bind (law20_TxnDecides_p31' l (x.2.2.2.2.2.2.2.2.2 != 0) dec (i : Int) (i : Int) true (flat x) r s (0, 0, 0, 0, 0, 0, 0)) _) = _ ∧ _
      rw [p31_eq l _ dec _ _ _ x r s _ h]
      simp only [Option.bind_some]
      by_cases he : (doOf x s).2 = 0
      · have K := do_keep T h he
        rw [he] at K ⊢
        refine ⟨⟨noOf (x.2.2.2.2.2.2.2.2.2 != 0) s 0, (replyOf (doOf x s).1).2, (doOf x s).1, (replyOf (doOf x s).1).1⟩, ?_, K.ok, K.small, K.no, rfl⟩
        rw [bne_self_eq_false]
        simp only [cond_false]
        show (Option.bind (ref20_May' (doOf x s).1) _) = _
        rw [May_eq _ K.small, txOk_iff.2 K.ok]
        simp only [Option.bind_some, Bool.not_true, cond_false]
        show (bif decide (((doOf x s).1.2.2.2.2.2.2.2.1.length : Int) < (x.2.2.2.2.2.2.2.1.length : Int)) then _ else bif decide (((doOf x s).1.2.2.2.2.2.2.2.2.1.length : Int) < (x.2.2.2.2.2.2.2.2.1.length : Int)) then _ else Option.bind (txn_Reply' (doOf x s).1) _) = _
        have k1 := K.yes
        have k2 := K.dn
        rw [decide_eq_false (by omega), decide_eq_false (by omega), Reply_eq _ K.small]
        simp only [cond_false, Option.bind_some, wrap_succ (by omega : i ≤ 1000000000000000000)]
        have hnow : (replyOf (doOf x s).1).2 = !((doOf x s).1.2.2.2.2.2.2.1 == 1) := by
          unfold replyOf
          rw [txOk_iff.2 K.ok]
          cases ((doOf x s).1.2.2.2.2.2.2.1 == 1) <;> rfl
        have hcode : (replyOf (doOf x s).1).2 = true → ((replyOf (doOf x s).1).1.1 == 0) = true → noOf (x.2.2.2.2.2.2.2.2.2 != 0) s 0 = false ∧ (((doOf x s).1.2.2.2.2.2.2.2.1.length : Int) != ((doOf x s).1.2.2.2.2.2.1.length : Int)) = false := by
          intro hn hc
          have hne : (doOf x s).1.2.2.2.2.2.2.1 ≠ 1 := by rw [hnow] at hn; simpa using hn
          have hq : (replyOf (doOf x s).1).1.1 = (doOf x s).1.2.2.2.2.2.2.2.2.2 := by
            unfold replyOf
            rw [txOk_iff.2 K.ok, show ((doOf x s).1.2.2.2.2.2.2.1 == 1) = false by simpa using hne]; rfl
          rw [hq, beq_iff_eq] at hc
          refine ⟨by rw [K.no, hc]; rfl, ?_⟩
          have hrd : rdB (doOf x s).1 = true := by
            rcases st_other K.ok hne with ⟨a, b, c, d⟩ | ⟨a, b, c⟩ | ⟨a, b, c⟩
            · exact b
            · exact absurd hc b
            · exact c.resolve_left (fun h => h hc)
          unfold rdB at hrd
          simp only [Bool.and_eq_true, decide_eq_true_eq] at hrd
          rw [bne_eq_false_iff_eq, hrd.1]
        have hdec : dec = true → (replyOf (doOf x s).1).2 = true ∧ (replyOf (doOf x s).1).1 = r := by
          intro hd
          rw [hr2] at hd
          unfold replyOf at hd
          rw [txOk_iff.2 T] at hd
          have hne : x.2.2.2.2.2.2.1 ≠ 1 := by
            intro e; rw [e] at hd; cases hd
          obtain ⟨a, b, c, d⟩ := K.same hne
          refine ⟨by rw [hnow]; simpa using a, ?_⟩
          rw [hr1]
          unfold replyOf
          rw [txOk_iff.2 T, txOk_iff.2 K.ok, show (x.2.2.2.2.2.2.1 == 1) = false by simpa using hne, show ((doOf x s).1.2.2.2.2.2.2.1 == 1) = false by simpa using a, b, c, d]
        have hrn := reply_nil (doOf x s).1
        generalize hq : replyOf (doOf x s).1 = q at *
        obtain ⟨q, now⟩ := q
        simp only at *
        cases hd : dec with
        | true =>
          obtain ⟨rfl, rfl⟩ := hdec hd
          simp only [cond_true, Bool.not_true, cond_false]
          rw [SameReply_eq q hrn]
          simp only [Option.bind_some, Bool.not_true, cond_false]
          cases hc : (q.1 == 0) with
          | false => rfl
          | true =>
            obtain ⟨n1, n2⟩ := hcode rfl hc
            rw [n1]
            simp only [cond_true, cond_false]
            show (bif (((doOf x s).1.2.2.2.2.2.2.2.1.length : Int) != ((doOf x s).1.2.2.2.2.2.1.length : Int)) then _ else _) = _
            rw [n2]
            rfl
        | false =>
          simp only [cond_false]
          cases hn : now with
          | false => rfl
          | true =>
            subst hn
            simp only [cond_true]
            cases hc : (q.1 == 0) with
            | false => rfl
            | true =>
              obtain ⟨n1, n2⟩ := hcode rfl hc
              rw [n1]
              simp only [cond_true, cond_false]
              show (bif (((doOf x s).1.2.2.2.2.2.2.2.1.length : Int) != ((doOf x s).1.2.2.2.2.2.1.length : Int)) then _ else _) = _
              rw [n2]
              rfl
      · refine ⟨⟨x.2.2.2.2.2.2.2.2.2 != 0, dec, x, r⟩, ?_, T, h, rfl, hr⟩
        rw [show ((doOf x s).2 != 0) = true by simpa using he, no_err _ s he, wrap_succ (by omega : i ≤ 1000000000000000000)]
        rfl)
    (fun s ⟨T, h, hno, hr⟩ => ⟨s.x, T, by
      try dsimp only
      rw [law20_TxnDecides_p18_eq]
      by_cases hl : l.length ≤ 100
      · rw [decide_eq_false (by omega)]; rfl
      · rw [decide_eq_true (by omega), decide_eq_false (by omega)]; rfl⟩)
  exact key 0 ⟨x0.2.2.2.2.2.2.2.2.2 != 0, (replyOf x0).2, x0, (replyOf x0).1⟩ (by omega) ⟨T0, h0, rfl, rfl⟩
theorem law_TxnDecides (x : Tx) (l : List Say) : ∃ k, law20_TxnDecides k x l = some true := by
  refine (law20_TxnDecides_lm x l).fin ?_
  unfold law20_TxnDecides' law20_light'
  rw [awake20_eq]
  by_cases h1 : (x.2.2.1.length : Int) ≤ 40
  · rw [decide_eq_true h1]
    by_cases h2 : (x.2.2.2.2.2.1.length : Int) ≤ 40
    · rw [decide_eq_true h2]
      by_cases h3 : (x.2.2.2.2.2.2.2.1.length : Int) ≤ 40
      · rw [decide_eq_true h3]
        by_cases h4 : (x.2.2.2.2.2.2.2.2.1.length : Int) ≤ 40
        · rw [decide_eq_true h4]
          have h : Small x := ⟨by omega, by omega, by omega, by omega⟩
          simp only [cond_true, Option.bind_some, Bool.not_true, cond_false]
          rw [May_eq x h, Reply_eq x h]
          simp only [Option.bind_some]
          cases hk : txOk x with
          | false => rfl
          | true =>
            obtain ⟨y, Ty, hy⟩ := decides_loop l x (txOk_iff.1 hk) h
            simp only [Bool.not_true, cond_false]
            show (Option.bind (law20_TxnDecides_p18' l (x.2.2.2.2.2.2.2.2.2 != 0) (replyOf x).2 0 (flat x) (replyOf x).1) _) = _
            rw [hy]
            simp only [Option.bind_some, Sum.elim_inl]
            show (bif (y.2.2.2.2.2.2.1 != 4) then _ else bif (((y.2.2.2.2.2.2.2.2.1.length : Nat) : Int) == ((y.2.2.2.2.2.1.length : Nat) : Int)) then _ else _) = _
            cases h5 : (y.2.2.2.2.2.2.1 != 4) with
            | true => rfl
            | false =>
              rw [bne_eq_false_iff_eq] at h5
              rcases st_other Ty (by omega) with ⟨a, _⟩ | ⟨a, _⟩ | ⟨a, b, c⟩
              · omega
              · omega
              · unfold daB at b
                rw [nat_beq, b]
                rfl
        · rw [decide_eq_false h4]; rfl
      · rw [decide_eq_false h3]; rfl
    · rw [decide_eq_false h2]; rfl
  · rw [decide_eq_false h1]; rfl
end Go.Proofs.Ytpnpbhjdjddaiaa.gg
