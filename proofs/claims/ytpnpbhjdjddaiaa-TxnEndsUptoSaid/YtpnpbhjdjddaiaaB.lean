/- What a token, a vote, and what a group has done make of a record: the plain laws. -/
import Derived.Test.YtpnpbhjdjddaiaaA
open Go Go.GG
set_option linter.unusedVariables false
namespace Go.Proofs.Ytpnpbhjdjddaiaa.gg
def tx0 : Tx := ((0, 0), (0, ([], (0, (0, ([], (0, ([], ([], 0)))))))))
theorem own_eq (x : Tx) (h : Small x) : txn_own' x = some x := by
  unfold txn_own'
  have := h.keys; have := h.gs; have := h.yes; have := h.dn
  rw [slices_Clone_string_string_is _ (by omega), slices_Clone_int_int_is _ (by omega), slices_Clone_int_int_is _ (by omega), slices_Clone_int_int_is _ (by omega)]
  rfl
def openOf (i : Int × Int) (c : Cl) (l : List Int) : Tx := (i, (c.1, (c.2.1, (c.2.2.1, (c.2.2.2, (l, (1, ([], ([], 0)))))))))
def beginOf (i : Int × Int) (c : Cl) (l : List Int) : Tx × Int := bif callB c && txOk (openOf i c l) then (openOf i c l, 0) else (tx0, 1)
theorem small_open {i : Int × Int} {c : Cl} {l : List Int} (hc : c.2.1.length ≤ 1048576) (hl : l.length ≤ 1048576) : Small (openOf i c l) := ⟨hc, hl, by simp [openOf], by simp [openOf]⟩
theorem Begin_eq (i : Int × Int) (c : Cl) (l : List Int) (hc : c.2.1.length ≤ 1048576) (hl : l.length ≤ 1048576) : txn_Begin' i c l = some (beginOf i c l) := by
  have hs : Small (openOf i c l) := small_open hc hl
  unfold txn_Begin' beginOf
  rw [CheckCall_eq c hc]
  simp only [Option.bind_some]
  cases callB c with
  | false => rfl
  | true =>
    simp only [cond_true, bne_self_eq_false, cond_false, Bool.true_and]
    show (txn_own' (openOf i c l)).bind _ = _
    rw [own_eq _ hs]
    simp only [Option.bind_some]
    unfold txn_told'
    rw [Check_eq _ hs]
    simp only [Option.bind_some]
    cases txOk (openOf i c l) <;> rfl
theorem refBegin_eq (i : Int × Int) (c : Cl) (l : List Int) (hc : c.2.1.length ≤ 1048576) (hl : l.length ≤ 1048576) : ref20_Begin' i c l = some (beginOf i c l) := by
  have hs : Small (openOf i c l) := small_open hc hl
  unfold ref20_Begin' beginOf
  rw [MayCall_eq c hc]
  simp only [Option.bind_some]
  cases callB c with
  | false => rfl
  | true =>
    simp only [Bool.not_true, cond_false, Bool.true_and]
    show (ref20_May' (openOf i c l)).bind _ = _
    rw [May_eq _ hs]
    simp only [Option.bind_some]
    cases txOk (openOf i c l) <;> rfl
def withSt (x : Tx) (s : Int) : Tx := (x.1, (x.2.1, (x.2.2.1, (x.2.2.2.1, (x.2.2.2.2.1, (x.2.2.2.2.2.1, (s, x.2.2.2.2.2.2.2)))))))
def settleOf (x : Tx) : Tx := bif rdB x then withSt x 2 else x
theorem settle_eq (x : Tx) : txn_settle' x = some (settleOf x) := by
  unfold txn_settle' settleOf rdB
  rw [nat_beq]
  cases (x.2.2.2.1 != 0) <;> cases decide (x.2.2.2.2.2.2.2.1.length = x.2.2.2.2.2.1.length) <;> rfl
theorem refSettle_eq (x : Tx) (h : Small x) (h1 : Rise x.2.2.2.2.2.1) (h2 : Rise x.2.2.2.2.2.2.2.1) (h3 : ∀ g ∈ x.2.2.2.2.2.2.2.1, g ∈ x.2.2.2.2.2.1) : ref20_settle' x = some (settleOf x) := by
  unfold ref20_settle' settleOf rdB
  rw [all_eq h.gs h.yes, all_len h1 h2 h3]
  simp only [Option.bind_some]
  cases (x.2.2.2.1 != 0) <;> cases decide (x.2.2.2.2.2.2.2.1.length = x.2.2.2.2.2.1.length) <;> rfl
theorem small_settle {x : Tx} (h : Small x) : Small (settleOf x) := by
  unfold settleOf
  cases rdB x with
  | true => exact ⟨h.keys, h.gs, h.yes, h.dn⟩
  | false => exact h
def withTok (x : Tx) (t : Int) : Tx := (x.1, (x.2.1, (x.2.2.1, (t, x.2.2.2.2))))
def tokenOf (x : Tx) (t : Int) : Tx × Int := bif !txOk x then (tx0, 1) else bif x.2.2.2.2.2.2.1 != 1 then (tx0, 7) else bif t == 0 then (tx0, 1) else bif x.2.2.2.1 != 0 then (tx0, 6) else (settleOf (withTok x t), 0)
theorem Token_eq (x : Tx) (t : Int) (h : Small x) : txn_Token' x t = some (tokenOf x t) := by
  unfold txn_Token' tokenOf
  rw [Check_eq x h, own_eq x h]
  simp only [Option.bind_some]
  show (bif ((bif txOk x then (0 : Int) else 1) != 0) then _ else bif _ then _ else bif _ then _ else bif _ then _ else (txn_settle' (withTok x t)).bind _) = _
  rw [settle_eq]
  cases txOk x <;> cases (x.2.2.2.2.2.2.1 != 1) <;> cases (t == 0) <;> cases (x.2.2.2.1 != 0) <;> rfl
theorem refToken_eq (x : Tx) (t : Int) (h : Small x) : ref20_Token' x t = some (tokenOf x t) := by
  unfold ref20_Token' tokenOf
  rw [May_eq x h]
  simp only [Option.bind_some]
  cases hk : txOk x with
  | false => rfl
  | true =>
    have T := txOk_iff.1 hk
    show (bif !true then _ else bif _ then _ else bif _ then _ else bif _ then _ else (ref20_settle' (withTok x t)).bind _) = _
    rw [refSettle_eq (withTok x t) ⟨h.keys, h.gs, h.yes, h.dn⟩ T.rg T.ry T.sy]
    cases (x.2.2.2.2.2.2.1 != 1) <;> cases (t == 0) <;> cases (x.2.2.2.1 != 0) <;> rfl
theorem with_eq {l : List Int} (g : Int) (hl : l.length ≤ 1048576) (h : Rise l) : txn_with' l g = some (bif l.contains g then (l, false) else (addI l g, true)) := by
  unfold txn_with'
  rw [bsI_eq (by omega) h]
  simp only [Option.bind_some]
  cases l.contains g with
  | true => rfl
  | false =>
    simp only [cond_false]
    rw [slices_Clone_int_int_is l (by omega)]
    simp only [Option.bind_some]
    rw [Insert_eq (by omega)]
    rfl
theorem take_upTo {n i : Nat} (h : i ≤ n) : (upTo n).take i = upTo i := by
  unfold upTo
  rw [← List.map_take, List.take_range, Nat.min_eq_left h]
theorem plus_eq {l : List Int} {g : Int} (h : Rise l) (hb : ∀ x ∈ l, 1 ≤ x ∧ x ≤ 16) (h1 : 1 ≤ g) (h16 : g ≤ 16) (hg : g ∉ l) : ref20_plus' l g = some (addI l g) := by
  have hlen := h.bound (n := 16) hb
  have key := fold_loop (upTo 16) (fun (o : List Int) x => bif (x == g || l.contains x) then o ++ [x] else o) [] (fun i o => ref20_plus_p8' l g ((i + 1 : Nat) : Int) o) (out := fun o => some o) (fun i hi => by
    try dsimp only
    rw [upTo_len] at hi
    rw [upTo_get (by rw [upTo_len]; exact hi), foldl_filter, take_upTo (by omega), List.nil_append, ref20_plus_p8_eq, decide_eq_true (by omega), In_eq (by omega), wrap_succ (by omega)]
    have hlf : ((upTo i).filter (fun x => x == g || l.contains x)).length ≤ 16 := Nat.le_trans (List.length_filter_le _ _) (by rw [upTo_len]; omega)
    rw [room_of (by rw [List.length_append, List.length_singleton]; omega)]
    simp only [cond_true, Option.bind_some]
    cases (((i + 1 : Nat) : Int) == g) <;> cases l.contains ((i + 1 : Nat) : Int) <;> rfl) (by
    try dsimp only
    rw [upTo_len, ref20_plus_p8_eq, decide_eq_false (by omega)]; rfl)
  try dsimp only at key
  simp only [show ((0 + 1 : Nat) : Int) = 1 from rfl] at key
  unfold ref20_plus'
  rw [key, foldl_filter, List.nil_append]
  simp only [Option.bind_some]
  congr 1
  refine ((rise_upTo 16).filter _).ext (rise_addI h hg) fun x => ?_
  rw [List.mem_filter, mem_upTo, mem_addI]
  simp only [Bool.or_eq_true, beq_iff_eq, List.contains_iff_mem]
  constructor
  · rintro ⟨_, h | h⟩
    · exact .inr h
    · exact .inl h
  · rintro (h | rfl)
    · exact ⟨hb x h, .inr h⟩
    · exact ⟨⟨h1, h16⟩, .inl rfl⟩
def withYes (x : Tx) (l : List Int) : Tx := (x.1, (x.2.1, (x.2.2.1, (x.2.2.2.1, (x.2.2.2.2.1, (x.2.2.2.2.2.1, (x.2.2.2.2.2.2.1, (l, x.2.2.2.2.2.2.2.2))))))))
def abortOf (x : Tx) (c : Int) : Tx := (x.1, (x.2.1, (x.2.2.1, (x.2.2.2.1, (x.2.2.2.2.1, (x.2.2.2.2.2.1, (3, (x.2.2.2.2.2.2.2.1, (x.2.2.2.2.2.2.2.2.1, c)))))))))
def votedOf (x : Tx) (g c : Int) : Tx × Int := bif !txOk x then (tx0, 1) else bif !x.2.2.2.2.2.1.contains g then (tx0, 4) else bif x.2.2.2.2.2.2.1 != 1 then (tx0, 7) else bif c != 0 then (abortOf x c, 0) else
  bif x.2.2.2.2.2.2.2.1.contains g then (tx0, 6) else (settleOf (withYes x (addI x.2.2.2.2.2.2.2.1 g)), 0)
theorem small_yes {x : Tx} {g : Int} (h : Small x) (hy : x.2.2.2.2.2.2.2.1.length < 1048576) : Small (withYes x (addI x.2.2.2.2.2.2.2.1 g)) := ⟨h.keys, h.gs, by show (addI _ _).length ≤ _; rw [addI_len]; omega, h.dn⟩
theorem TxOk.len {x : Tx} (T : TxOk x) : x.2.2.2.2.2.1.length ≤ 16 ∧ x.2.2.2.2.2.2.2.1.length ≤ 16 ∧ x.2.2.2.2.2.2.2.2.1.length ≤ 16 :=
  ⟨T.rg.bound (n := 16) T.bg, T.ry.bound (n := 16) fun g hg => T.bg g (T.sy g hg), T.rd.bound (n := 16) fun g hg => T.bg g (T.sd g hg)⟩
theorem Voted_eq (x : Tx) (g c : Int) (h : Small x) : txn_Voted' x g c = some (votedOf x g c) := by
  unfold txn_Voted' votedOf
  rw [Check_eq x h, own_eq x h]
  have hg := h.gs
  simp only [Option.bind_some]
  rw [Contains_eq (by omega)]
  simp only [Option.bind_some]
  cases hk : txOk x with
  | false => rfl
  | true =>
    have T := txOk_iff.1 hk
    rw [with_eq g h.yes T.ry]
    simp only [Option.bind_some]
    cases x.2.2.2.2.2.1.contains g with
    | false => rfl
    | true =>
      cases (x.2.2.2.2.2.2.1 != 1) with
      | true => rfl
      | false =>
        cases (c != 0) with
        | true => rfl
        | false =>
          cases x.2.2.2.2.2.2.2.1.contains g with
          | true => rfl
          | false =>
            simp only [cond_true, cond_false, Bool.not_true, bne_self_eq_false]
            show (txn_settle' (withYes x (addI x.2.2.2.2.2.2.2.1 g))).bind _ = _
            rw [settle_eq]; rfl
theorem refVoted_eq (x : Tx) (g c : Int) (h : Small x) : ref20_Voted' x g c = some (votedOf x g c) := by
  unfold ref20_Voted' votedOf
  rw [May_eq x h]
  have hg := h.gs
  have hy := h.yes
  simp only [Option.bind_some]
  rw [In_eq (by omega), In_eq (by omega)]
  simp only [Option.bind_some]
  cases hk : txOk x with
  | false => rfl
  | true =>
    have T := txOk_iff.1 hk
    cases hcg : x.2.2.2.2.2.1.contains g with
    | false => rfl
    | true =>
      cases (x.2.2.2.2.2.2.1 != 1) with
      | true => rfl
      | false =>
        cases (c != 0) with
        | true => rfl
        | false =>
          cases hcy : x.2.2.2.2.2.2.2.1.contains g with
          | true => rfl
          | false =>
            rw [List.contains_iff_mem] at hcg
            have hny : g ∉ x.2.2.2.2.2.2.2.1 := by
              intro hh; rw [show x.2.2.2.2.2.2.2.1.contains g = true by simpa using hh] at hcy; cases hcy
            have hb := T.bg g hcg
            rw [plus_eq T.ry (fun y hy => T.bg y (T.sy y hy)) hb.1 hb.2 hny]
            simp only [cond_false, Bool.not_true, Option.bind_some]
            show (ref20_settle' (withYes x (addI x.2.2.2.2.2.2.2.1 g))).bind _ = _
            rw [refSettle_eq _ (small_yes h (by have := T.len.2.1; omega)) T.rg (rise_addI T.ry hny) (fun y hy => by
              rcases mem_addI.1 hy with hy | rfl
              · exact T.sy y hy
              · exact hcg)]
            rfl
def withDone (x : Tx) (s : Int) (l : List Int) : Tx := (x.1, (x.2.1, (x.2.2.1, (x.2.2.2.1, (x.2.2.2.2.1, (x.2.2.2.2.2.1, (s, (x.2.2.2.2.2.2.2.1, (l, x.2.2.2.2.2.2.2.2.2)))))))))
def appliedOf (x : Tx) (g : Int) : Tx × Int := bif !txOk x then (tx0, 1) else bif !x.2.2.2.2.2.1.contains g then (tx0, 4) else bif x.2.2.2.2.2.2.1 != 2 && x.2.2.2.2.2.2.1 != 3 then (tx0, 7) else
  bif x.2.2.2.2.2.2.2.2.1.contains g then (tx0, 6) else (withDone x (bif decide ((addI x.2.2.2.2.2.2.2.2.1 g).length = x.2.2.2.2.2.1.length) then 4 else x.2.2.2.2.2.2.1) (addI x.2.2.2.2.2.2.2.2.1 g), 0)
theorem Applied_eq (x : Tx) (g : Int) (h : Small x) : txn_Applied' x g = some (appliedOf x g) := by
  unfold txn_Applied' appliedOf
  rw [Check_eq x h, own_eq x h]
  have hg := h.gs
  simp only [Option.bind_some]
  rw [Contains_eq (by omega)]
  simp only [Option.bind_some]
  cases hk : txOk x with
  | false => rfl
  | true =>
    have T := txOk_iff.1 hk
    rw [with_eq g h.dn T.rd]
    simp only [Option.bind_some]
    cases x.2.2.2.2.2.1.contains g with
    | false => rfl
    | true =>
      cases hc : x.2.2.2.2.2.2.2.2.1.contains g with
      | true => cases (x.2.2.2.2.2.2.1 != 2) <;> cases (x.2.2.2.2.2.2.1 != 3) <;> rfl
      | false =>
        simp only [cond_true, cond_false, Bool.not_true, nat_beq, bne_self_eq_false]
        cases (x.2.2.2.2.2.2.1 != 2) <;> cases (x.2.2.2.2.2.2.1 != 3) <;> cases decide ((addI x.2.2.2.2.2.2.2.2.1 g).length = x.2.2.2.2.2.1.length) <;> rfl
theorem st_four {st code : Int} {d0 rd da : Bool} (h : stB st code d0 rd da = true) : (st != 2 && st != 3) = (st == 1 || st == 4) := by
  unfold stB at h
  by_cases h1 : st = 1
  · subst h1; rfl
  · by_cases h2 : st = 2
    · subst h2; rfl
    · by_cases h3 : st = 3
      · subst h3; rfl
      · by_cases h4 : st = 4
        · subst h4; rfl
        · rw [show (st == 1) = false by simpa using h1, show (st == 2) = false by simpa using h2, show (st == 3) = false by simpa using h3, show (st == 4) = false by simpa using h4] at h
          cases h
theorem refApplied_eq (x : Tx) (g : Int) (h : Small x) : ref20_Applied' x g = some (appliedOf x g) := by
  unfold ref20_Applied' appliedOf
  rw [May_eq x h]
  have hg := h.gs
  have hd := h.dn
  simp only [Option.bind_some]
  rw [In_eq (by omega), In_eq (by omega)]
  simp only [Option.bind_some]
  cases hk : txOk x with
  | false => rfl
  | true =>
    have T := txOk_iff.1 hk
    rw [st_four T.st]
    cases hcg : x.2.2.2.2.2.1.contains g with
    | false => rfl
    | true =>
      cases hcd : x.2.2.2.2.2.2.2.2.1.contains g with
      | true => cases (x.2.2.2.2.2.2.1 == 1) <;> cases (x.2.2.2.2.2.2.1 == 4) <;> rfl
      | false =>
        rw [List.contains_iff_mem] at hcg
        have hnd : g ∉ x.2.2.2.2.2.2.2.2.1 := by
          intro hh; rw [show x.2.2.2.2.2.2.2.2.1.contains g = true by simpa using hh] at hcd; cases hcd
        have hb := T.bg g hcg
        have hln := T.len
        have hsub : ∀ y ∈ addI x.2.2.2.2.2.2.2.2.1 g, y ∈ x.2.2.2.2.2.1 := fun y hy => by
          rcases mem_addI.1 hy with hy | rfl
          · exact T.sd y hy
          · exact hcg
        rw [plus_eq T.rd (fun y hy => T.bg y (T.sd y hy)) hb.1 hb.2 hnd]
        simp only [cond_false, Bool.not_true, Option.bind_some]
        rw [all_eq h.gs (by rw [addI_len]; omega), all_len T.rg (rise_addI T.rd hnd) hsub]
        simp only [Option.bind_some]
        cases (x.2.2.2.2.2.2.1 == 1) <;> cases (x.2.2.2.2.2.2.1 == 4) <;> cases decide ((addI x.2.2.2.2.2.2.2.2.1 g).length = x.2.2.2.2.2.1.length) <;> rfl
/-! ### The laws -/
theorem Same_refl (x : Tx) (h : Small x) : ref20_Same' x x = some true := by
  unfold ref20_Same'
  have := h.keys; have := h.gs; have := h.yes; have := h.dn
  rw [(eqb_iff (t := .pair (.int .i64) (.int .u64)) rfl x.1 x.1).2 rfl, Texts_eq (by omega), Ints_eq (by omega), Ints_eq (by omega), Ints_eq (by omega)]
  simp
theorem same_eq (x : Tx) (e : Int) (h : Small x) : law20_same' x e x e = some true := by
  unfold law20_same'
  rw [Same_refl x h]
  simp
theorem small0 : Small tx0 := ⟨by simp [tx0], by simp [tx0], by simp [tx0], by simp [tx0]⟩
theorem awake20_eq : law20_awake' = some true := law20_awake_lm.of_some 60 (by decide +kernel)
theorem law_TxnBegins (i : Int × Int) (c : Cl) (l : List Int) : ∃ k, law20_TxnBegins k i c l = some true := by
  refine (law20_TxnBegins_lm i c l).fin ?_
  unfold law20_TxnBegins'
  rw [awake20_eq]
  by_cases h1 : (l.length : Int) > 40
  · rw [decide_eq_true h1]; rfl
  · rw [decide_eq_false h1]
    by_cases h2 : (c.2.1.length : Int) > 40
    · rw [decide_eq_true h2]; rfl
    · rw [decide_eq_false h2]
      simp only [cond_false]
      rw [Begin_eq i c l (by omega) (by omega), refBegin_eq i c l (by omega) (by omega)]
      simp only [Option.bind_some]
      rw [same_eq _ _ (by
        unfold beginOf
        cases (callB c && txOk (openOf i c l)) with
        | true => exact small_open (by omega) (by omega)
        | false => exact small0)]
      rfl
theorem law_TxnTurns (x : Tx) (s : Int × Int × Int × Int) : ∃ k, law20_TxnTurns k x s = some true := by
  refine (law20_TxnTurns_lm x s).fin ?_
  unfold law20_TxnTurns' law20_light'
  rw [awake20_eq]
  by_cases h1 : (x.2.2.1.length : Int) ≤ 40
  · rw [decide_eq_true h1]
    by_cases h2 : (x.2.2.2.2.2.1.length : Int) ≤ 40
    · rw [decide_eq_true h2]
      by_cases h3 : (x.2.2.2.2.2.2.2.1.length : Int) ≤ 40
      · rw [decide_eq_true h3]
        by_cases h4 : (x.2.2.2.2.2.2.2.2.1.length : Int) ≤ 40
        · rw [decide_eq_true h4]
          have h : Small x := ⟨by omega, by omega, by omega, by omega⟩
          simp only [cond_true, Option.bind_some, Bool.not_true, cond_false]
          rw [Token_eq x _ h, refToken_eq x _ h, Voted_eq x _ _ h, refVoted_eq x _ _ h, Applied_eq x _ h, refApplied_eq x _ h]
          simp only [Option.bind_some]
          rw [same_eq _ _ (by
              unfold tokenOf
              cases (!txOk x) <;> cases (x.2.2.2.2.2.2.1 != 1) <;> cases (s.2.2.2 == 0) <;> cases (x.2.2.2.1 != 0) <;> first | exact small0 | exact small_settle ⟨h.keys, h.gs, h.yes, h.dn⟩),
            same_eq _ _ (by
              unfold votedOf
              cases (!txOk x) <;> cases (!x.2.2.2.2.2.1.contains s.2.1) <;> cases (x.2.2.2.2.2.2.1 != 1) <;> cases (s.2.2.1 != 0) <;> cases (x.2.2.2.2.2.2.2.1.contains s.2.1) <;> first | exact small0 | exact small_settle (small_yes h (by omega)) | exact ⟨h.keys, h.gs, h.yes, h.dn⟩),
            same_eq _ _ (by
              unfold appliedOf
              cases (!txOk x) <;> cases (!x.2.2.2.2.2.1.contains s.2.1) <;> cases (x.2.2.2.2.2.2.1 != 2 && x.2.2.2.2.2.2.1 != 3) <;> cases (x.2.2.2.2.2.2.2.2.1.contains s.2.1) <;> first | exact small0 | exact ⟨h.keys, h.gs, h.yes, by show (addI _ _).length ≤ _; rw [addI_len]; omega⟩)]
          rfl
        · rw [decide_eq_false h4]; rfl
      · rw [decide_eq_false h3]; rfl
    · rw [decide_eq_false h2]; rfl
  · rw [decide_eq_false h1]; rfl
end Go.Proofs.Ytpnpbhjdjddaiaa.gg
