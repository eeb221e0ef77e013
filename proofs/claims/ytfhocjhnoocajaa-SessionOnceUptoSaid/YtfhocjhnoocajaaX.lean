/- What any seats tell of a call, and what is kept of it: the plain law. -/
import Derived.Test.YtfhocjhnoocajaaA
open Go Go.GG
set_option linter.unusedVariables false
namespace Go.Proofs.Ytfhocjhnoocajaa.gg
def putS (l : List Seat) (id : Int × Int) (reply : List Int) : List Seat × Int :=
  bif !mayT l || (!callB id.1 id.2 || decide ((reply.length : Int) > 4096)) then ([], 1) else
    bif (lookS l id).2.1 || (lookS l id).2.2 != 0 then ([], 7) else (placeF (ltc id.1) (eqc id.1) l (id.1, (id.2, reply)), 0)
theorem copied_eq {l : List Seat} (hl : l.length ≤ 1048576) (hr : ∀ x ∈ l, x.2.2.length ≤ 4096) : session_copied' l = some l := by
  have key0 := loop_inv l.length (fun i (s : List Seat) => session_copied_p8' (l.length : Int) (i : Int) s) (fun _ s => s = l) (fun r => r = some l) (fun i s hi hs => by
    subst hs
    refine .inl ⟨s, ?_, rfl⟩
    try dsimp only
    have hx := hr s[i] (List.getElem_mem hi)
    rw [session_copied_p8_eq, decide_eq_true (by omega : (i : Int) < (s.length : Int)), decide_eq_true (by omega : (0 : Int) ≤ (i : Int)), wrap_succ (by omega)]
    simp only [Bool.and_self, cond_true, Int.toNat_natCast, List.getElem?_eq_getElem hi, Option.bind_some]
    rw [slices_Clone_byte_byte_is _ (by omega)]
    simp only [Option.bind_some]
    rw [show ((s[i].1, (s[i].2.1, s[i].2.2)) : Seat) = s[i] from rfl, List.set_getElem_self]) (fun s hs => by
    subst hs
    try dsimp only
    rw [session_copied_p8_eq, decide_eq_false (by omega : ¬ (s.length : Int) < (s.length : Int))]; rfl) 0 l (by omega) rfl
  unfold session_copied'
  rw [slices_Clone_api_Seat_api_Seat_is l (by omega)]
  simp only [Option.bind_some]
  simp only [show ((0 : Nat) : Int) = 0 from rfl] at key0
  rw [key0]; rfl
theorem Put_eq {l : List Seat} (hl : l.length ≤ 1048576) (id : Int × Int) (reply : List Int) (hrl : reply.length ≤ 1048576) : session_Put' l id reply = some (putS l id reply) := by
  unfold session_Put' putS
  rw [Look_eq hl]
  simp only [Option.bind_some]
  cases hm : mayT l with
  | false => simp [lookS, hm]
  | true =>
    cases hc : callB id.1 id.2 with
    | false => simp [lookS, hm, hc]
    | true =>
      have hne : ((lookS l id).2.2 == 1) = false := by
        unfold lookS
        rw [hm, hc]
        simp only [Bool.not_true, Bool.or_self, cond_false]
        cases l.find? (eqc id.1) with
        | none => rfl
        | some x =>
          simp only
          cases decide (id.2 > x.2.1) <;> cases decide (id.2 < x.2.1) <;> rfl
      rw [hne]
      simp only [cond_false, Bool.not_true, Bool.false_or]
      cases hr4 : decide ((reply.length : Int) > 4096) with
      | true => rfl
      | false =>
        simp only [cond_false]
        cases he : ((lookS l id).2.2 != 0) with
        | true => simp
        | false =>
          simp only [cond_false, Bool.or_false]
          cases hd : (lookS l id).2.1 with
          | true => rfl
          | false =>
            have hs := mayT_sorted hm
            have hsg : Single (ltc id.1) (eqc id.1) l := Sorted.single hs id.1
            simp only [decide_eq_false_iff_not] at hr4
            rw [slices_Clone_byte_byte_is _ (by omega), copied_eq hl (fun x hx => (mayT_get hm hx).2)]
            simp only [cond_false, Option.bind_some]
            rw [find_eq (by omega) hs]
            simp only [Option.bind_some]
            have hcl := cutAt_le (ltc id.1) l
            cases hth : thereAt (ltc id.1) (eqc id.1) l with
            | true =>
              obtain ⟨hc2, hset⟩ := place_there (h := ((id.1, (id.2, reply)) : Seat)) hsg hth
              simp only [cond_true, Int.toNat_natCast, List.getElem?_eq_getElem hc2, Option.bind_some]
              rw [decide_eq_true (by omega : (0 : Int) ≤ ((cutAt (ltc id.1) l : Nat) : Int)), decide_eq_true (by omega : ((cutAt (ltc id.1) l : Nat) : Int) < (l.length : Int)), hset]
              rfl
            | false =>
              have hput := place_new (h := ((id.1, (id.2, reply)) : Seat)) hsg hth
              simp only [cond_false, slices_Insert_api_Seat_api_Seat', insertF]
              rw [decide_eq_true (by omega : (0 : Int) ≤ ((cutAt (ltc id.1) l : Nat) : Int)), decide_eq_true (by omega : ((cutAt (ltc id.1) l : Nat) : Int) ≤ (l.length : Int)), room_of (by simp; omega)]
              simp only [Int.toNat_natCast]
              rw [hput]
              rfl
/-- Client by client. -/
def byC (l : List Seat) (id : Int × Int) (reply : List Int) (c : Nat) : List Seat := bif ((c : Int) == id.1) then [((c : Int), (id.2, reply))] else l.filter (eqc (c : Int))
theorem refPut_inner (l : List Seat) (hl : l.length ≤ 1048576) (reply : List Int) (c : Int) (id : Int × Int) (o : List Seat) (ho : o.length ≤ 100000000) :
    ref16_Put_p46' l reply c 0 id o = some (l, reply, c, id, o ++ l.filter (eqc c)) := by
  have hfold : ∀ (r : List Seat) (o : List Seat), r.foldl (fun o x => bif eqc c x then o ++ [x] else o) o = o ++ r.filter (eqc c) := by
    intro r
    induction r with
    | nil => intro o; simp
    | cons x r ih => intro o; rw [List.foldl_cons, ih]; cases hx : eqc c x <;> simp [hx]
  have key0 := fold_loop l (fun o x => bif eqc c x then o ++ [x] else o) o (fun i s => ref16_Put_p46' l reply c (i : Int) id s) (out := fun s => some (l, reply, c, id, s)) (fun i hi => by
    try dsimp only
    have hlen : ((l.take i).foldl (fun o x => bif eqc c x then o ++ [x] else o) o).length ≤ o.length + i := by
      rw [hfold]
      have := List.length_filter_le (eqc c) (l.take i)
      simp only [List.length_append, List.length_take] at this ⊢
      omega
    generalize (l.take i).foldl (fun o x => bif eqc c x then o ++ [x] else o) o = s at *
    rw [ref16_Put_p46_eq, decide_eq_true (by omega : (i : Int) < (l.length : Int)), at?_lt hi, wrap_succ (by omega)]
    simp only [cond_true, Option.bind_some]
    rw [room_of (by simp; omega)]
    simp only [cond_true, eqc]
    cases (l[i].1 == c) <;> rfl) (by
    try dsimp only
    rw [ref16_Put_p46_eq, decide_eq_false (by omega : ¬ (l.length : Int) < (l.length : Int))]; rfl)
  simp only [show ((0 : Nat) : Int) = 0 from rfl] at key0
  rw [key0, hfold]
theorem refPut_loop (l : List Seat) (hl : l.length ≤ 1048576) (id : Int × Int) (reply : List Int) :
    ref16_Put_p26' l reply 0 id [] = some ((List.range 8).flatMap (byC l id reply)) := by
  have hlen : ∀ c, c ≤ 8 → ((List.range c).flatMap (byC l id reply)).length ≤ c * 1048577 := by
    intro c
    induction c with
    | zero => intro _; simp
    | succ c ih =>
      intro hc
      have h1 := ih (by omega)
      rw [List.range_succ, List.flatMap_append, List.length_append]
      have h2 : (byC l id reply c).length ≤ 1048577 := by
        unfold byC
        cases ((c : Int) == id.1) with
        | true => simp
        | false => exact Nat.le_trans (List.length_filter_le _ _) (by omega)
      simp only [List.flatMap_cons, List.flatMap_nil, List.append_nil]
      omega
  have key0 := loop_inv 8 (fun c (o : List Seat) => ref16_Put_p26' l reply (c : Int) id o) (fun c o => o = (List.range c).flatMap (byC l id reply)) (fun r => r = some ((List.range 8).flatMap (byC l id reply))) (fun c o hc ho => by
    have hol := hlen c (by omega)
    rw [← ho] at hol
    refine .inl ⟨o ++ byC l id reply c, ?_, by rw [ho, List.range_succ, List.flatMap_append]; simp⟩
    try dsimp only
    rw [ref16_Put_p26_eq, decide_eq_true (by omega : (c : Int) < 8), wrap_succ (by omega)]
    simp only [cond_true, byC]
    cases hcid : ((c : Int) == id.1) with
    | true =>
      rw [room_of (by simp; omega)]
      rfl
    | false =>
      simp only [cond_false]
      rw [refPut_inner l hl reply (c : Int) (id.1, id.2) o (by omega)]
      simp only [Option.bind_some]
      rw [wrap_succ (by omega)]) (fun o ho => by
    subst ho
    try dsimp only
    rw [ref16_Put_p26_eq]; rfl) 0 [] (by omega) rfl
  simpa using key0
/-- Strictly ordered lists of the same members are one. -/
theorem sorted_ext : ∀ {a b : List Seat}, Sorted intOrd (fun x : Seat => x.1) a → Sorted intOrd (fun x : Seat => x.1) b → (∀ x, x ∈ a ↔ x ∈ b) → a = b
  | [], [], _, _, _ => rfl
  | [], y :: b, _, _, h => by have := (h y).2 (by simp); simp at this
  | x :: a, [], _, _, h => by have := (h x).1 (by simp); simp at this
  | x :: a, y :: b, ha, hb, h => by
    have ha' := List.pairwise_cons.1 ha
    have hb' := List.pairwise_cons.1 hb
    have hxy : x = y := by
      rcases List.mem_cons.1 ((h x).1 (by simp)) with h1 | h1
      · exact h1
      · rcases List.mem_cons.1 ((h y).2 (by simp)) with h2 | h2
        · exact h2.symm
        · have e1 := hb'.1 x h1
          have e2 := ha'.1 y h2
          simp only [intOrd, decide_eq_true_eq] at e1 e2
          omega
    subst hxy
    have := sorted_ext ha'.2 hb'.2 (fun z => by
      constructor
      · intro hz
        rcases List.mem_cons.1 ((h z).1 (by simp [hz])) with h1 | h1
        · subst h1
          have := ha'.1 z hz
          simp [intOrd] at this
        · exact h1
      · intro hz
        rcases List.mem_cons.1 ((h z).2 (by simp [hz])) with h1 | h1
        · subst h1
          have := hb'.1 z hz
          simp [intOrd] at this
        · exact h1)
    rw [this]
theorem place_sorted {l : List Seat} (hs : Sorted intOrd (fun x : Seat => x.1) l) (n : Seat) : Sorted intOrd (fun x : Seat => x.1) (placeF (ltc n.1) (eqc n.1) l n) := by
  refine sorted_put _ hs (fun x _ h => h) (fun x hx he => ?_)
  have hl := List.takeWhile_append_dropWhile (p := ltc n.1) (l := l)
  cases hd : l.dropWhile (ltc n.1) with
  | nil => rw [hd] at hx; simp at hx
  | cons y r =>
    have hy := dropWhile_head hd
    rw [hd] at hx
    unfold Sorted at hs
    rw [← hl, hd] at hs
    have h2 := List.pairwise_cons.1 (List.pairwise_append.1 hs).2.1
    simp only [eqc, beq_eq_false_iff_ne, ltc, decide_eq_false_iff_not] at he hy
    simp only [intOrd, decide_eq_true_eq] at h2 ⊢
    rcases List.mem_cons.1 hx with h | h
    · subst h; omega
    · have := h2.1 x h; omega
theorem mem_place {l : List Seat} (n x : Seat) : x ∈ placeF (ltc n.1) (eqc n.1) l n ↔ x = n ∨ (x ∈ l ∧ x.1 ≠ n.1) := by
  have hl := List.takeWhile_append_dropWhile (p := ltc n.1) (l := l)
  unfold placeF
  simp only [List.mem_append, List.mem_singleton, List.mem_filter, eqc, Bool.not_eq_true', beq_eq_false_iff_ne]
  constructor
  · rintro ((h | h) | h)
    · have h1 := mem_takeWhile h
      simp only [ltc, decide_eq_true_eq] at h1
      exact .inr ⟨by rw [← hl]; exact List.mem_append_left _ h, by omega⟩
    · exact .inl h
    · exact .inr ⟨by rw [← hl]; exact List.mem_append_right _ h.1, h.2⟩
  · rintro (h | ⟨h1, h2⟩)
    · exact .inl (.inr h)
    · rw [← hl, List.mem_append] at h1
      rcases h1 with h1 | h1
      · exact .inl (.inl h1)
      · exact .inr ⟨h1, h2⟩
theorem byC_all {l : List Seat} (hm : mayT l = true) {id : Int × Int} (hc : callB id.1 id.2 = true) (reply : List Int) : (List.range 8).flatMap (byC l id reply) = placeF (ltc id.1) (eqc id.1) l (id.1, (id.2, reply)) := by
  have hs := mayT_sorted hm
  refine sorted_ext ?_ (place_sorted hs (id.1, (id.2, reply))) fun x => ?_
  · have hby : ∀ c x, x ∈ byC l id reply c → x.1 = (c : Int) := by
      intro c x hx
      unfold byC at hx
      cases hcid : ((c : Int) == id.1) with
      | true => rw [hcid] at hx; simp at hx; rw [hx]
      | false => rw [hcid] at hx; simp [eqc] at hx; exact hx.2
    have hone : ∀ c, Sorted intOrd (fun x : Seat => x.1) (byC l id reply c) := by
      intro c
      unfold byC
      cases ((c : Int) == id.1) with
      | true => exact List.pairwise_singleton _ _
      | false => exact List.Pairwise.sublist List.filter_sublist hs
    have key : ∀ n, Sorted intOrd (fun x : Seat => x.1) ((List.range n).flatMap (byC l id reply)) ∧ ∀ x ∈ (List.range n).flatMap (byC l id reply), x.1 < (n : Int) := by
      intro n
      induction n with
      | zero => exact ⟨List.Pairwise.nil, by simp⟩
      | succ n ih =>
        rw [List.range_succ, List.flatMap_append]
        simp only [List.flatMap_cons, List.flatMap_nil, List.append_nil]
        refine ⟨List.pairwise_append.2 ⟨ih.1, hone n, fun a ha b hb => ?_⟩, fun x hx => ?_⟩
        · have h1 := ih.2 a ha
          have h2 := hby n b hb
          simp only [intOrd, decide_eq_true_eq]; omega
        · rcases List.mem_append.1 hx with hx | hx
          · have := ih.2 x hx; omega
          · have := hby n x hx; omega
    exact (key 8).1
  · have hmp := mem_place (l := l) ((id.1, (id.2, reply)) : Seat) x
    simp only at hmp
    rw [hmp]
    simp only [List.mem_flatMap, List.mem_range, byC]
    simp only [callB, Bool.and_eq_true, decide_eq_true_eq] at hc
    constructor
    · rintro ⟨c, hc8, hx⟩
      cases hcid : ((c : Int) == id.1) with
      | true =>
        rw [hcid] at hx
        simp at hx
        have : (c : Int) = id.1 := by simpa using hcid
        rw [hx, this]; exact .inl rfl
      | false =>
        rw [hcid] at hx
        simp [eqc] at hx
        rw [beq_eq_false_iff_ne] at hcid
        exact .inr ⟨hx.1, by rw [hx.2]; exact hcid⟩
    · rintro (h | ⟨h1, h2⟩)
      · refine ⟨id.1.toNat, by omega, ?_⟩
        have e : ((id.1.toNat : Nat) : Int) = id.1 := by omega
        rw [e, beq_self_eq_true]
        simp [h]
      · have hx := (mayT_get hm h1).1
        simp only [callB, Bool.and_eq_true, decide_eq_true_eq] at hx
        refine ⟨x.1.toNat, by omega, ?_⟩
        have e : ((x.1.toNat : Nat) : Int) = x.1 := by omega
        rw [e, (beq_eq_false_iff_ne).2 h2]
        simp [eqc, h1]
theorem refPut_eq {l : List Seat} (hl : l.length ≤ 1048576) (id : Int × Int) (reply : List Int) : ref16_Put' l id reply = some (putS l id reply) := by
  unfold ref16_Put' putS
  rw [refMay_eq hl, refCall_eq, refLook_eq hl]
  simp only [Option.bind_some]
  cases hm : mayT l with
  | false => rfl
  | true =>
    cases hc : callB id.1 id.2 with
    | false => rfl
    | true =>
      simp only [Bool.not_true, cond_false, Bool.false_or]
      cases decide ((reply.length : Int) > 4096) with
      | true => rfl
      | false =>
        simp only [cond_false]
        cases (lookS l id).2.1 with
        | true => rfl
        | false =>
          cases ((lookS l id).2.2 != 0) with
          | true => rfl
          | false =>
            simp only [Bool.or_self, cond_false]
            rw [refPut_loop l hl id reply, byC_all hm hc]
            rfl
theorem Same_refl (a : List Seat) (hl : a.length ≤ 1048577) : ref16_Same' a a = some true := by
  have key := check_loop a.length (fun i => ref16_Same_p14' a a (i : Int)) (fun _ => true) (a := some (.inl ())) (b := some (.inr false)) (fun i hi => by
    try dsimp only
    rw [ref16_Same_p14_eq, decide_eq_true (by omega : (i : Int) < (a.length : Int)), at?_lt hi, wrap_succ (by omega)]
    simp only [cond_true, Option.bind_some, bne_self_eq_false, cond_false, beq_self_eq_true, Bool.not_true]) (by
    try dsimp only
    rw [ref16_Same_p14_eq, decide_eq_false (by omega : ¬ (a.length : Int) < (a.length : Int))]; rfl)
  unfold ref16_Same'
  simp only [show ((0 : Nat) : Int) = 0 from rfl] at key
  rw [key, show allB a.length (fun _ => true) = true from allB_iff.2 fun _ _ => rfl]
  simp
theorem awake_eq : law16_awake' = some true := law16_awake_lm.of_some 60 (by decide +kernel)
theorem light_some {l : List Seat} (hl : l.length ≤ 1048576) (hr : ∀ x ∈ l, x.2.2.length ≤ 1048576) : ∃ b, law16_light' l = some b := by
  have key := loop_inv (min l.length 20) (fun i (n : Int) => law16_light_p8' l n (i : Int)) (fun i n => 0 ≤ n ∧ n ≤ (i : Int) * 1048576) (fun r => ∃ n, r = some (l, n)) (fun i n hi hn => by
    refine .inl ⟨n + ((nth l i st0).2.2.length : Int), ?_, ?_⟩
    · try dsimp only
      have hx := hr l[i] (List.getElem_mem (by omega))
      rw [law16_light_p8_eq, decide_eq_true (by omega : (i : Int) < (l.length : Int)), decide_eq_true (by omega : (i : Int) < 20), at?_getD (by omega) st0, wrap_succ (by omega)]
      simp only [cond_true, Option.bind_some]
      rw [i64_in (by omega) (by rw [getD_lt (by omega)]; omega)]
    · have hx := hr l[i] (List.getElem_mem (by omega))
      rw [getD_lt (by omega)]
      omega) (fun n hn => by
    refine ⟨n, ?_⟩
    try dsimp only
    rw [law16_light_p8_eq]
    by_cases h : l.length ≤ 20
    · rw [show min l.length 20 = l.length by omega, decide_eq_false (by omega : ¬ (l.length : Int) < (l.length : Int))]; rfl
    · rw [show min l.length 20 = 20 by omega, decide_eq_true (by omega : ((20 : Nat) : Int) < (l.length : Int))]
      rfl) 0 0 (by omega) (by simp)
  obtain ⟨n, hn⟩ := key
  simp only [show ((0 : Nat) : Int) = 0 from rfl] at hn
  unfold law16_light'
  rw [hn]
  simp only [Option.bind_some]
  cases decide ((l.length : Int) ≤ 20) with
  | true => exact ⟨_, rfl⟩
  | false => exact ⟨_, rfl⟩
theorem mem_bulk {t : T} : ∀ {l : List t.den} {x : t.den}, x ∈ l → t.bulk x + 1 ≤ (T.slice t).bulk l
  | [], _, h => by simp at h
  | y :: l, x, h => by
    have e : (T.slice t).bulk (y :: l) = t.bulk y + (T.slice t).bulk l := by simp [T.bulk]; omega
    have h1 := bulk_slice (t := t) l
    rcases List.mem_cons.1 h with h | h
    · subst h; omega
    · have := mem_bulk h; omega
abbrev seatT : T := .pair (.int .i64) (.pair (.int .u64) (.slice (.int .u8)))
theorem seat_bulk {l : List Seat} {n : Nat} (h : (T.slice seatT).bulk l ≤ n) : l.length + 1 ≤ n ∧ ∀ x ∈ l, x.2.2.length ≤ n := by
  refine ⟨Nat.le_trans (bulk_slice (t := seatT) l) h, fun x hx => ?_⟩
  have h1 := mem_bulk (t := seatT) (l := l) hx
  have h2 := bulk_slice (t := .int .u8) x.2.2
  have h3 : T.bulk seatT x = 1 + (1 + (T.slice (.int .u8)).bulk x.2.2) := rfl
  omega
theorem law_SessionActs (l : List Seat) (id : Int × Int) (reply : List Int) (hl : l.length ≤ 1048575) (hr : ∀ x ∈ l, x.2.2.length ≤ 1048576) (hrl : reply.length ≤ 1048576) : ∃ k, law16_SessionActs k l id reply = some true := by
  refine (law16_SessionActs_lm l id reply).fin ?_
  unfold law16_SessionActs'
  obtain ⟨b, hb⟩ := light_some (by omega) hr
  rw [hb, awake_eq]
  simp only [Option.bind_some]
  cases b with
  | false => rfl
  | true =>
    simp only [Bool.not_true, cond_false]
    cases decide ((reply.length : Int) > 5000) with
    | true => rfl
    | false =>
      rw [Look_eq (by omega), refLook_eq (by omega), Check_eq (by omega), refMay_eq (by omega), List.nil_append, Put_eq (by omega) id reply hrl, refPut_eq (by omega)]
      have e : (((cond (mayT l) (0 : Int) 1) == 0) == mayT l) = true := by cases mayT l <;> rfl
      have hpl : (putS l id reply).1.length ≤ 1048577 := by
        have := placeF_len (ltc id.1) (eqc id.1) l (id.1, (id.2, reply))
        unfold putS
        cases (!mayT l || (!callB id.1 id.2 || decide ((reply.length : Int) > 4096))) with
        | true => simp
        | false =>
          cases ((lookS l id).2.1 || (lookS l id).2.2 != 0) with
          | true => simp
          | false => simp only [cond_false]; omega
      simp only [Option.bind_some, cond_false, e, Bool.not_true, beq_self_eq_true, bne_self_eq_false, cond_true]
      rw [room_of (by omega), Same_refl _ hpl]
      rfl
end Go.Proofs.Ytfhocjhnoocajaa.gg
