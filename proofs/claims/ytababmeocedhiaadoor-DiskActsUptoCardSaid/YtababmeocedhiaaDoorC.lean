/- The document's answers on a disk's files; an act with both; the theorem of syncing: the plain law. -/
import Derived.Test.YtababmeocedhiaaDoorB
import Derived.Test.YtababmeocedhiaaDoorN
open Go Go.GG
set_option linter.unusedVariables false
namespace Go.Proofs.YtababmeocedhiaaDoor.gg
abbrev ActV := Int × (List UInt8) × (List UInt8) × (List Int) × Int × List Int
theorem rRead_is {m L : FL} (h : St m L) (k : Str) : ref05_Read' L k = some (readF L k) := by
  unfold ref05_Read' readF
  have hl := h.len
  rw [place_is (by omega)]
  unfold placeI
  rcases find_place h.rel.kl k with ⟨e, ei⟩ | ⟨v, i, hi, e, ei, eg⟩
  · rw [e, ei]; rfl
  · rw [e, ei]
    simp only [Option.bind_some]
    rw [decide_eq_false (by omega : ¬ (i : Int) < 0), at?_lt hi, eg]
    rfl
theorem rSync_is {m L : FL} (h : St m L) (k : Str) : ref05_Sync' L k = some (syncF L k) := by
  unfold ref05_Sync' syncF
  have hl := h.len
  rw [place_is (by omega)]
  unfold placeI
  rcases find_place h.rel.kl k with ⟨e, ei⟩ | ⟨v, i, hi, e, ei, eg⟩
  · rw [e, ei]; rfl
  · rw [e, ei]
    simp only [Option.bind_some]
    rw [decide_eq_false (by omega : ¬ (i : Int) < 0), at?_lt hi, eg]
    simp only [cond_false, Option.bind_some]
    rw [put_is (by omega)]
    rfl
theorem rCut_is {m L : FL} (h : St m L) (k : Str) (n : Int) : ref05_Cut' L k n = some (cutF L k n) := by
  unfold ref05_Cut' cutF
  have hl := h.len
  rw [place_is (by omega)]
  unfold placeI
  rcases find_place h.rel.kl k with ⟨e, ei⟩ | ⟨v, i, hi, e, ei, eg⟩
  · rw [e, ei]; rfl
  · rw [e, ei]
    simp only [Option.bind_some]
    rw [decide_eq_false (by omega : ¬ (i : Int) < 0), at?_lt hi, eg]
    simp only [cond_false, Option.bind_some]
    by_cases h0 : n < 0
    · rw [if_pos (.inl h0), decide_eq_true h0]; rfl
    · by_cases h1 : n > (v.1.length : Int)
      · rw [if_pos (.inr h1), decide_eq_false h0, decide_eq_true h1]; rfl
      · rw [if_neg (by omega), decide_eq_false h0, decide_eq_false h1, decide_eq_true (by omega : (0 : Int) ≤ n), decide_eq_true (by omega : n ≤ (v.1.length : Int)), put_is (by omega), put_is (by omega)]
        unfold intMin
        by_cases h2 : v.2 > n
        · rw [decide_eq_true h2, if_pos h2]; rfl
        · rw [decide_eq_false h2, if_neg h2]; rfl
theorem rRename_is {m L : FL} (h : St m L) (k to : Str) : ref05_Rename' L k to = some (renF L k to) := by
  unfold ref05_Rename' renF
  have hl := h.len
  have ho := outF_len k L
  rw [place_is (by omega)]
  unfold placeI
  rcases find_place h.rel.kl k with ⟨e, ei⟩ | ⟨v, i, hi, e, ei, eg⟩
  · rw [e, ei]; rfl
  · rw [e, ei]
    simp only [Option.bind_some]
    rw [decide_eq_false (by omega : ¬ (i : Int) < 0), Name_is, at?_lt hi, eg]
    simp only [cond_false, Option.bind_some]
    rw [out_is (by omega)]
    simp only [Option.bind_some]
    rw [put_is (by omega)]
    cases nameOk to <;> rfl
theorem rRemove_is {m L : FL} (h : St m L) (k : Str) : ref05_Remove' L k = some (remF L k) := by
  unfold ref05_Remove' remF
  have hl := h.len
  rw [place_is (by omega)]
  unfold placeI
  rcases find_place h.rel.kl k with ⟨e, ei⟩ | ⟨v, i, hi, e, ei, eg⟩
  · rw [e, ei]; rfl
  · rw [e, ei]
    simp only [Option.bind_some]
    rw [decide_eq_false (by omega : ¬ (i : Int) < 0), out_is (by omega)]
    rfl
theorem rAppend_is {m L : FL} (h : St m L) (k : Str) {b : List Int} (hb : b.length ≤ 1048576) : ref05_Append' L k b = some (appF L k b) := by
  unfold ref05_Append' appF
  have hl := h.len
  rw [Name_is]
  simp only [Option.bind_some]
  cases hn : nameOk k with
  | false => rfl
  | true =>
    simp only [Bool.not_true, cond_false, cond_true]
    rw [place_is (by omega)]
    unfold placeI
    rcases find_place h.rel.kl k with ⟨e, ei⟩ | ⟨v, i, hi, e, ei, eg⟩
    · rw [e, ei]
      simp only [Option.bind_some]
      have e14 : ref05_Append_p14' L b (-1) (k, 0) = some (L, b, -1, k, [], 0) := by rfl
      rw [e14]
      simp only [Option.bind_some, List.append_nil, List.nil_append, List.length_nil]
      rw [decide_eq_true (by omega : (-1 : Int) < 0)]
      simp only [cond_true]
      by_cases h0 : L.length ≥ 64
      · rw [if_pos (.inl h0), decide_eq_true (by omega : (L.length : Int) ≥ 64)]; rfl
      · have hw : IntKind.wrap .i64 (((0 : Nat) : Int) + (b.length : Int)) = (b.length : Int) := by rw [i64_in (by omega) (by omega)]; omega
        rw [decide_eq_false (by omega : ¬ (L.length : Int) ≥ 64)]
        by_cases h1 : b.length > 65536
        · rw [if_pos (.inr h1), decide_eq_true (by rw [hw]; omega : IntKind.wrap .i64 (((0 : Nat) : Int) + (b.length : Int)) > 65536)]; rfl
        · rw [if_neg (by omega), decide_eq_false (by rw [hw]; omega : ¬ IntKind.wrap .i64 (((0 : Nat) : Int) + (b.length : Int)) > 65536), room_of (by omega), room_of (by omega), put_is (by omega)]
          rfl
    · have hg := h.got e
      have hg1 : v.1.length ≤ 65536 := hg.2.1
      rw [e, ei]
      simp only [Option.bind_some]
      have e14 : ref05_Append_p14' L b (i : Int) (k, 0) = some (L, b, (i : Int), k, v.1, v.2) := by
        have : at? L (i : Int) = some (k, v) := by rw [at?_lt hi, eg]
        unfold ref05_Append_p14'
        rw [decide_eq_true (by omega : (i : Int) ≥ 0), this]; rfl
      rw [e14]
      simp only [Option.bind_some, List.nil_append]
      rw [decide_eq_false (by omega : ¬ (i : Int) < 0), i64_in (by omega) (by omega)]
      simp only [cond_false]
      by_cases h1 : v.1.length + b.length > 65536
      · rw [if_pos h1, decide_eq_true (by omega : (v.1.length : Int) + (b.length : Int) > 65536)]; rfl
      · rw [if_neg h1, decide_eq_false (by omega : ¬ (v.1.length : Int) + (b.length : Int) > 65536), room_of (by omega), room_of (by rw [List.length_append]; omega), put_is (by omega)]
        rfl
/-- What is not safe stays so far. -/
theorem run_is {L : FL} {cuts : List Int} {i : Nat} (hi : i < cuts.length) (o : FL) (x : FI) (hx : x.2.1.length ≤ 65536) : ∀ (r n c : Nat), n + r = x.2.1.length → c ≤ n →
    ref05_Crash_p28' L cuts (i : Int) (n : Int) (c : Int) o x = some (L, cuts, (i : Int), (n : Int) + intMax 0 (intMin (cuts[i] - (c : Int)) ((x.2.1.length : Int) - (n : Int))), o, x)
  | 0, n, c, h, hc => by
    rw [ref05_Crash_p28_eq, at?_lt hi, decide_eq_false (by omega : ¬ (n : Int) < (x.2.1.length : Int))]
    have : intMax 0 (intMin (cuts[i] - (c : Int)) ((x.2.1.length : Int) - (n : Int))) = 0 := by
      unfold intMax intMin; split <;> split at * <;> omega
    rw [this, Int.add_zero]
    simp only [Option.bind_some]
    cases decide ((c : Int) < cuts[i]) <;> rfl
  | r + 1, n, c, h, hc => by
    rw [ref05_Crash_p28_eq, at?_lt hi, decide_eq_true (by omega : (n : Int) < (x.2.1.length : Int))]
    simp only [Option.bind_some, cond_true]
    by_cases hq : (c : Int) < cuts[i]
    · rw [decide_eq_true hq, wrap_succ (by omega), wrap_succ (by omega), run_is hi o x hx r (n + 1) (c + 1) (by omega) (by omega)]
      have : ((n + 1 : Nat) : Int) + intMax 0 (intMin (cuts[i] - ((c + 1 : Nat) : Int)) ((x.2.1.length : Int) - ((n + 1 : Nat) : Int))) = (n : Int) + intMax 0 (intMin (cuts[i] - (c : Int)) ((x.2.1.length : Int) - (n : Int))) := by
        unfold intMax intMin
        split <;> split <;> split <;> split <;> omega
      rw [this]; rfl
    · rw [decide_eq_false hq]
      have : intMax 0 (intMin (cuts[i] - (c : Int)) ((x.2.1.length : Int) - (n : Int))) = 0 := by
        unfold intMax intMin; split <;> split at * <;> omega
      rw [this, Int.add_zero]; rfl
theorem rCrash_is {m L : FL} (h : St m L) (cuts : List Int) : ref05_Crash' L cuts = some (crashF cuts L) := by
  have hl := h.len
  have key := loop_inv (S := FL) L.length (fun i s => ref05_Crash_p8' L cuts (i : Int) s) (fun i s => s = (crashF cuts L).take i) (fun r => r = some (crashF cuts L))
    (fun i s hi hs => by
      try dsimp only at hs ⊢
      subst hs
      obtain ⟨hk1, hk2, hk3, hk4⟩ := h.ok L[i] (List.getElem_mem hi)
      have hst := stay_le (cuts := cuts) (i := i) hk4
      have hiF : i < (crashF cuts L).length := by rw [crashF_len]; exact hi
      refine .inl ⟨_, ?_, rfl⟩
      rw [take_succ' hiF, crashF_get hi, ref05_Crash_p8_eq, decide_eq_true (by omega : (i : Int) < (L.length : Int)), at?_lt hi]
      simp only [cond_true, Option.bind_some, Bool.true_and]
      unfold crash1
      by_cases hcu : i < cuts.length
      · have es : L[i].2.2 + stay cuts i L[i].2 = ((L[i].2.2.toNat : Nat) : Int) + intMax 0 (intMin (cuts[i] - ((0 : Nat) : Int)) ((L[i].2.1.length : Int) - ((L[i].2.2.toNat : Nat) : Int))) := by
          unfold stay
          rw [List.getElem?_eq_getElem hcu, Int.toNat_of_nonneg hk3]
          simp
        have hrun := run_is (L := L) hcu ((crashF cuts L).take i) L[i] hk2 (L[i].2.1.length - L[i].2.2.toNat) L[i].2.2.toNat 0 (by omega) (by omega)
        rw [← es, Int.toNat_of_nonneg hk3] at hrun
        rw [decide_eq_true (by omega : (i : Int) < (cuts.length : Int))]
        simp only [cond_true]
        simp only [show ((0 : Nat) : Int) = 0 from rfl] at hrun
        rw [hrun]
        simp only [Option.bind_some]
        rw [decide_eq_true (by omega : (0 : Int) ≤ L[i].2.2 + stay cuts i L[i].2), decide_eq_true hst.2, room_of (by simp [crashF_len]; omega), wrap_succ (by omega)]
        rfl
      · have es : stay cuts i L[i].2 = 0 := by
          unfold stay; rw [List.getElem?_eq_none (by omega)]
        rw [decide_eq_false (by omega : ¬ (i : Int) < (cuts.length : Int)), es, Int.add_zero]
        simp only [cond_false]
        rw [decide_eq_true hk3, decide_eq_true hk4, room_of (by simp [crashF_len]; omega), wrap_succ (by omega)]
        rfl)
    (fun s hs => by
      try dsimp only at hs ⊢
      rw [ref05_Crash_p8_eq, decide_eq_false (by omega : ¬ (L.length : Int) < (L.length : Int)), hs, List.take_of_length_le (by rw [crashF_len]; omega)]
      rfl) 0 [] (Nat.zero_le _) (by simp)
  unfold ref05_Crash'
  simp only [show ((0 : Nat) : Int) = 0 from rfl] at key
  rw [key]
  rfl
theorem own_is (L : FL) (c : Int) (a : ActV) (own : List Int) (m : FL) (ho : own.length ≤ 1048576) : law05_does_p46' L c 0 () a own m = some (L, c, (), a, m) := by
  have key := loop_inv (S := List Int) own.length (fun i s => law05_does_p46' L c (i : Int) () a s m) (fun i s => s.length = own.length) (fun r => r = some (L, c, (), a, m))
    (fun i s hi hs => by
      try dsimp only at hs ⊢
      refine .inl ⟨s.set i (IntKind.wrap .u8 ((s[i]'(by omega)) + 1)), ?_, by simpa using hs⟩
      rw [law05_does_p46_eq, decide_eq_true (by omega : (i : Int) < (s.length : Int)), decide_eq_true (by omega : (0 : Int) ≤ (i : Int)), get?_nat, List.getElem?_eq_getElem (by omega), wrap_succ (by omega)]
      simp only [cond_true, Bool.true_and, Option.bind_some, Int.toNat_natCast])
    (fun s hs => by
      try dsimp only at hs ⊢
      rw [law05_does_p46_eq, decide_eq_false (by omega : ¬ (own.length : Int) < (s.length : Int))]
      rfl) 0 own (Nat.zero_le _) rfl
  exact key
theorem does_is {m L : FL} (h : St m L) (a : ActV) (hb : a.2.2.2.1.length ≤ 1048576) (hc : a.2.2.2.2.2.length ≤ 1048576) : ∃ m' L', law05_does' m L a = some (L', true, m') ∧ St m' L' := by
  unfold law05_does'
  cases h1 : (a.1 == 1) with
  | true =>
    obtain ⟨m', e, hm⟩ := Sync_is h a.2.1
    refine ⟨m', (syncF L a.2.1).1, ?_, hm⟩
    rw [e, rSync_is h]
    simp
  | false =>
  cases h2 : (a.1 == 2) with
  | true =>
    obtain ⟨m', e, hm⟩ := Cut_is h a.2.1 a.2.2.2.2.1
    refine ⟨m', (cutF L a.2.1 a.2.2.2.2.1).1, ?_, hm⟩
    rw [e, rCut_is h]
    simp
  | false =>
  cases h3 : (a.1 == 3) with
  | true =>
    obtain ⟨m', e, hm⟩ := Rename_is h a.2.1 a.2.2.1
    refine ⟨m', (renF L a.2.1 a.2.2.1).1, ?_, hm⟩
    rw [e, rRename_is h]
    simp
  | false =>
  cases h4 : (a.1 == 4) with
  | true =>
    obtain ⟨m', e, hm⟩ := Remove_is h a.2.1
    refine ⟨m', (remF L a.2.1).1, ?_, hm⟩
    rw [e, rRemove_is h]
    simp
  | false =>
  cases h5 : (a.1 == 5) with
  | true =>
    obtain ⟨m', e, hm⟩ := Crash_is h a.2.2.2.2.2
    refine ⟨m', crashF a.2.2.2.2.2 L, ?_, hm⟩
    simp only [List.nil_append]
    rw [room_of (by omega), e, rCrash_is h]
    rfl
  | false =>
    obtain ⟨m', e, hm⟩ := Append_is h a.2.1 hb
    refine ⟨m', (appF L a.2.1 a.2.2.2.1).1, ?_, hm⟩
    simp only [List.nil_append]
    rw [room_of (n := a.2.2.2.1.length) (b := 1) (by omega), e]
    simp only [cond_true, cond_false, Option.bind_some]
    rw [own_is _ _ _ _ _ hb]
    simp only [Option.bind_some]
    rw [rAppend_is h _ hb]
    simp
theorem heavy_is (l : List ActV) : ∃ b, law05_heavy' l = some b := by
  have key := loop_inv (S := Int) l.length (fun i s => law05_heavy_p8' l s (i : Int)) (fun i s => True) (fun r => ∃ n, r = some n)
    (fun i s hi hs => by
      try dsimp only at hs ⊢
      by_cases h4 : i < 400
      · refine .inl ⟨IntKind.wrap .i64 (s + (l[i].2.2.2.1.length : Int)), ?_, trivial⟩
        rw [law05_heavy_p8_eq, decide_eq_true (by omega : (i : Int) < (l.length : Int)), decide_eq_true (by omega : (i : Int) < 400), at?_lt hi, wrap_succ (by omega)]
        simp only [cond_true, Option.bind_some]
      · refine .inr ⟨s, ?_⟩
        rw [law05_heavy_p8_eq, decide_eq_true (by omega : (i : Int) < (l.length : Int)), decide_eq_false (by omega : ¬ (i : Int) < 400)]
        rfl)
    (fun s hs => by
      try dsimp only at hs ⊢
      refine ⟨s, ?_⟩
      rw [law05_heavy_p8_eq, decide_eq_false (by omega : ¬ (l.length : Int) < (l.length : Int))]
      rfl) 0 0 (Nat.zero_le _) trivial
  obtain ⟨n, e⟩ := key
  unfold law05_heavy'
  simp only [show ((0 : Nat) : Int) = 0 from rfl] at e
  rw [e]
  exact ⟨_, rfl⟩
def Acts (l : List ActV) : Prop := ∀ a ∈ l, a.2.2.2.1.length ≤ 1048576 ∧ a.2.2.2.2.2.length ≤ 1048576
theorem mem_bulk {t : T} : ∀ {l : List t.den} {x : t.den}, x ∈ l → t.bulk x + 1 ≤ (T.slice t).bulk l
  | [], _, h => by simp at h
  | y :: l, x, h => by
    have e : (T.slice t).bulk (y :: l) = t.bulk y + (T.slice t).bulk l := by simp [T.bulk]; omega
    have h1 := bulk_slice (t := t) l
    rcases List.mem_cons.1 h with h | h
    · subst h; omega
    · have := mem_bulk h; omega
abbrev actT : T := .pair (.int .i64) (.pair .str (.pair .str (.pair (.slice (.int .u8)) (.pair (.int .i64) (.slice (.int .i64))))))
theorem acts_of {l : List ActV} (h : (T.slice actT).bulk l ≤ 1048576) : Acts l := by
  intro x hx
  have h1 := mem_bulk (t := actT) (l := l) hx
  have h2 := bulk_slice (t := .int .u8) x.2.2.2.1
  have h3 := bulk_slice (t := .int .i64) x.2.2.2.2.2
  have h4 : T.bulk actT x = 1 + (T.bulk .str x.2.1 + (T.bulk .str x.2.2.1 + ((T.slice (.int .u8)).bulk x.2.2.2.1 + (1 + (T.slice (.int .i64)).bulk x.2.2.2.2.2)))) := rfl
  constructor <;> omega
theorem law_DiskSafe (l : List ActV) (cuts : List Int) (hl : Acts l) : ∃ k, law05_DiskSafe k l cuts = some true := by
  refine (law05_DiskSafe_lm l cuts).fin ?_
  unfold law05_DiskSafe' disk_New'
  obtain ⟨b, eb⟩ := heavy_is l
  rw [eb]
  simp only [Option.bind_some]
  cases b with
  | true => rw [awake_is]; rfl
  | false =>
    simp only [cond_false]
    have key := loop_inv (S := FL × FL) l.length (fun i s => law05_DiskSafe_p18' s.2 l cuts (i : Int) () s.1) (fun i s => St s.1 s.2) (fun r => ∃ m L, r = some (cuts, (), m) ∧ St m L)
      (fun i s hi hs => by
        try dsimp only at hs ⊢
        by_cases h4 : i < 100
        · have ha := hl l[i] (List.getElem_mem hi)
          obtain ⟨m', L', e, hm⟩ := does_is hs l[i] ha.1 ha.2
          refine .inl ⟨(m', L'), ?_, hm⟩
          rw [law05_DiskSafe_p18_eq, decide_eq_true (by omega : (i : Int) < (l.length : Int)), decide_eq_true (by omega : (i : Int) < 100), at?_lt hi, wrap_succ (by omega)]
          simp only [cond_true, Option.bind_some]
          rw [e]
          rfl
        · refine .inr ⟨s.1, s.2, ?_, hs⟩
          rw [law05_DiskSafe_p18_eq, decide_eq_true (by omega : (i : Int) < (l.length : Int)), decide_eq_false (by omega : ¬ (i : Int) < 100)]
          rfl)
      (fun s hs => by
        try dsimp only at hs ⊢
        refine ⟨s.1, s.2, ?_, hs⟩
        rw [law05_DiskSafe_p18_eq, decide_eq_false (by omega : ¬ (l.length : Int) < (l.length : Int))]
        rfl) 0 ([], []) (Nat.zero_le _) st_nil
    obtain ⟨m, L, e, hm⟩ := key
    simp only [show ((0 : Nat) : Int) = 0 from rfl] at e
    rw [e]
    simp only [Option.bind_some]
    obtain ⟨m1, e1, hm1⟩ := Files_is hm
    obtain ⟨m2, e2, hm2⟩ := Crash_is hm1 cuts
    obtain ⟨m3, e3, hm3⟩ := Files_is hm2
    rw [e1]
    simp only [Option.bind_some]
    rw [e2]
    simp only [Option.bind_some]
    rw [e3]
    simp only [Option.bind_some, crashF_len]
    have h64 := hm.len
    have key2 := check_loop L.length (fun i => law05_DiskSafe_p47' (i : Int) L (crashF cuts L)) (fun i => true) (a := some (.inl ())) (b := some (.inr false)) (fun i hi => by
      try dsimp only
      obtain ⟨hk1, hk2, hk3, hk4⟩ := hm.ok L[i] (List.getElem_mem hi)
      have hst := stay_le (cuts := cuts) (i := i) hk4
      have hc := cut_len (b := L[i].2.1) (n := L[i].2.2 + stay cuts i L[i].2) (by omega) hst.2
      have hiF : i < (crashF cuts L).length := by rw [crashF_len]; exact hi
      rw [law05_DiskSafe_p47_eq, decide_eq_true (by omega : (i : Int) < (L.length : Int)), decide_eq_true (by omega : (0 : Int) ≤ (i : Int)), crashF_len, decide_eq_true (by omega : (i : Int) < (L.length : Int)), get?_nat, get?_nat, List.getElem?_eq_getElem hi, List.getElem?_eq_getElem hiF, wrap_succ (by omega), crashF_get hi]
      simp only [cond_true, Bool.true_and, Option.bind_some]
      unfold crash1
      try dsimp only
      rw [hc]
      rw [decide_eq_false (by omega : ¬ L[i].2.2 + stay cuts i L[i].2 < L[i].2.2), decide_eq_false (by omega : ¬ L[i].2.2 + stay cuts i L[i].2 > (L[i].2.1.length : Int)), decide_eq_true (by omega : (0 : Int) ≤ L[i].2.2 + stay cuts i L[i].2), decide_eq_true hst.2]
      simp) (by
      try dsimp only
      rw [law05_DiskSafe_p47_eq, decide_eq_false (by omega : ¬ (L.length : Int) < (L.length : Int))]; rfl)
    simp only [show ((0 : Nat) : Int) = 0 from rfl] at key2
    rw [key2, allB_iff.2 (fun _ _ => rfl), awake_is]
    simp
end Go.Proofs.YtababmeocedhiaaDoor.gg
