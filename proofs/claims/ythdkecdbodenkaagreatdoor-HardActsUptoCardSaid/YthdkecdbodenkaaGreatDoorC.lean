/- The document's answers on a disk's files; an act with both; the theorem of syncing: the plain law. -/
import Derived.Test.YthdkecdbodenkaaGreatDoorB
open Go Go.GG
set_option linter.unusedVariables false
namespace Go.Proofs.YthdkecdbodenkaaGreatDoor.gg
abbrev ActV := Int × (List UInt8) × (List UInt8) × (List Int) × Int × List Int
theorem rRead_is {m L : FL} (h : St m L) (k : Str) : ref05_Read' L k = some (readF L k) := by
  unfold ref05_Read' readF
  have hl := h.len
  rw [place_is (by omega)]
  unfold placeI
  rcases find_place h.rel.kl k with ⟨e, ei⟩ | ⟨v, i, hi, e, ei, eg⟩
  · rw [e, ei]; rfl
  · rw [e, ei]
    simp only [Option.bind_some]
    rw [decide_eq_false (by omega : ¬ (i : Int) < 0), at?_lt hi, eg]
    rfl
theorem rSync_is {m L : FL} (h : St m L) (k : Str) : ref05_Sync' L k = some (syncF L k) := by
  unfold ref05_Sync' syncF
  have hl := h.len
  rw [place_is (by omega)]
  unfold placeI
  rcases find_place h.rel.kl k with ⟨e, ei⟩ | ⟨v, i, hi, e, ei, eg⟩
  · rw [e, ei]; rfl
  · rw [e, ei]
    simp only [Option.bind_some]
    rw [decide_eq_false (by omega : ¬ (i : Int) < 0), at?_lt hi, eg]
    simp only [cond_false, Option.bind_some]
    rw [put_is (by omega)]
    rfl
theorem rCut_is {m L : FL} (h : St m L) (k : Str) (n : Int) : ref05_Cut' L k n = some (cutF L k n) := by
  unfold ref05_Cut' cutF
  have hl := h.len
  rw [place_is (by omega)]
  unfold placeI
  rcases find_place h.rel.kl k with ⟨e, ei⟩ | ⟨v, i, hi, e, ei, eg⟩
  · rw [e, ei]; rfl
  · rw [e, ei]
    simp only [Option.bind_some]
    rw [decide_eq_false (by omega : ¬ (i : Int) < 0), at?_lt hi, eg]
    simp only [cond_false, Option.bind_some]
    by_cases h0 : n < 0
    · rw [if_pos (.inl h0), decide_eq_true h0]; rfl
    · by_cases h1 : n > (v.1.length : Int)
      · rw [if_pos (.inr h1), decide_eq_false h0, decide_eq_true h1]; rfl
      · rw [if_neg (by omega), decide_eq_false h0, decide_eq_false h1, decide_eq_true (by omega : (0 : Int) ≤ n), decide_eq_true (by omega : n ≤ (v.1.length : Int)), put_is (by omega), put_is (by omega)]
        unfold intMin
        by_cases h2 : v.2 > n
        · rw [decide_eq_true h2, if_pos h2]; rfl
        · rw [decide_eq_false h2, if_neg h2]; rfl
theorem rRename_is {m L : FL} (h : St m L) (k to : Str) : ref05_Rename' L k to = some (renF L k to) := by
  unfold ref05_Rename' renF
  have hl := h.len
  have ho := outF_len k L
  rw [place_is (by omega)]
  unfold placeI
  rcases find_place h.rel.kl k with ⟨e, ei⟩ | ⟨v, i, hi, e, ei, eg⟩
  · rw [e, ei]; rfl
  · rw [e, ei]
    simp only [Option.bind_some]
    rw [decide_eq_false (by omega : ¬ (i : Int) < 0), Name_is, at?_lt hi, eg]
    simp only [cond_false, Option.bind_some]
    rw [out_is (by omega)]
    simp only [Option.bind_some]
    rw [put_is (by omega)]
    cases nameOk to <;> rfl
theorem rAppend_is {m L : FL} (h : St m L) (k : Str) {b : List Int} (hb : b.length ≤ 1048576) : ref05_Append' L k b = some (appF L k b) := by
  unfold ref05_Append' appF
  have hl := h.len
  rw [Name_is]
  simp only [Option.bind_some]
  cases hn : nameOk k with
  | false => rfl
  | true =>
    simp only [Bool.not_true, cond_false, cond_true]
    rw [place_is (by omega)]
    unfold placeI
    rcases find_place h.rel.kl k with ⟨e, ei⟩ | ⟨v, i, hi, e, ei, eg⟩
    · rw [e, ei]
      simp only [Option.bind_some]
      have e14 : ref05_Append_p14' L b (-1) (k, 0) = some (L, b, -1, k, [], 0) := by rfl
      rw [e14]
      simp only [Option.bind_some, List.append_nil, List.nil_append, List.length_nil]
      rw [decide_eq_true (by omega : (-1 : Int) < 0)]
      simp only [cond_true]
      by_cases h0 : L.length ≥ 64
      · rw [if_pos (.inl h0), decide_eq_true (by omega : (L.length : Int) ≥ 64)]; rfl
      · have hw : IntKind.wrap .i64 (((0 : Nat) : Int) + (b.length : Int)) = (b.length : Int) := by rw [i64_in (by omega) (by omega)]; omega
        rw [decide_eq_false (by omega : ¬ (L.length : Int) ≥ 64)]
        by_cases h1 : b.length > 65536
        · rw [if_pos (.inr h1), decide_eq_true (by rw [hw]; omega : IntKind.wrap .i64 (((0 : Nat) : Int) + (b.length : Int)) > 65536)]; rfl
        · rw [if_neg (by omega), decide_eq_false (by rw [hw]; omega : ¬ IntKind.wrap .i64 (((0 : Nat) : Int) + (b.length : Int)) > 65536), room_of (by omega), room_of (by omega), put_is (by omega)]
          rfl
    · have hg := h.got e
      have hg1 : v.1.length ≤ 65536 := hg.2.1
      rw [e, ei]
      simp only [Option.bind_some]
      have e14 : ref05_Append_p14' L b (i : Int) (k, 0) = some (L, b, (i : Int), k, v.1, v.2) := by
        have : at? L (i : Int) = some (k, v) := by rw [at?_lt hi, eg]
        unfold ref05_Append_p14'
        rw [decide_eq_true (by omega : (i : Int) ≥ 0), this]; rfl
      rw [e14]
      simp only [Option.bind_some, List.nil_append]
      rw [decide_eq_false (by omega : ¬ (i : Int) < 0), i64_in (by omega) (by omega)]
      simp only [cond_false]
      by_cases h1 : v.1.length + b.length > 65536
      · rw [if_pos h1, decide_eq_true (by omega : (v.1.length : Int) + (b.length : Int) > 65536)]; rfl
      · rw [if_neg h1, decide_eq_false (by omega : ¬ (v.1.length : Int) + (b.length : Int) > 65536), room_of (by omega), room_of (by rw [List.length_append]; omega), put_is (by omega)]
        rfl
/-- What is not safe stays so far. -/
theorem run_is {L : FL} {cuts : List Int} {i : Nat} (hi : i < cuts.length) (o : FL) (x : FI) (hx : x.2.1.length ≤ 65536) : ∀ (r n c : Nat), n + r = x.2.1.length → c ≤ n →
    ref05_Crash_p28' L cuts (i : Int) (n : Int) (c : Int) o x = some (L, cuts, (i : Int), (n : Int) + intMax 0 (intMin (cuts[i] - (c : Int)) ((x.2.1.length : Int) - (n : Int))), o, x)
  | 0, n, c, h, hc => by
    rw [ref05_Crash_p28_eq, at?_lt hi, decide_eq_false (by omega : ¬ (n : Int) < (x.2.1.length : Int))]
    have : intMax 0 (intMin (cuts[i] - (c : Int)) ((x.2.1.length : Int) - (n : Int))) = 0 := by
      unfold intMax intMin; split <;> split at * <;> omega
    rw [this, Int.add_zero]
    simp only [Option.bind_some]
    cases decide ((c : Int) < cuts[i]) <;> rfl
  | r + 1, n, c, h, hc => by
    rw [ref05_Crash_p28_eq, at?_lt hi, decide_eq_true (by omega : (n : Int) < (x.2.1.length : Int))]
    simp only [Option.bind_some, cond_true]
    by_cases hq : (c : Int) < cuts[i]
    · rw [decide_eq_true hq, wrap_succ (by omega), wrap_succ (by omega), run_is hi o x hx r (n + 1) (c + 1) (by omega) (by omega)]
      have : ((n + 1 : Nat) : Int) + intMax 0 (intMin (cuts[i] - ((c + 1 : Nat) : Int)) ((x.2.1.length : Int) - ((n + 1 : Nat) : Int))) = (n : Int) + intMax 0 (intMin (cuts[i] - (c : Int)) ((x.2.1.length : Int) - (n : Int))) := by
        unfold intMax intMin
        split <;> split <;> split <;> split <;> omega
      rw [this]; rfl
    · rw [decide_eq_false hq]
      have : intMax 0 (intMin (cuts[i] - (c : Int)) ((x.2.1.length : Int) - (n : Int))) = 0 := by
        unfold intMax intMin; split <;> split at * <;> omega
      rw [this, Int.add_zero]; rfl
theorem rCrash_is {m L : FL} (h : St m L) (cuts : List Int) : ref05_Crash' L cuts = some (crashF cuts L) := by
  have hl := h.len
  have key := loop_inv (S := FL) L.length (fun i s => ref05_Crash_p8' L cuts (i : Int) s) (fun i s => s = (crashF cuts L).take i) (fun r => r = some (crashF cuts L))
    (fun i s hi hs => by
      try dsimp only at hs ⊢
      subst hs
      obtain ⟨hk1, hk2, hk3, hk4⟩ := h.ok L[i] (List.getElem_mem hi)
      have hst := stay_le (cuts := cuts) (i := i) hk4
      have hiF : i < (crashF cuts L).length := by rw [crashF_len]; exact hi
      refine .inl ⟨_, ?_, rfl⟩
      rw [take_succ' hiF, crashF_get hi, ref05_Crash_p8_eq, decide_eq_true (by omega : (i : Int) < (L.length : Int)), at?_lt hi]
      simp only [cond_true, Option.bind_some, Bool.true_and]
      unfold crash1
      by_cases hcu : i < cuts.length
      · have es : L[i].2.2 + stay cuts i L[i].2 = ((L[i].2.2.toNat : Nat) : Int) + intMax 0 (intMin (cuts[i] - ((0 : Nat) : Int)) ((L[i].2.1.length : Int) - ((L[i].2.2.toNat : Nat) : Int))) := by
          unfold stay
          rw [List.getElem?_eq_getElem hcu, Int.toNat_of_nonneg hk3]
          simp
        have hrun := run_is (L := L) hcu ((crashF cuts L).take i) L[i] hk2 (L[i].2.1.length - L[i].2.2.toNat) L[i].2.2.toNat 0 (by omega) (by omega)
        rw [← es, Int.toNat_of_nonneg hk3] at hrun
        rw [decide_eq_true (by omega : (i : Int) < (cuts.length : Int))]
        simp only [cond_true]
        simp only [show ((0 : Nat) : Int) = 0 from rfl] at hrun
        rw [hrun]
        simp only [Option.bind_some]
        rw [decide_eq_true (by omega : (0 : Int) ≤ L[i].2.2 + stay cuts i L[i].2), decide_eq_true hst.2, room_of (by simp [crashF_len]; omega), wrap_succ (by omega)]
        rfl
      · have es : stay cuts i L[i].2 = 0 := by
          unfold stay; rw [List.getElem?_eq_none (by omega)]
        rw [decide_eq_false (by omega : ¬ (i : Int) < (cuts.length : Int)), es, Int.add_zero]
        simp only [cond_false]
        rw [decide_eq_true hk3, decide_eq_true hk4, room_of (by simp [crashF_len]; omega), wrap_succ (by omega)]
        rfl)
    (fun s hs => by
      try dsimp only at hs ⊢
      rw [ref05_Crash_p8_eq, decide_eq_false (by omega : ¬ (L.length : Int) < (L.length : Int)), hs, List.take_of_length_le (by rw [crashF_len]; omega)]
      rfl) 0 [] (Nat.zero_le _) (by simp)
  unfold ref05_Crash'
  simp only [show ((0 : Nat) : Int) = 0 from rfl] at key
  rw [key]
  rfl
theorem mem_bulk {t : T} : ∀ {l : List t.den} {x : t.den}, x ∈ l → t.bulk x + 1 ≤ (T.slice t).bulk l
  | [], _, h => by simp at h
  | y :: l, x, h => by
    have e : (T.slice t).bulk (y :: l) = t.bulk y + (T.slice t).bulk l := by simp [T.bulk]; omega
    have h1 := bulk_slice (t := t) l
    rcases List.mem_cons.1 h with h | h
    · subst h; omega
    · have := mem_bulk h; omega
end Go.Proofs.YthdkecdbodenkaaGreatDoor.gg
