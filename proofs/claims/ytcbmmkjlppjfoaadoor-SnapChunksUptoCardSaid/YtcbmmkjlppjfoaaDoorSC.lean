/- Bytes in chunks: the plain law. -/
import Derived.Test.YtcbmmkjlppjfoaaDoorW
open Go Go.GG Go.Proofs
set_option linter.unusedVariables false
namespace Go.Proofs.YtcbmmkjlppjfoaaDoor.gg
def cntN (n : Nat) : Nat := max 1 (n / 256 + min 1 (n % 256))
theorem Count_is {n : Nat} (h : n ≤ 9223372036854775807) : snap_Count' (n : Int) = some ((cntN n : Nat) : Int) := by
  unfold snap_Count' cntN
  rw [decide_eq_false (by omega : ¬ (n : Int) < 0), Int.tdiv_eq_ediv_of_nonneg (by omega), Int.tmod_eq_emod_of_nonneg (by omega)]
  simp only [cond_false]
  congr 1
  rw [i64_in (n := (n : Int) / 256) (by omega) (by omega)]
  unfold intMin
  split
  · rw [i64_in (by omega) (by omega)]
    unfold intMax
    split <;> omega
  · rw [i64_in (by omega) (by omega)]
    unfold intMax
    split <;> omega
theorem Count_neg {n : Int} (h : n < 0) : snap_Count' n = some 0 := by
  unfold snap_Count'
  rw [decide_eq_true h]; rfl
def piece (b : List Int) (i : Nat) : List Int := (b.drop (256 * i)).take 256
def chunksF (b : List Int) : List (List Int) := (List.range (cntN b.length)).map (piece b)
theorem chunksF_len (b : List Int) : (chunksF b).length = cntN b.length := by simp [chunksF]
theorem chunksF_get {b : List Int} {i : Nat} (h : i < (chunksF b).length) : (chunksF b)[i] = piece b i := by simp [chunksF]
theorem Chunks_is {b : List Int} (hl : b.length ≤ 100000) : ref08_Chunks' b = some (chunksF b) := by
  have hN : 1 ≤ cntN b.length := by unfold cntN; omega
  have hN2 : cntN b.length ≤ 1000 := by unfold cntN; omega
  have key := loop_inv (S := Unit) (cntN b.length - 1) (fun i _ => ref08_Chunks_p8' (b.drop (256 * i)) (i : Int) ((List.range i).map (piece b))) (fun i _ => True)
    (fun r => r = some (b.drop (256 * (cntN b.length - 1)), (List.range (cntN b.length - 1)).map (piece b)))
    (fun i s hi hs => by
      try dsimp only
      left
      refine ⟨(), ?_, trivial⟩
      have hlen : (b.drop (256 * i)).length = b.length - 256 * i := List.length_drop ..
      have hbig : 256 * (i + 1) < b.length := by unfold cntN at hi; omega
      rw [ref08_Chunks_p8_eq, decide_eq_true (by omega : ((b.drop (256 * i)).length : Int) > 256), decide_eq_true (by omega : (256 : Int) ≤ ((b.drop (256 * i)).length : Int)), room_of (by simp; omega), decide_eq_true (by omega : ((b.drop (256 * i)).length : Int) ≤ ((b.drop (256 * i)).length : Int)), wrap_succ (by omega)]
      simp only [Bool.and_self, cond_true]
      have e1 : cut (b.drop (256 * i)) 0 256 = piece b i := by simp [cut, piece]
      have e2 : cut (b.drop (256 * i)) 256 ((b.drop (256 * i)).length : Int) = b.drop (256 * (i + 1)) := by
        rw [cut_drop, show (256 : Int).toNat = 256 from rfl, List.drop_drop]
        congr 1
      rw [e1, e2, List.range_succ, List.map_append]
      rfl)
    (fun s hs => by
      try dsimp only
      have hlen : (b.drop (256 * (cntN b.length - 1))).length = b.length - 256 * (cntN b.length - 1) := List.length_drop ..
      have hsm : b.length ≤ 256 * (cntN b.length - 1) + 256 := by unfold cntN; omega
      rw [ref08_Chunks_p8_eq, decide_eq_false (by omega : ¬ ((b.drop (256 * (cntN b.length - 1))).length : Int) > 256)]
      rfl) 0 () (Nat.zero_le _) trivial
  unfold ref08_Chunks'
  have key' : ref08_Chunks_p8' b 0 [] = some (b.drop (256 * (cntN b.length - 1)), (List.range (cntN b.length - 1)).map (piece b)) := by
    have h := key
    simpa using h
  rw [key']
  simp only [Option.bind_some]
  rw [room_of (by simp; omega)]
  simp only [cond_true]
  congr 1
  unfold chunksF
  have e : cntN b.length = (cntN b.length - 1) + 1 := by omega
  conv => rhs; rw [e, List.range_succ, List.map_append]
  congr 1
  simp only [List.map_cons, List.map_nil, List.cons.injEq, and_true]
  unfold piece
  rw [List.take_of_length_le]
  rw [List.length_drop]
  unfold cntN
  omega
theorem cawake_is : law08_awake' = some true := law08_awake_lm.of_some 60 (by decide +kernel)
theorem Chunk_is {b : List Int} (hl : b.length ≤ 40000) {i : Int} (h0 : -9223372036854775808 ≤ i) (h1 : i ≤ 9223372036854775807) : snap_Chunk' b i = some (if 0 ≤ i ∧ i < (cntN b.length : Int) then (piece b i.toNat, true) else ([], false)) := by
  unfold snap_Chunk'
  rw [Count_is (by omega)]
  by_cases hi0 : i < 0
  · rw [decide_eq_true hi0, if_neg (by omega)]; rfl
  · rw [decide_eq_false hi0]
    simp only [cond_false, Option.bind_some]
    by_cases hi1 : i < (cntN b.length : Int)
    · rw [if_pos ⟨by omega, hi1⟩, decide_eq_false (by omega : ¬ i ≥ (cntN b.length : Int))]
      have hc : 256 * i.toNat ≤ b.length := by
        unfold cntN at hi1
        omega
      have hN : cntN b.length ≤ 1000 := by unfold cntN; omega
      obtain ⟨j, rfl⟩ : ∃ j : Nat, i = (j : Int) := ⟨i.toNat, by omega⟩
      rw [Int.toNat_natCast] at hc ⊢
      have e1 : IntKind.wrap .i64 ((j : Int) * 256) = ((256 * j : Nat) : Int) := by rw [i64_in (by omega) (by omega)]; omega
      have e2 : IntKind.wrap .i64 (IntKind.wrap .i64 ((j : Int) + 1) * 256) = ((256 * (j + 1) : Nat) : Int) := by rw [wrap_succ (by omega), i64_in (by omega) (by omega)]; omega
      have e3 : intMin (b.length : Int) ((256 * (j + 1) : Nat) : Int) = ((min b.length (256 * (j + 1)) : Nat) : Int) := by unfold intMin; split <;> omega
      have hp : cut b ((256 * j : Nat) : Int) ((min b.length (256 * (j + 1)) : Nat) : Int) = piece b j := by
        unfold cut piece
        rw [Int.toNat_natCast, Int.toNat_natCast, List.drop_take]
        rw [show min b.length (256 * (j + 1)) - 256 * j = min (b.length - 256 * j) 256 by omega, Nat.min_comm, ← List.take_take]
        have : (b.drop (256 * j)).take (b.length - 256 * j) = b.drop (256 * j) := List.take_of_length_le (by rw [List.length_drop]; omega)
        rw [this]
      rw [e1, e2, e3, hp, decide_eq_true (by omega : (0 : Int) ≤ ((256 * j : Nat) : Int)), decide_eq_true (by omega : ((256 * j : Nat) : Int) ≤ ((min b.length (256 * (j + 1)) : Nat) : Int)), decide_eq_true (by omega : ((min b.length (256 * (j + 1)) : Nat) : Int) ≤ (b.length : Int))]
      simp only [Bool.and_self, cond_true, cond_false]
      have hpl : (piece b j).length ≤ 256 := by unfold piece; rw [List.length_take]; omega
      unfold slices_Clone_byte_byte'
      rw [room_of (by simp; omega)]
      simp
    · rw [if_neg (by omega), decide_eq_true (by omega : i ≥ (cntN b.length : Int))]; rfl
theorem law_SnapChunks (b : List Int) (i size : Int) (hi0 : -9223372036854775808 ≤ i) (hi1 : i ≤ 9223372036854775807) (hs0 : -9223372036854775808 ≤ size) (hs1 : size ≤ 9223372036854775807) : ∃ k, law08_SnapChunks k b i size = some true := by
  refine (law08_SnapChunks_lm b i size).fin ?_
  unfold law08_SnapChunks'
  by_cases h4 : b.length > 40000
  · rw [decide_eq_true (by omega : (b.length : Int) > 40000), cawake_is]; rfl
  · rw [decide_eq_false (by omega : ¬ (b.length : Int) > 40000)]
    simp only [cond_false]
    rw [Chunks_is (by omega)]
    simp only [Option.bind_some]
    rw [Chunk_is (by omega) hi0 hi1]
    simp only [Option.bind_some]
    have hp : ∀ ok c, (ok, c) = (if 0 ≤ i ∧ i < (cntN b.length : Int) then (true, piece b i.toNat) else (false, [])) → law08_SnapChunks_p15' b i size ok (chunksF b) c = some (size, false) := by
      intro ok c h
      unfold law08_SnapChunks_p15'
      rw [Count_is (by omega), chunksF_len]
      simp only [Option.bind_some]
      have b1 : (((cntN b.length : Nat) : Int) != ((cntN b.length : Nat) : Int)) = false := by simp
      rw [b1]
      simp only [cond_false]
      by_cases h0 : 0 ≤ i
      · rw [decide_eq_true (by omega : i ≥ 0)]
        by_cases h1 : i < (cntN b.length : Int)
        · rw [if_pos ⟨h0, h1⟩] at h
          simp only [Prod.mk.injEq] at h
          obtain ⟨rfl, rfl⟩ := h
          have hlt : i.toNat < (chunksF b).length := by rw [chunksF_len]; omega
          rw [decide_eq_true h1, List.getElem?_eq_getElem hlt, chunksF_get hlt]
          simp
        · rw [if_neg (by omega)] at h
          simp only [Prod.mk.injEq] at h
          obtain ⟨rfl, rfl⟩ := h
          rw [decide_eq_false h1]
          rfl
      · rw [if_neg (by omega)] at h
        simp only [Prod.mk.injEq] at h
        obtain ⟨rfl, rfl⟩ := h
        rw [decide_eq_false (by omega : ¬ i ≥ 0)]
        rfl
    have hq : law08_SnapChunks_p15' b i size (if 0 ≤ i ∧ i < (cntN b.length : Int) then (piece b i.toNat, true) else ([], false)).2 (chunksF b) (if 0 ≤ i ∧ i < (cntN b.length : Int) then (piece b i.toNat, true) else ([], false)).1 = some (size, false) := by
      refine hp _ _ ?_
      split <;> rfl
    rw [hq]
    simp only [Option.bind_some, cond_false]
    by_cases h0 : 0 ≤ size
    · obtain ⟨n, rfl⟩ : ∃ n : Nat, size = (n : Int) := ⟨size.toNat, by omega⟩
      rw [decide_eq_true (by omega : (n : Int) ≥ 0), Count_is (by omega), cawake_is, Int.tdiv_eq_ediv_of_nonneg (by omega), Int.tmod_eq_emod_of_nonneg (by omega)]
      simp only [cond_true, Option.bind_some]
      rw [i64_in (n := (n : Int) / 256) (by omega) (by omega), i64_in (n := (n : Int) / 256 + 1) (by omega) (by omega)]
      by_cases hm : (n : Int) % 256 > 0
      · rw [decide_eq_true hm]
        have : (((cntN n : Nat) : Int) == (n : Int) / 256 + 1) = true := by rw [beq_iff_eq]; unfold cntN; omega
        rw [this]; rfl
      · rw [decide_eq_false hm]
        by_cases hz : n = 0
        · subst hz; rfl
        · have z0 : ((n : Int) == 0) = false := by rw [beq_eq_false_iff_ne]; omega
          have : (((cntN n : Nat) : Int) == (n : Int) / 256) = true := by rw [beq_iff_eq]; unfold cntN; omega
          rw [z0, this]; rfl
    · rw [decide_eq_false (by omega : ¬ size ≥ 0), Count_neg (by omega), cawake_is]
      rfl
end Go.Proofs.YtcbmmkjlppjfoaaDoor.gg
