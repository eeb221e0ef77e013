/- Bytes in chunks: the plain law. -/
import Derived.Test.YtcbmmkjlppjfoaaGreatDoorK6
import Derived.Test.YtcbmmkjlppjfoaaGreatDoorW
open Go Go.GG Go.Proofs
set_option linter.unusedVariables false
namespace Go.Proofs.YtcbmmkjlppjfoaaGreatDoor.gg
def cntN (n : Nat) : Nat := max 1 (n / 256 + min 1 (n % 256))
theorem Count_is {n : Nat} (h : n ≤ 9223372036854775807) : snap_Count' (n : Int) = some ((cntN n : Nat) : Int) := by
  unfold snap_Count' cntN
  rw [decide_eq_false (by omega : ¬ (n : Int) < 0), Int.tdiv_eq_ediv_of_nonneg (by omega), Int.tmod_eq_emod_of_nonneg (by omega)]
  simp only [cond_false]
  congr 1
  rw [i64_in (n := (n : Int) / 256) (by omega) (by omega)]
  unfold intMin
  split
  · rw [i64_in (by omega) (by omega)]
    unfold intMax
    split <;> omega
  · rw [i64_in (by omega) (by omega)]
    unfold intMax
    split <;> omega
theorem Count_neg {n : Int} (h : n < 0) : snap_Count' n = some 0 := by
  unfold snap_Count'
  rw [decide_eq_true h]; rfl
def piece (b : List Int) (i : Nat) : List Int := (b.drop (256 * i)).take 256
def chunksF (b : List Int) : List (List Int) := (List.range (cntN b.length)).map (piece b)
theorem chunksF_len (b : List Int) : (chunksF b).length = cntN b.length := by simp [chunksF]
theorem chunksF_get {b : List Int} {i : Nat} (h : i < (chunksF b).length) : (chunksF b)[i] = piece b i := by simp [chunksF]
theorem Chunks_is {b : List Int} (hl : b.length ≤ 100000) : ref08_Chunks' b = some (chunksF b) := by
  have hN : 1 ≤ cntN b.length := by unfold cntN; omega
  have hN2 : cntN b.length ≤ 1000 := by unfold cntN; omega
  have key := loop_inv (S := Unit) (cntN b.length - 1) (fun i _ => ref08_Chunks_p8' (b.drop (256 * i)) (i : Int) ((List.range i).map (piece b))) (fun i _ => True)
    (fun r => r = some (b.drop (256 * (cntN b.length - 1)), (List.range (cntN b.length - 1)).map (piece b)))
    (fun i s hi hs => by
      try dsimp only
      left
      refine ⟨(), ?_, trivial⟩
      have hlen : (b.drop (256 * i)).length = b.length - 256 * i := List.length_drop ..
      have hbig : 256 * (i + 1) < b.length := by unfold cntN at hi; omega
      rw [ref08_Chunks_p8_eq, decide_eq_true (by omega : ((b.drop (256 * i)).length : Int) > 256), decide_eq_true (by omega : (256 : Int) ≤ ((b.drop (256 * i)).length : Int)), room_of (by simp; omega), decide_eq_true (by omega : ((b.drop (256 * i)).length : Int) ≤ ((b.drop (256 * i)).length : Int)), wrap_succ (by omega)]
      simp only [Bool.and_self, cond_true]
      have e1 : cut (b.drop (256 * i)) 0 256 = piece b i := by simp [cut, piece]
      have e2 : cut (b.drop (256 * i)) 256 ((b.drop (256 * i)).length : Int) = b.drop (256 * (i + 1)) := by
        rw [cut_drop, show (256 : Int).toNat = 256 from rfl, List.drop_drop]
        congr 1
      rw [e1, e2, List.range_succ, List.map_append]
      rfl)
    (fun s hs => by
      try dsimp only
      have hlen : (b.drop (256 * (cntN b.length - 1))).length = b.length - 256 * (cntN b.length - 1) := List.length_drop ..
      have hsm : b.length ≤ 256 * (cntN b.length - 1) + 256 := by unfold cntN; omega
      rw [ref08_Chunks_p8_eq, decide_eq_false (by omega : ¬ ((b.drop (256 * (cntN b.length - 1))).length : Int) > 256)]
      rfl) 0 () (Nat.zero_le _) trivial
  unfold ref08_Chunks'
  have key' : ref08_Chunks_p8' b 0 [] = some (b.drop (256 * (cntN b.length - 1)), (List.range (cntN b.length - 1)).map (piece b)) := by
    have h := key
    simpa using h
  rw [key']
  simp only [Option.bind_some]
  rw [room_of (by simp; omega)]
  simp only [cond_true]
  congr 1
  unfold chunksF
  have e : cntN b.length = (cntN b.length - 1) + 1 := by omega
  conv => rhs; rw [e, List.range_succ, List.map_append]
  congr 1
  simp only [List.map_cons, List.map_nil, List.cons.injEq, and_true]
  unfold piece
  rw [List.take_of_length_le]
  rw [List.length_drop]
  unfold cntN
  omega
end Go.Proofs.YtcbmmkjlppjfoaaGreatDoor.gg
