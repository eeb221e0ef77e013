/- slices.Compact at []int: over the shelf's contract. -/
import Derived.Test.YtdmegcnkfngojaaSortI
import Derived.Shelf.Slices.CompactI
namespace Go.GG
open Go.RowKit Go.Sort Go.Shelf Go.Proofs
def compIF (xs : List Int) : Option (List Int) := cond (decide (xs.length ≤ 9223372036854775807)) (some (Lib.compact xs)) none
def compISpec : FSpec := ⟨[.own (.int .i64)], [.own (.int .i64)], fun _ x => compIF x⟩
theorem holds_own {w : World} {x : List Int} {b : Nat} {C : Array Value} {e : TypeId} {fr : Nat × Nat} {cap : Nat} (h1 : x.length ≤ cap) (h2 : cap ≤ C.size)
    (h3 : w.heap[b]? = some (.cells C e fr)) (h4 : FrOk (.int .i64) C.size fr) (h5 : ∀ (i : Nat) (z : Int), x[i]? = some z → C[i]? = some (Value.int .i64 z)) : Holds (Value.int .i64) w b 0 x.toArray := by
  intro j hj
  have hj' : j < x.length := by simpa using hj
  refine ⟨?_, ?_⟩
  · simp only [World.cell?, h3, Nat.zero_add, Option.isSome_none, Bool.false_eq_true, if_false]
    rw [h5 j x[j] (by simp [hj'])]
    simp [hj']
  · simp only [World.frozen?, h3, Nat.zero_add]
    have := h4.free j (by omega)
    by_cases h6 : fr.1 ≤ j
    · have h7 : ¬ j < fr.2 := fun h => this ⟨h6, h⟩
      simp [h7]
    · simp [h6]
theorem putRow_heap {w : World} {b n : Nat} {C : Array Value} {e : TypeId} {fr : Nat × Nat} (h3 : w.heap[b]? = some (.cells C e fr)) (d : Array Int) :
    (putRow (Value.int .i64) (Sort.ahead w n) b 0 d).heap[b]? = some (.cells (putCells (Value.int .i64) 0 d C) e fr) := by
  simp [putRow, mapBlock, Sort.ahead, Array.getElem?_modify, h3, onCells]
theorem compact_le (x : List Int) : (Lib.compact x).length ≤ x.length := by
  unfold Lib.compact Lib.compactUpTo
  rw [List.length_map]
  exact Nat.le_trans (List.length_filter_le _ _) (by simp)
theorem compI_ok {P : Program} {ρ : Ren} (L : Lays2.n20 P ρ) (hr : Runs P (ρ.f 20)) : SpecOk P (ρ.f 20) compISpec := by
  refine ⟨hr, ?_⟩
  intro k (x : List Int) (y : List Int) hF w ok vals hok hp hnd hb
  replace hF : compIF x = some y := hF
  unfold compIF at hF
  cases hd : decide (x.length ≤ 9223372036854775807) with
  | false => rw [hd] at hF; cases hF
  | true =>
  rw [hd] at hF
  simp only [cond_true, Option.some.injEq] at hF
  subst hF
  have hsz := of_decide_eq_true hd
  obtain ⟨v, vs, rfl, ho, h0⟩ := hp
  simp only [PReps] at h0
  subst h0
  replace ho : OwnRow w ok (.int .i64) x v := ho
  rcases ho with ⟨rfl, h0⟩ | ⟨b, C, e, fr, cap, rfl, h1, h2, h3, h4, h5⟩
  · refine (Any.slices_Compact_int_empty L none 0 w).mono ?_
    rintro e w' ⟨rfl, rfl⟩
    subst h0
    exact ⟨[.slice none 0 0], rfl, Goes.refl _ _, by simp [rblocks, rowBlock, lblocks, compISpec], by simp [rblocks, rowBlock, compISpec], _, _, rfl, .inl ⟨rfl, rfl⟩, rfl, rfl⟩
  · simp only [T.cnt, Nat.mul_one] at h2 h5
    have hcell : ∀ (i : Nat) (z : Int), x[i]? = some z → C[i]? = some (Value.int .i64 z) := by
      intro i z hz
      obtain ⟨ds, hds, hj⟩ := h5 i z hz
      simp only [T.holds] at hds
      subst hds
      simpa using hj 0 _ rfl
    have hH := holds_own h1 h2 h3 h4 hcell
    have hbb := hb b (by simp [pblocks, compISpec, rowBlock])
    refine (Any.slices_Compact_int L b 0 cap x w hH hsz h1).mono ?_
    rintro e' w' ⟨rfl, n, rfl⟩
    have hle := compact_le x
    refine ⟨[.slice (some ⟨b, 0, none⟩) (Lib.compact x).length cap], rfl, ⟨rfl, rfl, rfl, by simp [Sort.ahead], ?_⟩, by simp [rblocks, rowBlock, lblocks, compISpec], ?_, _, _, rfl, .inr ⟨b, _, e, fr, cap, rfl, ?_, ?_, putRow_heap h3 _, ?_, ?_⟩, rfl, rfl⟩
    · intro c hc hn
      have : b ≠ c := fun h => hn (by simp [pblocks, compISpec, rowBlock, h])
      simp [putRow, mapBlock, Sort.ahead, Array.getElem?_modify, this]
    · intro c hc
      have : c = b := by simpa [rblocks, compISpec, rowBlock] using hc
      subst this
      exact ⟨by simpa [Sort.ahead] using hbb.1, .inl (by simp [pblocks, compISpec, rowBlock])⟩
    · exact Nat.le_trans hle h1
    · simpa [putCells, T.cnt] using h2
    · simpa [putCells] using h4
    · intro i z hz
      refine ⟨[Value.int .i64 z], rfl, ?_⟩
      replace hz : (Lib.compact x)[i]? = some z := hz
      have hi : i < (Lib.compact x).length := (List.getElem?_eq_some_iff.1 hz).1
      intro j u hu
      cases j with
      | succ j => simp at hu
      | zero =>
        simp only [List.getElem?_cons_zero, Option.some.injEq] at hu
        subst hu
        have hC : i < C.size := by omega
        rw [List.getElem?_eq_getElem hi] at hz
        simp only [Option.some.injEq] at hz
        simp only [T.cnt, Nat.mul_one, Nat.add_zero, putCells]
        have h8 : i < (Lib.compact x).length + (x.length - (Lib.compact x).length) := by omega
        simp [Array.getElem?_mapIdx, hC, hi, h8, hz, List.getElem_append_left]
end Go.GG
