/- slices.Sort at []int, as a call that turns its row in place: over the shelf's contract. -/
import Derived.Test.YtdmegcnkfngojaaK5
import Derived.Shelf.Slices.In.SortNone
import Derived.Shelf.Slices.In.SortAlone
namespace Go.GG
open Go.RowKit Go.Sort Go.Shelf Go.Proofs
def sortIF (xs : List Int) : Option (List Int) := cond (decide (xs.length < 4611686018427387904)) (some (xs.mergeSort fun x y => decide (x ≤ y))) none
def sortISpec : FSpec := ⟨[.lrow (.int .i64)], [.own (.int .i64)], fun _ x => sortIF x⟩
theorem sortI_ok {P : Program} {ρ : Ren} (L : Lays.n189 P ρ) (hr : Runs P (ρ.f 189)) : RowOk P (ρ.f 189) sortISpec := by
  refine ⟨hr, .int .i64, _, rfl, rfl, ?_⟩
  intro k (x : List Int) (y : List Int) hF w ok v ho hb
  replace hF : sortIF x = some y := hF
  unfold sortIF at hF
  cases hd : decide (x.length < 4611686018427387904) with
  | false => rw [hd] at hF; cases hF
  | true =>
  rw [hd] at hF
  simp only [cond_true, Option.some.injEq] at hF
  subst hF
  have hsz := of_decide_eq_true hd
  rcases ho with ⟨rfl, h0⟩ | ⟨b, C, e, fr, cap, rfl, h1, h2, h3, h4, h5⟩
  · refine (calls_of_every_depth fun D => AnyS.slices_Sort_int_none_alone L D none 0 w).mono ?_
    rintro e w' ⟨rfl, rfl⟩
    exact ⟨rfl, Goes.refl _ _, .inl ⟨rfl, by subst h0; simp⟩⟩
  · simp only [T.cnt, Nat.mul_one] at h2 h5
    have hcell : ∀ (i : Nat) (z : Int), x[i]? = some z → C[i]? = some (Value.int .i64 z) := by
      intro i z hz
      obtain ⟨ds, hds, hj⟩ := h5 i z hz
      simp only [T.holds] at hds
      subst hds
      simpa using hj 0 _ rfl
    have hH : Holds (Value.int .i64) w b 0 x.toArray := by
      intro j hj
      have hj' : j < x.length := by simpa using hj
      refine ⟨?_, ?_⟩
      · simp only [World.cell?, h3, Nat.zero_add, Option.isSome_none, Bool.false_eq_true, if_false]
        rw [hcell j x[j] (by simp [hj'])]
        simp [hj']
      · simp only [World.frozen?, h3, Nat.zero_add]
        have := h4.free j (by omega)
        by_cases h6 : fr.1 ≤ j
        · have h7 : ¬ j < fr.2 := fun h => this ⟨h6, h⟩
          simp [h7]
        · simp [h6]
    have hlt : b < w.heap.size := hb b (by simp [rowBlock])
    refine (calls_of_every_depth fun D => AnyS.slices_Sort_int_alone L D b 0 cap x w hH hlt hsz).mono ?_
    rintro e' w' ⟨rfl, n, os, rfl⟩
    have hold : ∀ c, c < w.heap.size → (grow (putRow (Value.int .i64) (Sort.ahead w n) b 0 (x.mergeSort fun x y => decide (x ≤ y)).toArray) os).heap[c]? = (putRow (Value.int .i64) (Sort.ahead w n) b 0 (x.mergeSort fun x y => decide (x ≤ y)).toArray).heap[c]? :=
      fun c hc => heap_grow_old _ _ (by simpa [Sort.ahead] using hc)
    refine ⟨rfl, ⟨rfl, rfl, rfl, by simp [Sort.ahead], ?_⟩, .inr ⟨b, putCells (Value.int .i64) 0 (x.mergeSort fun x y => decide (x ≤ y)).toArray C, e, fr, cap, ?_, ?_, ?_, ?_, ?_, ?_⟩⟩
    · intro c hc hn
      rw [hold c hc]
      have : b ≠ c := fun h => hn (by simp [rowBlock, h])
      simp [putRow, mapBlock, Sort.ahead, Array.getElem?_modify, this]
    · simp
    · simpa using h1
    · simpa [putCells, T.cnt] using h2
    · rw [hold b hlt]
      simp [putRow, mapBlock, Sort.ahead, Array.getElem?_modify, h3, onCells]
    · simpa [putCells] using h4
    · intro i z hz
      refine ⟨[Value.int .i64 z], rfl, ?_⟩
      have hi : i < x.length := by
        have := (List.getElem?_eq_some_iff.1 hz).1
        simpa using this
      intro j u hu
      cases j with
      | succ j => simp at hu
      | zero =>
        simp only [List.getElem?_cons_zero, Option.some.injEq] at hu
        subst hu
        have hC : i < C.size := by omega
        simp only [T.cnt, Nat.mul_one, Nat.add_zero, putCells]
        have hi' : i < (x.mergeSort fun x y => decide (x ≤ y)).length := by simpa using hi
        rw [List.getElem?_eq_getElem hi'] at hz
        simp only [Option.some.injEq] at hz
        simp [Array.getElem?_mapIdx, hC, hi, hi', hz]
end Go.GG
