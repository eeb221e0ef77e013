/- Files have names and bytes: what keeps that. -/
import Derived.Test.YtcbmmkjlppjfoaaGreatDoorD
open Go Go.GG Go.Proofs
set_option linter.unusedVariables false
namespace Go.Proofs.YtcbmmkjlppjfoaaGreatDoor.gg
/-- Files have names, and bytes. -/
def Inv2 (L : FL) : Prop := ∀ x ∈ L, x.1 ≠ [] ∧ ∀ b ∈ x.2.1, IsByte b
theorem Inv2.out {L : FL} (h : Inv2 L) (k : Str) : Inv2 (outF k L) := fun x hx => h x (mem_outF hx)
theorem Inv2.put {L : FL} (h : Inv2 L) {f : FI} (h1 : f.1 ≠ []) (h2 : ∀ b ∈ f.2.1, IsByte b) : Inv2 (putF L f) := fun x hx => by
  rcases mem_putF hx with rfl | hx
  · exact ⟨h1, h2⟩
  · exact h x hx
theorem Inv2.got {L : FL} (h : Inv2 L) (hk : Keyed L) {k : Str} {v : FT} (e : mfind (kt := .str) k L = some v) : ∀ b ∈ v.1, IsByte b := (h (k, v) ((mfind_iff k v hk).1 e)).2
theorem Inv2.none {L : FL} (h : Inv2 L) (hk : Keyed L) : mfind (kt := .str) [] L = none := (mfind_none [] hk).2 fun x hx => (h x hx).1
theorem Inv2.of_may {L : FL} (hm : mayF L = true) (hL : ∀ x ∈ L, ∀ b ∈ x.2.1, IsByte b) : Inv2 L := fun x hx => by
  obtain ⟨i, hi, rfl⟩ := List.mem_iff_getElem.1 hx
  refine ⟨?_, hL _ hx⟩
  unfold mayF at hm
  rw [Bool.and_eq_true] at hm
  have ho := allB_iff.1 hm.2 i hi
  unfold okAt at ho
  rw [getD_lt hi] at ho
  simp only [Bool.and_eq_true] at ho
  have hn := ho.1
  intro he
  rw [he] at hn
  exact absurd hn (by decide)
theorem cut_byte {l : List Int} {a b : Int} (h : ∀ x ∈ l, IsByte x) : ∀ x ∈ cut l a b, IsByte x := fun x hx => h x (List.mem_of_mem_take (List.mem_of_mem_drop hx))
theorem Inv2.crash {L : FL} (h : Inv2 L) (cuts : List Int) : Inv2 (crashF cuts L) := fun x hx => by
  obtain ⟨i, hi, rfl⟩ := List.mem_iff_getElem.1 hx
  rw [crashF_len] at hi
  rw [crashF_get hi]
  obtain ⟨h1, h2⟩ := h L[i] (List.getElem_mem hi)
  exact ⟨h1, cut_byte h2⟩
theorem Inv2.cut {L : FL} (h : Inv2 L) (hk : Keyed L) {k : Str} (hn : k ≠ []) (n : Int) : Inv2 (cutF L k n).1 := by
  unfold cutF
  cases e : mfind (kt := .str) k L with
  | none => exact h
  | some v =>
    simp only
    split
    · exact h
    · exact h.put hn (cut_byte (h.got hk e))
theorem Inv2.app {L : FL} (h : Inv2 L) (hk : Keyed L) {k : Str} (hn : k ≠ []) {b : List Int} (hb : ∀ x ∈ b, IsByte x) : Inv2 (appF L k b).1 := by
  unfold appF
  cases nameOk k with
  | false => exact h
  | true =>
    simp only [cond_true]
    cases e : mfind (kt := .str) k L with
    | none =>
      simp only
      split
      · exact h
      · exact h.put hn hb
    | some v =>
      simp only
      split
      · exact h
      · refine h.put hn fun x hx => ?_
        rcases List.mem_append.1 hx with hx | hx
        · exact h.got hk e x hx
        · exact hb x hx
theorem Inv2.sync {L : FL} (h : Inv2 L) (hk : Keyed L) {k : Str} (hn : k ≠ []) : Inv2 (syncF L k).1 := by
  unfold syncF
  cases e : mfind (kt := .str) k L with
  | none => exact h
  | some v =>
    have hb := h.got hk e
    exact h.put hn hb
theorem Inv2.ren {L : FL} (h : Inv2 L) (hk : Keyed L) (k : Str) {to : Str} (hn : to ≠ []) : Inv2 (renF L k to).1 := by
  unfold renF
  cases e : mfind (kt := .str) k L with
  | none => exact h
  | some v =>
    simp only
    cases nameOk to with
    | false => exact h
    | true =>
      have hb := h.got hk e
      exact (h.out k).put hn hb
theorem app_same {L : FL} {k : Str} {b : List Int} (e : (appF L k b).2 ≠ 0) : (appF L k b).1 = L := by
  unfold appF at *
  cases hn : nameOk k with
  | false => rfl
  | true =>
    rw [hn] at e
    simp only [cond_true] at *
    cases ef : mfind (kt := .str) k L with
    | none =>
      rw [ef] at e
      simp only at *
      split
      · rfl
      · rename_i hq; rw [if_neg hq] at e; exact absurd rfl e
    | some v =>
      rw [ef] at e
      simp only at *
      split
      · rfl
      · rename_i hq; rw [if_neg hq] at e; exact absurd rfl e
end Go.Proofs.YtcbmmkjlppjfoaaGreatDoor.gg
