/- The document's answer: pieces, by places. -/
import Derived.Test.YtdmegcnkfngojaaSB
open Go Go.GG
set_option linter.unusedVariables false
namespace Go.Proofs.Ytdmegcnkfngojaa.gg.sp
theorem cutAt_find {α : Type} (lt : α → Bool) : ∀ (l : List α), (match l.findIdx? (fun x => !lt x) with | some i => i | none => l.length) = cutAt lt l
  | [] => rfl
  | x :: l => by
    have ih := cutAt_find lt l
    unfold cutAt at ih ⊢
    rw [List.findIdx?_cons, List.takeWhile_cons]
    cases hx : lt x with
    | false => rfl
    | true =>
      simp only [Bool.not_true, Bool.false_eq_true, if_false, if_true, List.length_cons]
      rw [← ih]
      cases l.findIdx? (fun x => !lt x) <;> rfl
def isK (kind : Int) (a b : Bool) : Bool := bif kind == 2 then a && b else bif kind == 1 then a && !b else a || b
def pieceOf (l : List Sp) (s : Sp) (kind : Int) : List Sp := runs (fun k => isK kind (inL l k) (has s k)) (placesOf (l ++ [s])) none
theorem pieceOf_ok (l : List Sp) (s : Sp) (kind : Int) : Canon (pieceOf l s kind) ∧ ∀ k, inL (pieceOf l s kind) k = isK kind (inL l k) (has s k) := by
  have := runs_has (l := l ++ [s]) (op := fun f => isK kind (l.any f) (f s)) (fun f g h => by
    have h1 : l.any f = l.any g := by
      rw [Bool.eq_iff_iff, List.any_eq_true, List.any_eq_true]
      constructor
      · rintro ⟨x, hx, hf⟩; exact ⟨x, hx, by rw [← h x (by simp [hx])]; exact hf⟩
      · rintro ⟨x, hx, hf⟩; exact ⟨x, hx, by rw [h x (by simp [hx])]; exact hf⟩
    rw [h1, h s (by simp)])
  exact this
end Go.Proofs.Ytdmegcnkfngojaa.gg.sp
