/- The document's answer: pieces, by places. -/
import Derived.Test.YtlgfmkccnljhoaaB
open Go Go.GG
set_option linter.unusedVariables false
namespace Go.Proofs.Ytlgfmkccnljhoaa.gg
theorem refIn_eq {l : List Sp} (hl : l.length ≤ 1048576) (k : Str) : ref10_In' l k = some (inL l k) := by
  have key0 := index_loop l (fun s => has s k) (fun i => ref10_In_p6' l k (i : Int)) (f := fun i => some (.inr true)) (a := some (.inl ())) (fun i hi => by
    try dsimp only
    rw [ref10_In_p6_eq, decide_eq_true (by omega : (i : Int) < (l.length : Int)), at?_lt hi, wrap_succ (by omega)]
    simp only [cond_true, Option.bind_some, refHas_eq]) (by
    try dsimp only
    rw [ref10_In_p6_eq, decide_eq_false (by omega : ¬ (l.length : Int) < (l.length : Int))]; rfl)
  unfold ref10_In'
  simp only [show ((0 : Nat) : Int) = 0 from rfl] at key0
  rw [key0]
  cases hi : l.findIdx? (fun s => has s k) with
  | none =>
    rw [List.findIdx?_eq_none_iff] at hi
    have : inL l k = false := by
      unfold inL
      rw [List.any_eq_false]
      intro x hx
      rw [hi x hx]; simp
    rw [this]; rfl
  | some i =>
    obtain ⟨h1, h2, _⟩ := List.findIdx?_eq_some_iff_getElem.1 hi
    rw [inL_iff.2 ⟨_, List.getElem_mem h1, h2⟩]; rfl
theorem cutAt_find {α : Type} (lt : α → Bool) : ∀ (l : List α), (match l.findIdx? (fun x => !lt x) with | some i => i | none => l.length) = cutAt lt l
  | [] => rfl
  | x :: l => by
    have ih := cutAt_find lt l
    unfold cutAt at ih ⊢
    rw [List.findIdx?_cons, List.takeWhile_cons]
    cases hx : lt x with
    | false => rfl
    | true =>
      simp only [Bool.not_true, Bool.false_eq_true, if_false, if_true, List.length_cons]
      rw [← ih]
      cases l.findIdx? (fun x => !lt x) <;> rfl
theorem insert_eq {p : List Str} (hp : Rises p) (hl : p.length ≤ 10000000) (t : Str) : ref10_insert' p t = some (placeF (ltT t) (eqT t) p t) := by
  have key0 := index_loop p (fun x => !ltT t x) (fun i => ref10_insert_p6' p t (i : Int)) (f := fun i => some (p, t, (i : Int))) (a := some (p, t, (p.length : Int))) (fun i hi => by
    try dsimp only
    rw [ref10_insert_p6_eq, decide_eq_true (by omega : (i : Int) < (p.length : Int)), at?_lt hi, wrap_succ (by omega)]
    simp only [cond_true, Option.bind_some, ltT]
    cases strLess p[i] t <;> rfl) (by
    try dsimp only
    rw [ref10_insert_p6_eq, decide_eq_false (by omega : ¬ (p.length : Int) < (p.length : Int))]; rfl)
  have hcut := cutAt_find (ltT t) p
  have hres : ref10_insert_p6' p t 0 = some (p, t, ((cutAt (ltT t) p : Nat) : Int)) := by
    simp only [show ((0 : Nat) : Int) = 0 from rfl] at key0
    rw [key0, ← hcut]
    cases p.findIdx? (fun x => !ltT t x) <;> rfl
  have hcl := cutAt_le (ltT t) p
  have hsg : Single (ltT t) (eqT t) p := Sorted.single (O := strOrd) (key := fun x : Str => x) hp t
  have c1 : ∀ n : Nat, cut p 0 (n : Int) = p.take n := by intro n; simp [cut]
  have c2 : ∀ n : Nat, cut p (n : Int) (p.length : Int) = p.drop n := by intro n; simp [cut]
  unfold ref10_insert'
  rw [hres]
  simp only [Option.bind_some, c1, c2, List.nil_append]
  rw [decide_eq_true (by omega : (0 : Int) ≤ ((cutAt (ltT t) p : Nat) : Int)), decide_eq_true (by omega : ((cutAt (ltT t) p : Nat) : Int) ≤ (p.length : Int)), decide_eq_true (Int.le_refl _), room_of (by simp; omega), room_of (by simp; omega), room_of (by simp; omega)]
  simp only [Bool.and_self, cond_true]
  by_cases hc : cutAt (ltT t) p < p.length
  · rw [decide_eq_true (by omega : ((cutAt (ltT t) p : Nat) : Int) < (p.length : Int)), at?_lt hc]
    simp only [cond_true, Option.bind_some]
    have hth := there_lt (lt := ltT t) (eq := eqT t) hc
    simp only [eqT] at hth
    cases he : (p[cutAt (ltT t) p] == t) with
    | true =>
      rw [he] at hth
      obtain ⟨_, hset⟩ := place_there (h := t) hsg hth
      have : p[cutAt (ltT t) p] = t := by simpa using he
      have h9 : p.set (cutAt (ltT t) p) t = p := by
        have h10 : p.set (cutAt (ltT t) p) t = p.set (cutAt (ltT t) p) p[cutAt (ltT t) p] := by rw [this]
        rw [h10, List.set_getElem_self]
      rw [cond_true, ← hset, h9]
    | false =>
      rw [he] at hth
      rw [cond_false, place_new hsg hth]
  · rw [decide_eq_false (by omega : ¬ ((cutAt (ltT t) p : Nat) : Int) < (p.length : Int)), cond_false, place_new hsg (there_ge hc)]
theorem refPlaces_eq {l : List Sp} (hl : l.length ≤ 1048577) : ref10_places' l = some (placesOf l) := by
  have key0 := fold_loop l (fun p s => placeF (ltT s.2) (eqT s.2) (placeF (ltT s.1) (eqT s.1) p s.1) s.2) [[]] (fun i p => ref10_places_p8' p l (i : Int)) (out := fun p => some p) (fun i hi => by
    obtain ⟨h1, _, _, h4⟩ := places_ok (l.take i)
    try dsimp only
    have e : (l.take i).foldl (fun p s => placeF (ltT s.2) (eqT s.2) (placeF (ltT s.1) (eqT s.1) p s.1) s.2) [[]] = placesOf (l.take i) := rfl
    rw [e]
    have h5 : (l.take i).length ≤ l.length := by simp; omega
    rw [ref10_places_p8_eq, decide_eq_true (by omega : (i : Int) < (l.length : Int)), at?_lt hi, wrap_succ (by omega)]
    simp only [cond_true, Option.bind_some]
    rw [insert_eq h1 (by omega)]
    simp only [Option.bind_some]
    have h2 := put_rises h1 l[i].1
    have h6 := placeF_len (ltT l[i].1) (eqT l[i].1) (placesOf (l.take i)) l[i].1
    rw [insert_eq h2.1 (by omega)]
    rfl) (by
    try dsimp only
    rw [ref10_places_p8_eq, decide_eq_false (by omega : ¬ (l.length : Int) < (l.length : Int))]; rfl)
  unfold ref10_places'
  simp only [show ((0 : Nat) : Int) = 0 from rfl] at key0
  rw [key0]; rfl
def isK (kind : Int) (a b : Bool) : Bool := bif kind == 2 then a && b else bif kind == 1 then a && !b else a || b
theorem pick_eq (l : List Sp) (kind : Int) (p : List Str) (o : Bool) (i : Int) (a b : Bool) (s : Sp) (out : List Sp) :
    ((ref10_Piece_p23' l kind p o i a b (s.1, s.2) out).bind fun o6 => ((ref10_Piece_p25' o6.1 o6.2.1 o6.2.2.1 o6.2.2.2.1 o6.2.2.2.2.1 o6.2.2.2.2.2.1 o6.2.2.2.2.2.2.1 o6.2.2.2.2.2.2.2.1 (o6.2.2.2.2.2.2.2.2.1.1, o6.2.2.2.2.2.2.2.2.1.2) o6.2.2.2.2.2.2.2.2.2).bind fun o7 => ref10_Piece_p31' o7.1 o7.2.1 o7.2.2.1 o7.2.2.2.1 o7.2.2.2.2.1 o7.2.2.2.2.2.1 o7.2.2.2.2.2.2.1 o7.2.2.2.2.2.2.2.1 (o7.2.2.2.2.2.2.2.2.1.1, o7.2.2.2.2.2.2.2.2.1.2) o7.2.2.2.2.2.2.2.2.2)) =
      some (l, kind, p, o, i, isK kind a b, s, out) := by
  unfold ref10_Piece_p23' ref10_Piece_p25' ref10_Piece_p31' isK
  cases h2 : (kind == 2) with
  | true =>
    have : kind = 2 := by simpa using h2
    subst this
    cases a <;> cases b <;> rfl
  | false =>
    cases h1 : (kind == 1) with
    | true =>
      have : kind = 1 := by simpa using h1
      subst this
      cases a <;> cases b <;> rfl
    | false => cases a <;> cases b <;> simp [h1, h2]
theorem piece_loop {l : List Sp} (hl : l.length ≤ 1048576) (s : Sp) (kind : Int) (p : List Str) (hp : p.length ≤ 10000000) : ∀ (m i : Nat), i + m = p.length →
    (∀ out : List Sp, out.length ≤ i → ref10_Piece_p12' l kind p false (i : Int) s out = some (out ++ runs (fun k => isK kind (inL l k) (has s k)) (p.drop i) none)) ∧
    (∀ (out : List Sp) (f : Str), out.length + 1 ≤ i → ref10_Piece_p12' l kind p true (i : Int) s (out ++ [(f, [])]) = some (out ++ runs (fun k => isK kind (inL l k) (has s k)) (p.drop i) (some f)))
  | 0, i, hi => by
    obtain rfl : i = p.length := by omega
    constructor
    · intro out _
      rw [ref10_Piece_p12_eq, decide_eq_false (by omega), List.drop_length]
      simp [runs]
    · intro out f _
      rw [ref10_Piece_p12_eq, decide_eq_false (by omega), List.drop_length]
      simp [runs]
  | m + 1, i, hi => by
    have hlt : i < p.length := by omega
    obtain ⟨ih1, ih2⟩ := piece_loop hl s kind p hp m (i + 1) (by omega)
    have step : ∀ (o : Bool) (out : List Sp), ref10_Piece_p12' l kind p o (i : Int) s out = ((ref10_Piece_p37' l kind p o (i : Int) (isK kind (inL l p[i]) (has s p[i])) s out).bind fun o10 => (bif (!o10.2.2.2.2.2.1) then (bif o10.2.2.2.1 then ((at? o10.2.2.1 o10.2.2.2.2.1).bind fun e11 => (bif (decide (0 ≤ (IntKind.wrap .i64 (((o10.2.2.2.2.2.2.2).length : Int) - 1))) && decide ((IntKind.wrap .i64 (((o10.2.2.2.2.2.2.2).length : Int) - 1)) < (o10.2.2.2.2.2.2.2).length)) then ((o10.2.2.2.2.2.2.2[(Int.toNat (IntKind.wrap .i64 (((o10.2.2.2.2.2.2.2).length : Int) - 1)))]?).bind fun x12 => ref10_Piece_p12' o10.1 o10.2.1 o10.2.2.1 o10.2.2.2.2.2.1 (IntKind.wrap .i64 (o10.2.2.2.2.1 + 1)) (o10.2.2.2.2.2.2.1.1, o10.2.2.2.2.2.2.1.2) (o10.2.2.2.2.2.2.2.set (Int.toNat (IntKind.wrap .i64 (((o10.2.2.2.2.2.2.2).length : Int) - 1))) (x12.1, e11))) else none)) else ref10_Piece_p12' o10.1 o10.2.1 o10.2.2.1 o10.2.2.2.2.2.1 (IntKind.wrap .i64 (o10.2.2.2.2.1 + 1)) (o10.2.2.2.2.2.2.1.1, o10.2.2.2.2.2.2.1.2) o10.2.2.2.2.2.2.2) else ref10_Piece_p12' o10.1 o10.2.1 o10.2.2.1 o10.2.2.2.2.2.1 (IntKind.wrap .i64 (o10.2.2.2.2.1 + 1)) (o10.2.2.2.2.2.2.1.1, o10.2.2.2.2.2.2.1.2) o10.2.2.2.2.2.2.2)) := by
      intro o out
      rw [ref10_Piece_p12_eq, decide_eq_true (by omega : (i : Int) < (p.length : Int)), at?_lt hlt]
      simp only [cond_true, Option.bind_some, refIn_eq hl, refHas_eq]
      have hp := pick_eq l kind p o (i : Int) (inL l p[i]) (has s p[i]) s out
      simp only [← Option.bind_assoc] at hp ⊢
      rw [hp]
      rfl
    have hdrop : p.drop i = p[i] :: p.drop (i + 1) := List.drop_eq_getElem_cons hlt
    constructor
    · intro out ho
      rw [step, hdrop]
      simp only [runs, ref10_Piece_p37']
      cases hb : isK kind (inL l p[i]) (has s p[i]) with
      | true =>
        rw [at?_lt hlt]
        simp only [cond_true, Bool.not_false, Option.bind_some]
        rw [room_of (by simp; omega)]
        simp only [cond_true, Option.bind_some, Bool.not_true, cond_false]
        rw [wrap_succ (by omega)]
        exact ih2 out p[i] (by omega)
      | false =>
        simp only [cond_false, Option.bind_some, Bool.not_false, cond_true]
        rw [wrap_succ (by omega)]
        exact ih1 out (by omega)
    · intro out f ho
      rw [step, hdrop]
      simp only [runs, ref10_Piece_p37']
      cases hb : isK kind (inL l p[i]) (has s p[i]) with
      | true =>
        simp only [cond_true, Bool.not_true, cond_false, Option.bind_some]
        rw [wrap_succ (by omega)]
        exact ih2 out f (by omega)
      | false =>
        simp only [cond_false, Option.bind_some, Bool.not_false, cond_true]
        have e1 : IntKind.wrap .i64 (((out ++ [(f, [])] : List Sp).length : Int) - 1) = (out.length : Int) := by
          rw [i64_in (by simp only [List.length_append, List.length_singleton]; omega) (by simp only [List.length_append, List.length_singleton]; omega)]; simp
        rw [at?_lt hlt, e1, decide_eq_true (by omega : (0 : Int) ≤ (out.length : Int)), decide_eq_true (by simp only [List.length_append, List.length_singleton]; omega : (out.length : Int) < ((out ++ [(f, [])] : List Sp).length : Int))]
        simp only [Bool.and_self, cond_true, Option.bind_some, Int.toNat_natCast]
        rw [List.getElem?_append_right (Nat.le_refl _), Nat.sub_self]
        simp only [List.getElem?_cons_zero, Option.bind_some]
        rw [List.set_append_right _ _ (Nat.le_refl _), Nat.sub_self, List.set_cons_zero, wrap_succ (by omega)]
        have := ih1 (out ++ [(f, p[i])]) (by simp; omega)
        rw [show ((s.1, s.2) : Sp) = s from rfl, this]
        simp
def pieceOf (l : List Sp) (s : Sp) (kind : Int) : List Sp := runs (fun k => isK kind (inL l k) (has s k)) (placesOf (l ++ [s])) none
theorem Piece_eq {l : List Sp} (hl : l.length ≤ 1048576) (s : Sp) (kind : Int) : ref10_Piece' l s kind = some (pieceOf l s kind) := by
  obtain ⟨_, _, _, h4⟩ := places_ok (l ++ [s])
  simp only [List.length_append, List.length_singleton] at h4
  unfold ref10_Piece'
  rw [List.nil_append, room_of (by omega), room_of (by simp; omega), refPlaces_eq (by simp; omega)]
  simp only [cond_true, Option.bind_some]
  have := (piece_loop hl s kind (placesOf (l ++ [s])) (by omega) (placesOf (l ++ [s])).length 0 (by omega)).1 [] (by simp)
  simp only [show ((0 : Nat) : Int) = 0 from rfl, List.drop_zero, List.nil_append] at this
  rw [show ((s.1, s.2) : Sp) = s from rfl, this]
  rfl
theorem pieceOf_ok (l : List Sp) (s : Sp) (kind : Int) : Canon (pieceOf l s kind) ∧ ∀ k, inL (pieceOf l s kind) k = isK kind (inL l k) (has s k) := by
  have := runs_has (l := l ++ [s]) (op := fun f => isK kind (l.any f) (f s)) (fun f g h => by
    have h1 : l.any f = l.any g := by
      rw [Bool.eq_iff_iff, List.any_eq_true, List.any_eq_true]
      constructor
      · rintro ⟨x, hx, hf⟩; exact ⟨x, hx, by rw [← h x (by simp [hx])]; exact hf⟩
      · rintro ⟨x, hx, hf⟩; exact ⟨x, hx, by rw [h x (by simp [hx])]; exact hf⟩
    rw [h1, h s (by simp)])
  exact this
end Go.Proofs.Ytlgfmkccnljhoaa.gg
