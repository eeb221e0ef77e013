/- maps.Keys and slices.Sorted at a map of things: over the shelf's contracts. -/
import Derived.Test.YtababmeocedhiaaDoorK5
import Derived.Shelf.SlIter.Nil
import Derived.Shelf.SlIter.Sorted
import Derived.Shelf.SortM.Plain
import Derived.Shelf.SortM.SortNone
namespace Go.GG
open Go.RowKit Go.Maps Go.Sort Go.Shelf Go.Proofs
def seqF (l : FL) : Option (List (List UInt8)) := cond (decide (l.length ≤ 1000000) && l.all fun p => decide (p.1.length ≤ 1000000)) (some ((l.map (·.1)).mergeSort fun x y => decide (x ≤ y))) none
def keysSpec (g : Nat) : FSpec := ⟨[.mapk g], [], fun _ _ => some ()⟩
def seqSpec (g : Nat) : FSpec := ⟨[.seqk g], [.own .str], fun _ l => seqF l⟩
theorem keys_ok {P : Program} {ρ : Ren} (L : SlLaysZ.n7 P ρ) (hr : Runs P (ρ.f 7)) : RowOk P (ρ.f 7) (keysSpec (ρ.f 10)) := by
  refine ⟨hr, .inr (.inl ⟨ρ.f 10, _, _, rfl, fun w b _ => ?_⟩)⟩
  refine (callsIn_wide (n := 5)).1 ((AnyZ.keys_in L Fence.wide 5 trivial rfl (some b) w).mono ?_)
  rintro e w' ⟨rfl, rfl⟩
  exact ⟨_, rfl, rfl⟩
theorem keysD {H : Type} (P : Program) (k : TypeId) (hk : P.underlying k = some .string) (R : Value → Option (DataW H × List MemPlace)) (hR : ∀ v, (R v).isSome) {w : World} {m : IMap} : ∀ {l : FL} {es : List MapEntry}, PEnts w m none l es → (∀ p ∈ l, p.1.length ≤ 1000000) →
    (∀ x ∈ es, ∃ y, WideElems.rd P k R x = some y) ∧ (es.map (WideElems.rg P k R)).map (fun p => strOf p.1) = l.map (·.1)
  | [], _, h, _ => by simp only [PEnts] at h; subst h; exact ⟨by simp, rfl⟩
  | (key, x) :: l, _, h, hl => by
    obtain ⟨e, es', rfl, ⟨h1, _⟩, h2⟩ := h
    obtain ⟨h3, h4⟩ := keysD P k hk R hR h2 (fun p hp => hl p (by simp [hp]))
    obtain ⟨z, hz⟩ := Option.isSome_iff_exists.1 (hR e.val)
    have hlen := hl (key, x) (by simp)
    have hkey : Go.keyOf P k e.key = some (.string key) := by
      have hs : (ByteArray.mk key.toArray).size ≤ maxLen := by
        have : (ByteArray.mk key.toArray).size = key.length := by simp [ByteArray.size]
        rw [this]
        exact Nat.le_trans hlen (by decide)
      rw [h1]
      simp [Go.keyOf, mapKey, hk, hs]
    have hrd : WideElems.rd P k R e = some (.string key, z.1) := by
      have := WideElems.rd_mk (born := e.born) hkey hz
      simpa using this
    refine ⟨fun y hy => ?_, ?_⟩
    · rcases List.mem_cons.1 hy with rfl | hy
      · exact ⟨_, hrd⟩
      · exact h3 y hy
    · simp only [List.map_cons, h4, WideElems.rg_of hrd]
      rfl
theorem seq_ok {P : Program} {ρ₁ ρ₂ ρ₃ : Ren} (LK : SlLaysZ.n7 P ρ₁) (LS : SlLaysZ.n6 P ρ₂) (LM : SlLaysM.n6 P ρ₃) (h9 : ρ₂.f 9 = ρ₃.f 6) (hst : P.underlying (ρ₁.t 26) = some .string)
    (e9 : ∀ args w, (callFunc (ρ₂.f 9) args).run P w = .ok (.enter (ρ₂.f 9) args) w) (e10 : ∀ args w, (callFunc (ρ₁.f 10) args).run P w = .ok (.enter (ρ₁.f 10) args) w) (hr : Runs P (ρ₂.f 6)) : RowOk P (ρ₂.f 6) (seqSpec (ρ₁.f 10)) := by
  refine ⟨hr, .inr (.inr (.inl ⟨ρ₁.f 10, _, rfl, fun k l ys hF w b bx ty bs es clock hbx hb hpm => ?_⟩))⟩
  replace hF : seqF l = some ys := hF
  unfold seqF at hF
  cases hc : (decide (l.length ≤ 1000000) && l.all fun p => decide (p.1.length ≤ 1000000)) with
  | false => rw [hc] at hF; cases hF
  | true =>
  rw [hc] at hF
  simp only [cond_true, Option.some.injEq] at hF
  subst hF
  simp only [Bool.and_eq_true, decide_eq_true_eq, List.all_eq_true] at hc
  obtain ⟨hl1, hl2⟩ := hc
  let R : Value → Option (DataW Unit × List MemPlace) := fun _ => some (.nil, [])
  obtain ⟨hread, hkeys⟩ := keysD P (ρ₁.t 26) hst R (fun _ => rfl) hpm.ents hl2
  have hes : es.size = l.length := by have := hpm.ents.length; simpa using this
  let D0 : DataW Unit := .map ((es.toList.map (WideElems.rg P (ρ₁.t 26) R)).foldr DataW.insert [])
  have hown : w.ownsMap P (ρ₁.t 26) R b es.size D0 := ⟨es, clock, hb, ⟨by rw [hes]; exact Nat.le_trans hl1 (by decide), hpm.stamped, hread⟩, Nat.le_refl _, rfl⟩
  have hperm : (strKeys D0).Perm (l.map (·.1)) := by
    rw [← hkeys]
    exact (WideShapes.sorted_perm _).map _
  have hsize : Maps.size D0 = l.length := by
    have h1 := hperm.length_eq
    have h2 : Maps.size D0 = (strKeys D0).length := by simp [Maps.size, strKeys, D0]
    rw [h2, h1]; simp
  have hcell : w.cell? ⟨bx, 0, none⟩ = some (.map (some b)) := by simp [World.cell?, hbx]
  have hbl : bx < w.heap.size := (Array.getElem?_eq_some_iff.1 hbx).1
  have hseq : SeqGives Fence.wide 2 P (ρ₁.f 10) #[.pointer (some ⟨bx, 0, none⟩)] encStr (fun ss => ss.Perm (strKeys D0)) (Maps.size D0) w :=
    AnyZ.keys_gives (ρ := ρ₁) { LK with } Fence.wide _ trivial rfl (by omega) bx b es.size D0 w hbl hcell hown
  have hsorts : ∀ m, AnyZ.SortsIn P ρ₂ Fence.wide m := fun m => by
    refine ⟨fun blk off cap ss W hH hblk hsz => ?_, fun p cap W => ?_⟩
    · rw [h9]; exact callsIn_wide.2 (AnyM.slices_Sort_string LM blk off cap ss W hH hblk hsz)
    · rw [h9]; exact callsIn_wide.2 (AnyM.slices_Sort_string_none LM p cap W)
  have cS := AnyZ.sorted_in LS Fence.wide 5 trivial trivial trivial trivial rfl (by omega) (hsorts _) e9 (ρ₁.f 10) #[.pointer (some ⟨bx, 0, none⟩)] trivial e10 _ _ (by rw [hsize]; exact Nat.le_trans hl1 (by decide)) (by rw [hsize]; omega) w hseq
  refine (callsIn_wide (n := 5)).1 (cS.mono ?_)
  rintro e w' ⟨v, ss, rfl, hS, hrow, hnil, hbel⟩
  have hsort : ss.mergeSort (fun x y => decide (x ≤ y)) = (l.map (·.1)).mergeSort fun x y => decide (x ≤ y) := mergeSort_of_perm (hS.trans hperm)
  refine ⟨v, rfl, ?_, hbel, ?_⟩
  · rcases hrow.2 with ⟨rfl, hz⟩ | ⟨gb, cap, cur, rfl, hbase, hgb, r1, r2, r3, r4⟩
    · refine .inl ⟨rfl, ?_⟩
      have hss : ss = [] := List.eq_nil_of_length_eq_zero hz
      rw [← hsort, hss]; simp
    · refine .inr ⟨gb, cur, _, (0, 0), cap, ?_, ?_, ?_, hgb, .inl rfl, fun i x hi => ⟨[.string ⟨x.toArray⟩], rfl, fun j u hj => ?_⟩⟩
      · rw [← hsort]; simp
      · rw [← hsort]; simpa using r1
      · simp only [T.cnt]; omega
      · cases j with
        | succ j => simp at hj
        | zero =>
          simp only [List.getElem?_cons_zero, Option.some.injEq] at hj; subst hj
          simp only [T.cnt, Nat.mul_one, Nat.add_zero]
          rw [← hsort] at hi
          have hlt : i < ss.length := by have := (List.getElem?_eq_some_iff.1 hi).1; simpa using this
          have h1 : (cur.toList.take (ss.length * 1))[i]? = some (encStr x) := by rw [r4, List.getElem?_map, hi]; rfl
          rw [List.getElem?_take, if_pos (by omega)] at h1
          simpa [encStr] using h1
  · rcases hrow.2 with ⟨rfl, hz⟩ | ⟨gb, cap, cur, rfl, hbase, hgb, r1, r2, r3, r4⟩
    · simp [Impl.blocks]
    · intro n hn
      simp only [Impl.blocks, List.mem_singleton] at hn; subst hn
      exact ⟨hbase, (Array.getElem?_eq_some_iff.1 hgb).1⟩
end Go.GG
