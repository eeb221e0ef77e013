/- A slice that may be nil: two specifications as one. -/
import Derived.Test.YtlgfmkccnljhoaaC33
namespace Go.GG
open Go.RowKit
section
variable {P : Program}
/-- A specification by others, whichever fits what comes in. -/
theorem spec_via {f : FuncId} {ps : List PK} {rs : List RK} {F : Nat → RD PK.den ps → Option (RD RK.den rs)} (hr : Runs P f)
    (h : ∀ k x y, F k x = some y → ∀ (w : World) (ok : Nat → Prop) (vals : List Value), PReps P w ok ps x vals →
      ∃ (ps' : List PK) (F' : Nat → RD PK.den ps' → Option (RD RK.den rs)) (x' : RD PK.den ps'), SpecOk P f ⟨ps', rs, F'⟩ ∧ F' k x' = some y ∧ PReps P w ok ps' x' vals ∧ pblocks ps' vals = pblocks ps vals ∧ lblocks ps' vals = lblocks ps vals ∧ vblocks ps' vals = vblocks ps vals) :
    SpecOk P f ⟨ps, rs, F⟩ := by
  refine ⟨hr, fun k x y hy w ok0 vals hok hp hnd hpb => ?_⟩
  obtain ⟨ps', F', x', h1, h2, h3, h4, h5, h6⟩ := h k x y hy w ok0 vals hp
  have := h1.2 k x' y h2 w ok0 vals hok h3 (by simp only; rw [h4, h6]; exact hnd) (by simp only; rw [h4]; exact hpb)
  simp only [h4, h5] at this
  exact this
theorem nil_or {w : World} {ok : Nat → Prop} {t : T} {xs : List t.den} {v : Value} (h : (T.slice t).holds w ok xs [v]) : (v = .slice none 0 0 ∧ xs = []) ∨ ∃ a n c, v = .slice (some a) n c := by
  have h0 := h
  simp only [T.holds] at h
  obtain ⟨A, c, hv, _, h⟩ := h
  simp only [List.cons.injEq, and_true] at hv
  subst hv
  cases A with
  | some a => exact .inr ⟨a, _, c, rfl⟩
  | none =>
    rcases h with ⟨rfl, hc⟩ | ⟨b, off, C, e, fr, hA, _⟩
    · rw [hc rfl]; exact .inl ⟨rfl, rfl⟩
    · cases hA
theorem spec_nil0 {f : FuncId} {t : T} {post : List PK} {rs : List RK} {F : Nat → RD PK.den (.imm (.slice t) :: post) → Option (RD RK.den rs)} {Fn : Nat → RD PK.den (.nils :: post) → Option (RD RK.den rs)} {Fs : Nat → RD PK.den (.nnil t :: post) → Option (RD RK.den rs)}
    (hn : SpecOk P f ⟨.nils :: post, rs, Fn⟩) (hs : SpecOk P f ⟨.nnil t :: post, rs, Fs⟩)
    (h1 : ∀ k (xs : List t.den) (r : RD PK.den post), F k (RD.mk (k := PK.imm (.slice t)) xs r) = Fs k (RD.mk (k := PK.nnil t) xs r))
    (h2 : ∀ k (r : RD PK.den post), F k (RD.mk (k := PK.imm (.slice t)) [] r) = Fn k (RD.mk (k := PK.nils) () r)) : SpecOk P f ⟨.imm (.slice t) :: post, rs, F⟩ := by
  have eta : ∀ (x : RD PK.den (.imm (.slice t) :: post)), x = RD.mk (k := PK.imm (.slice t)) (RD.hd (k := PK.imm (.slice t)) x) (RD.tl (k := PK.imm (.slice t)) x) := by
    intro x; cases post <;> rfl
  refine spec_via hn.1 fun k x y hy w ok vals hp => ?_
  obtain ⟨v, vs', rfl, hv, hvs⟩ := hp
  rw [eta x] at hy
  rcases nil_or hv with ⟨rfl, he⟩ | ⟨a, n, c, rfl⟩
  · refine ⟨_, Fn, RD.mk (k := PK.nils) () (RD.tl (k := PK.imm (.slice t)) x), hn, ?_, ⟨_, vs', rfl, rfl, ?_⟩, rfl, rfl, rfl⟩
    · rw [← h2, ← hy, he]
    · rw [tl_mk]; exact hvs
  · refine ⟨_, Fs, RD.mk (k := PK.nnil t) (RD.hd (k := PK.imm (.slice t)) x) (RD.tl (k := PK.imm (.slice t)) x), hs, ?_, ⟨_, vs', rfl, ?_, ?_⟩, rfl, rfl, rfl⟩
    · rw [← h1, ← hy]
    · rw [hd_mk]; exact ⟨hv, a, n, c, rfl⟩
    · rw [tl_mk]; exact hvs
end
end Go.GG
