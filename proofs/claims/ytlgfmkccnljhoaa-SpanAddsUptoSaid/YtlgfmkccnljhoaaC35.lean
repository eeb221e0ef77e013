/- Functions of the model's own; a row of the caller's, whatever room its block has. -/
import Derived.Test.YtlgfmkccnljhoaaC34
import Derived.Laws.Externs
import Derived.Lib.Overlaps
import Derived.Lib.Bytealg
namespace Go.GG
open Go.RowKit
section
variable {P : Program}
theorem spec_own0 {f : FuncId} {t : T} {post : List PK} {rs : List RK} {F : Nat → RD PK.den (.own t :: post) → Option (RD RK.den rs)} {Fb : Nat → RD PK.den (.blk t :: post) → Option (RD RK.den rs)}
    (hb : SpecOk P f ⟨.blk t :: post, rs, Fb⟩)
    (h : ∀ k (xs : List t.den) (c : Nat) (r : RD PK.den post) y, xs.length ≤ c → F k (RD.mk (k := PK.own t) xs r) = some y → Fb k (RD.mk (k := PK.blk t) (xs, c) r) = some y) : SpecOk P f ⟨.own t :: post, rs, F⟩ := by
  have eta : ∀ (x : RD PK.den (.own t :: post)), x = RD.mk (k := PK.own t) (RD.hd (k := PK.own t) x) (RD.tl (k := PK.own t) x) := by
    intro x; cases post <;> rfl
  refine spec_via hb.1 fun k x y hy w ok vals hp => ?_
  obtain ⟨v, vs', rfl, hv, hvs⟩ := hp
  rw [eta x] at hy
  have hv : OwnRow w ok t (RD.hd (k := PK.own t) x) v := hv
  obtain ⟨A, c, rfl, hcl, _⟩ := own_form hv
  refine ⟨_, Fb, RD.mk (k := PK.blk t) (RD.hd (k := PK.own t) x, c) (RD.tl (k := PK.own t) x), hb, h k _ c _ y hcl hy, ⟨_, vs', rfl, ?_, ?_⟩, rfl, rfl, rfl⟩
  · rw [hd_mk]; exact ⟨A, rfl, hv⟩
  · rw [tl_mk]; exact hvs
/-! slices.overlaps: never, where the blocks are two and no string's bytes. -/
theorem run_overlaps {w : World} {tS tR e : TypeId} (ht : P.underlying tS = some (.slice e)) {size : Nat} (hz : ∀ w, (Go.sizeOf e).run P w = .ok size w) {A B : Option Addr} {la ca lb cb : Nat}
    (hA : ∀ a, A = some a → a.spot = none ∧ ∃ C e, w.heap[a.block]? = some (.cells C e (0, 0))) (hB : ∀ a, B = some a → a.spot = none ∧ ∃ C e, w.heap[a.block]? = some (.cells C e (0, 0)))
    (hne : ∀ a b, A = some a → B = some b → a.block ≠ b.block) :
    (Extern.SlicesOverlaps.overlaps #[tS, tS] #[tR] #[.slice A la ca, .slice B lb cb]).run P w = .ok (.bool false) w := by
  change Sem.run P (α := Value) (do
    let some t := (#[tS, tS] : Array TypeId)[0]? | stuck "slices.overlaps: no parameter types"
    let .slice elem ← underlying t | stuck "slices.overlaps: slice type expected"
    let size ← sizeOf elem
    match A, B with
    | some a, some b =>
      if la = 0 ∨ lb = 0 ∨ size = 0 then pure (Value.bool false)
      else if a.block != b.block && (← frozen a) && (← frozen b) then unsupported .addressObserved
      else do
        if a.block != b.block then do
          noView a; noView b
          if ← mayBeOne a b then return Value.bool ((← choose (.extern "sameAddr.stringBytes" 2)) == 1)
        pure (Value.bool (a.block == b.block && a.off < b.off + lb * size && b.off < a.off + la * size))
    | _, _ => pure (Value.bool false)) w = _
  cases A with
  | none => simp [run_underlying ht, hz]
  | some a => cases B with
    | none => simp [run_underlying ht, hz]
    | some b =>
      obtain ⟨_, C, e1, ha⟩ := hA a rfl
      obtain ⟨_, D, e2, hb⟩ := hB b rfl
      have hn := hne a b rfl rfl
      have hnb : (a.block != b.block) = true := by simpa using hn
      have hnb' : (a.block == b.block) = false := by simpa using hn
      have fa : ∀ o s, w.frozen? ⟨a.block, o, s⟩ = false := fun o s => by simp [World.frozen?, ha]
      have fb : ∀ o s, w.frozen? ⟨b.block, o, s⟩ = false := fun o s => by simp [World.frozen?, hb]
      have fa' : w.frozen? a = false := fa a.off a.spot
      have fb' : w.frozen? b = false := fb b.off b.spot
      have sa : w.shape? a.block = some (e1, C.size) := by simp [World.shape?, ha]
      have sb : w.shape? b.block = some (e2, D.size) := by simp [World.shape?, hb]
      by_cases h0 : la = 0 ∨ lb = 0 ∨ size = 0
      · simp [run_underlying ht, hz, h0]
      · simp [run_underlying ht, hz, h0, hnb, hnb', frozen, noView, viewAt, mayBeOne, stringish, shape, Sem.run, sa, sb, fa, fb]
def overlapsSpec : FSpec := ⟨[.view, .view], [.imm .bool], fun _ _ => some false⟩
theorem overlaps_ok {f : FuncId} {fn : Func} {tS tR e : TypeId} (hf : P.funcs[f]? = some fn) (hname : (fn.name == "runtime.NumGoroutine") = false) (hb : fn.body.isNone = true) (hn : Extern.findNext fn = none)
    (he : Extern.find fn = some (Extern.SlicesOverlaps.overlaps #[tS, tS] #[tR])) (ht : P.underlying tS = some (.slice e)) (hz : 0 < P.cellsOf e) : XSpec P f overlapsSpec := by
  refine ⟨rfl, by simp [overlapsSpec], ⟨_, rfl, rfl⟩, fun k x y hy w ok0 vals hok hp hnd => ?_⟩
  obtain ⟨v1, vs1, rfl, h1, v2, vs2, rfl, h2, h3⟩ := hp
  simp only [PReps] at h3; subst h3
  obtain ⟨A, n, c, rfl, hA⟩ := h1
  obtain ⟨B, n', c', rfl, hB⟩ := h2
  obtain rfl : false = y := Option.some.inj hy
  refine ⟨.bool false, ?_, ?_⟩
  · rw [run_callFunc_extern hf hname hb hn he]
    rw [run_overlaps ht (fun w => run_sizeOf' hz) (fun a ha => (hA a ha).2) (fun a ha => (hB a ha).2) ?_]
    · rfl
    · rintro a b rfl rfl hab
      simp only [overlapsSpec, vblocks, rowBlock] at hnd
      rw [hab] at hnd
      simp at hnd
  · exact ⟨_, _, rfl, rfl, rfl, rfl⟩
/-! bytealg's comparing of texts. -/
def strCmp (x y : List UInt8) : Int := cond (strLess x y) (-1) (cond (strLess y x) 1 0)
theorem compareBytes_eq : ∀ x y : List UInt8, Lib.compareBytes x y = strCmp x y
  | [], [] => rfl
  | [], _ :: _ => rfl
  | _ :: _, [] => rfl
  | a :: x, b :: y => by
    have ih := compareBytes_eq x y
    have e : ∀ (a b : UInt8) (x y : List UInt8), strLess (a :: x) (b :: y) = (decide (a < b) || (a == b && strLess x y)) := fun _ _ _ _ => rfl
    unfold strCmp at ih ⊢
    simp only [Lib.compareBytes, e]
    by_cases h1 : a < b
    · simp [h1]
    · by_cases h2 : b < a
      · have hab : a ≠ b := fun e => by subst e; exact h1 h2
        have hab' : (a == b) = false := by simpa using hab
        simp [h1, h2, hab']
      · have hab : a = b := UInt8.le_antisymm (UInt8.not_lt.1 h2) (UInt8.not_lt.1 h1)
        subst hab
        simp [h1, ih]
def cmpSpec : FSpec := ⟨[.ext .str, .ext .str], [.imm (.int .i64)], fun _ x => some (strCmp x.1 x.2)⟩
theorem cmp_ok {f : FuncId} {fn : Func} (hf : P.funcs[f]? = some fn) (hname : (fn.name == "runtime.NumGoroutine") = false) (hb : fn.body.isNone = true) (hn : Extern.findNext fn = none)
    (he : Extern.find fn = some Extern.BytealgCompare.compare) : XSpec P f cmpSpec := by
  refine ⟨rfl, by simp [cmpSpec], ⟨_, rfl, rfl⟩, fun k x y hy w ok0 vals hok hp hnd => ?_⟩
  obtain ⟨v1, vs1, rfl, h1, v2, vs2, rfl, h2, h3⟩ := hp
  simp only [PReps] at h3; subst h3
  have e1 := rep_str (P := P) (m := fun _ => none) h1
  have e2 := rep_str (P := P) (m := fun _ => none) h2
  subst e1 e2
  obtain rfl : strCmp x.1 x.2 = y := Option.some.inj hy
  refine ⟨.int .i64 (strCmp x.1 x.2), ?_, ?_⟩
  · rw [run_callFunc_extern hf hname hb hn he, Lib.run_compareString, compareBytes_eq]
    rfl
  · exact ⟨_, _, rfl, rfl, rfl, rfl⟩
end
/-! What slices.Insert (of one element) and slices.Delete come to. -/
def insertF {α : Type} (b : Nat) (xs : List α) (i : Int) (vs : List α) : Option (List α) :=
  cond (decide (0 ≤ i) && decide (i ≤ xs.length) && Nat.beq vs.length 1 && room (xs.length + vs.length) b) (some (xs.take i.toNat ++ vs ++ xs.drop i.toNat)) none
def deleteF {α : Type} (xs : List α) (i j : Int) : Option (List α) :=
  cond (decide (0 ≤ i) && decide (i ≤ j) && decide (j ≤ xs.length)) (some (xs.take i.toNat ++ xs.drop j.toNat)) none
end Go.GG
