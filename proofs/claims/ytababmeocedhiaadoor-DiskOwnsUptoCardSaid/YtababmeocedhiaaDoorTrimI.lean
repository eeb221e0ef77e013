/- strings.Trim at a set of ASCII letters: over the shelf's contract. -/
import Derived.Test.YtababmeocedhiaaDoorK5
import Derived.Shelf.Strings.SlTrimAscii
namespace Go.GG
open Go.RowKit Go.Shelf Go.Proofs
def trimF (s cs : List UInt8) : Option (List UInt8) := cond (decide (s.length ≤ 9223372036854775807) && (decide (cs.length < 4294967281) && cs.all fun b => decide (b.toNat < 128))) (some (Lib.trimS s cs)) none
def trimSpec : FSpec := ⟨[.imm .str, .imm .str], [.imm .str], fun _ x => trimF x.1 x.2⟩
theorem trim_ok [Tabs] {P : Program} {ρ : Ren} (L : Lays.n160 P ρ) (h116 : (P.info? (ρ.t 116)).map (fun i => (i.zero, i.size)) = some (some (.agg (Array.replicate 256 (.bool false))), 256)) (hr : Runs P (ρ.f 160)) : SpecOk P (ρ.f 160) trimSpec := by
  refine ⟨hr, ?_⟩
  intro k x (y : List UInt8) hF w ok0 vals hok _ hp _ _
  obtain ⟨s, cs⟩ := x
  replace hF : trimF s cs = some y := hF
  unfold trimF at hF
  cases hc : (decide (s.length ≤ 9223372036854775807) && (decide (cs.length < 4294967281) && cs.all fun b => decide (b.toNat < 128))) with
  | false => rw [hc] at hF; cases hF
  | true =>
  rw [hc] at hF
  simp only [cond_true, Option.some.injEq] at hF
  subst hF
  simp only [Bool.and_eq_true, decide_eq_true_eq] at hc
  obtain ⟨h1, h2, h3⟩ := hc
  obtain ⟨v1, vs, rfl, hv1, v2, vs', rfl, hv2, hn⟩ := hp
  simp only [PReps] at hn; subst hn
  have e1 : v1 = .string ⟨s.toArray⟩ := by
    have h : [v1] = [Value.string ⟨s.toArray⟩] := hv1
    simpa using h
  have e2 : v2 = .string ⟨cs.toArray⟩ := by
    have h : [v2] = [Value.string ⟨cs.toArray⟩] := hv2
    simpa using h
  subst e1; subst e2
  refine (Any.strings_Trim_laid L h116 ⟨s.toArray⟩ ⟨cs.toArray⟩ w (by simpa [ByteArray.size] using h1) (by simpa [ByteArray.size] using h2) (fun j b hj => ?_)).mono ?_
  · have : b ∈ cs := List.mem_of_getElem? (by simpa using hj)
    exact of_decide_eq_true (List.all_eq_true.1 h3 b this)
  · rintro e w' ⟨rfl, hb⟩
    refine ⟨[.string ⟨(Lib.trimS s cs).toArray⟩], rfl, Goes.of_below hb, List.nodup_nil, by simp [rblocks, trimSpec], ?_⟩
    exact ⟨_, [], rfl, rfl, rfl, rfl⟩
end Go.GG
