/- A part of our own proof. -/
import Derived.Test.YtlhifcknhgmidaaGreatDoorK5
import Derived.Shelf.Strconv.Atoi
import Derived.Shelf.Strings.Repeat
import Derived.Lib.SmallJoins
namespace Go.GG
open Go.Shelf Go.RowKit Go.Proofs
def zW7 (s : List UInt8) : Option (Int × Unit) := cond (decide (s.length ≤ 18)) ((Lib.atoi s).map fun n => (n, ())) none
def yDe : zF := ⟨[.imm .str], [.imm (.int .i64), .nili], fun _ x => zW7 x⟩
theorem yUi [yF] {P : Program} {ρ : Ren} (L : Lays.n172 P ρ) (hr : zOv P (ρ.f 172)) : zZ P (ρ.f 172) yDe := by
 refine ⟨hr, ?_⟩
 intro k (x : List UInt8) (y : Int × Unit) hF w ok0 vals hok htb hp _ _
 replace hF : zW7 x = some y := hF
 unfold zW7 at hF
 cases hc : decide (x.length ≤ 18) with
 | false => rw [hc] at hF; cases hF
 | true =>
 rw [hc] at hF
 simp only [cond_true, Option.map_eq_some_iff] at hF
 obtain ⟨n, hn, rfl⟩ := hF
 obtain ⟨v, vs, rfl, hv, hvs⟩ := hp
 obtain rfl : vs = [] := hvs
 have hv : v = .string ⟨x.toArray⟩ := by
  have h : [v] = [Value.string ⟨x.toArray⟩] := hv
  simpa using h
 subst hv
 refine (Any.strconv_Atoi L ⟨x.toArray⟩ n (by simpa [ByteArray.size] using of_decide_eq_true hc) (by simpa using hn) w).mono ?_
 rintro e w' ⟨rfl, t, rfl⟩
 exact ⟨[.int .i64 n, .nilIface], rfl, jT.of_below (Go.Joins.below_bytesWorld _ _ _ _ (Nat.le_refl _)), List.nodup_nil, by simp [yC, yDe], ⟨_, _, rfl, rfl, ⟨_, [], rfl, rfl, rfl, rfl⟩⟩⟩
def zOg (s : List UInt8) (n : Int) : Option (List UInt8) := cond (decide (0 ≤ n) && decide (n ≤ 1000) && decide (s.length ≤ 1000000)) (some (Lib.repeatL s n.toNat)) none
def zWt : zF := ⟨[.imm .str, .imm (.int .i64)], [.imm .str], fun _ x => zOg x.1 x.2⟩
theorem yR8 [yF] {P : Program} {ρ : Ren} (L : Lays.n105 P ρ) (X : Builder.Extra P ρ) (hr : zOv P (ρ.f 105)) : zZ P (ρ.f 105) zWt := by
 refine ⟨hr, ?_⟩
 intro k (x : List UInt8 × Int) (y : List UInt8) hF w ok0 vals hok _ hp _ _
 obtain ⟨s, n⟩ := x
 replace hF : zOg s n = some y := hF
 unfold zOg at hF
 cases hc : (decide (0 ≤ n) && decide (n ≤ 1000) && decide (s.length ≤ 1000000)) with
 | false => rw [hc] at hF; cases hF
 | true =>
 rw [hc] at hF
 simp only [cond_true, Option.some.injEq] at hF
 subst hF
 simp only [Bool.and_eq_true, decide_eq_true_eq] at hc
 obtain ⟨⟨h1, h2⟩, h3⟩ := hc
 obtain ⟨v1, vs, rfl, hv1, v2, vs', rfl, hv2, hn⟩ := hp
 simp only [zJj] at hn; subst hn
 have e1 : v1 = .string ⟨s.toArray⟩ := by
  have h : [v1] = [Value.string ⟨s.toArray⟩] := hv1
  simpa using h
 have e2 : v2 = .int .i64 (n.toNat : Int) := by
  have h : [v2] = [Value.int .i64 n] := hv2
  simp only [List.cons.injEq, and_true] at h
  rw [h]; congr 1; omega
 subst e1; subst e2
 refine (Any.strings_Repeat L X ⟨s.toArray⟩ n.toNat w (by omega) (by
  have : (ByteArray.mk s.toArray).size = s.length := by simp [ByteArray.size]
  rw [this]
  have h5 : s.length * n.toNat ≤ 1000000 * 1000 := Nat.mul_le_mul h3 (by omega)
  omega)).mono ?_
 rintro e w' ⟨rfl, hb⟩
 refine ⟨[.string ⟨(Lib.repeatL s n.toNat).toArray⟩], by simp [zW3], jT.of_below hb, List.nodup_nil, by simp [yC, zWt], ?_⟩
 exact ⟨_, [], rfl, rfl, rfl, rfl⟩
abbrev zF5 : T := .pair .str (.pair (.slice (.int .u8)) (.int .i64))
end Go.GG
