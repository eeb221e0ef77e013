/- The tables that a row lists stand when the call begins. -/
import Derived.Test.YtababmeocedhiaaDoorK5
import Derived.Lib.LaidTab
namespace Go.GG
open Go.RowKit
def tabsOf : List (Nat × IntKind × List Int) → Nat → Option (IntKind × List Int)
  | [], _ => none
  | (i, x) :: r, g => cond (Nat.beq i g) (some x) (tabsOf r g)
theorem tabsOf_mem : ∀ {l : List (Nat × IntKind × List Int)} {g : Nat} {k : IntKind} {zs : List Int}, tabsOf l g = some (k, zs) → (g, k, zs) ∈ l
  | [], _, _, _, h => by simp [tabsOf] at h
  | (i, x) :: r, g, k, zs, h => by
    simp only [tabsOf] at h
    cases hb : Nat.beq i g with
    | true =>
      rw [hb] at h
      simp only [cond_true, Option.some.injEq] at h
      rw [← Nat.eq_of_beq_eq_true hb, ← h]
      exact List.mem_cons_self ..
    | false =>
      rw [hb] at h
      exact List.mem_cons_of_mem _ (tabsOf_mem h)
theorem laidVars_mem {P : Program} {w : World} : ∀ {l : List (String × DataW Unit)} {ps : List MemPlace}, DataW.LaidVars P w l ps → ∀ {n : String} {d : DataW Unit}, (n, d) ∈ l →
    ∃ g t cs fuel p, P.globalNamed n = some g ∧ (P.globals[g]?).map (·.type) = some t ∧ w.var? P n = some cs ∧ DataW.trod (fun _ => ()) P w 0 (fun _ => true) false fuel t cs.toList = some (d, p)
  | [], _, _, _, _, h => by simp at h
  | (n, d) :: r, ps, hv, n', d', h => by
    obtain ⟨g, t, cs, fuel, p, q, h1, h2, h3, h4, h5, _⟩ := hv
    rcases List.mem_cons.1 h with e | h
    · cases e; exact ⟨g, t, cs, fuel, p, h1, h2, h3, h4⟩
    · exact laidVars_mem h5 h
theorem tabIs_mem {P : Program} {W : World} {laid : List (String × DataW Unit)} {name : String} {d : DataW Unit} {k : IntKind} {zs : List Int} {g : Nat} {t e : TypeId} {n : Nat} (h : laidMetH P laid W) (hno : (laid.filter fun x => x.2.handleName?.isSome) = [])
    (hm : (name, d) ∈ laid) (hd : d = Lib.tabData k zs) (hg : P.globalNamed name = some g) (hty : (P.globals[g]?).map (·.type) = some t) (ht : P.underlying t = some (.array n e)) (he : P.underlying e = some (.int k)) (hce : P.cellsOf e = 1) (hct : P.cellsOf t = n) :
    Lib.TabIs P W name k zs := by
  unfold laidMetH at h
  rw [hno] at h
  obtain ⟨ps, hv, _⟩ := h
  obtain ⟨g', t', cs, fuel, p, hg', ht', hvar, htr⟩ := laidVars_mem hv hm
  obtain rfl := Option.some.inj (hg.symm.trans hg')
  obtain rfl := Option.some.inj (hty.symm.trans ht')
  unfold Lib.TabIs
  rw [hvar, ← Lib.cells_of_tab ht he hce hct (hd ▸ htr)]
theorem tab_stands {P : Program} {W : World} {name : String} {k : IntKind} {zs : List Int} {g : Nat} (hg : P.globalNamed name = some g) (h : Lib.TabIs P W name k zs) : okAll W g ∧ ∃ e fr, W.heap[g]? = some (.cells (zs.map (Value.int k)).toArray e fr) := by
  unfold Lib.TabIs World.var? at h
  rw [hg] at h
  simp only [Option.bind_some] at h
  split at h
  · rename_i cs e fr hc
    simp only [Option.some.injEq] at h
    subst h
    refine ⟨?_, e, fr, hc⟩
    rw [Array.getElem?_eq_some_iff] at hc
    exact hc.1
  · cases h
end Go.GG
