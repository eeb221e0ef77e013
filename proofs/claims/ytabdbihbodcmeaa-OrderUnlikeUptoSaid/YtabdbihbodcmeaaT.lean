/- Orders: what bounds and well-formedness of an input say. -/
import Derived.Test.YtabdbihbodcmeaaX
open Go Go.GG
set_option linter.unusedVariables false
set_option linter.unusedSimpArgs false
namespace Go.Proofs.Ytabdbihbodcmeaa.gg
def orT : T := .pair (.int .i64) (.pair (.pair (.int .i64) (.int .u64)) (.pair (.pair (.int .i64) (.pair (.slice .str) (.pair (.int .u64) (.int .i64)))) (.pair (.slice (.int .i64)) (.pair (.int .i64) (.pair (.int .i64) (.pair (.int .u64) (.pair .bool (.pair (.pair (.int .u64) (.pair (.pair .str .str) (.pair (.int .i64) (.pair (.int .i64) (.int .i64))))) (.pair (.pair (.int .u64) (.pair (.pair .str .str) (.pair (.slice (.pair .str (.pair (.int .u64) (.int .i64)))) (.slice (.pair .str (.int .u64)))))) (.pair .str (.int .i64)))))))))))
theorem u_of {n : Int} (h : IntKind.u64.min ≤ n ∧ n ≤ IntKind.u64.max) : U64 n := ⟨h.1, Int.lt_add_one_of_le h.2⟩
theorem sz_bulk (o : Or) (h : T.bulk orT o ≤ 1048576) : Sz o := by
  have b1 := bulk_slice (t := .str) o.2.2.1.2.1
  have b2 := bulk_slice (t := .int .i64) o.2.2.2.1
  have b3 := bulk_slice (t := .pair .str (.pair (.int .u64) (.int .i64))) o.2.2.2.2.2.2.2.2.2.1.2.2.1
  have b4 := bulk_slice (t := .pair .str (.int .u64)) o.2.2.2.2.2.2.2.2.2.1.2.2.2
  have h3 : 1 + ((1 + 1) + ((1 + ((T.slice .str).bulk o.2.2.1.2.1 + (1 + 1))) + ((T.slice (.int .i64)).bulk o.2.2.2.1 + (1 + (1 + (1 + (1 + ((1 + ((T.bulk .str o.2.2.2.2.2.2.2.2.1.2.1.1 + T.bulk .str o.2.2.2.2.2.2.2.2.1.2.1.2) + (1 + (1 + 1)))) +
    ((1 + ((T.bulk .str o.2.2.2.2.2.2.2.2.2.1.2.1.1 + T.bulk .str o.2.2.2.2.2.2.2.2.2.1.2.1.2) + ((T.slice (.pair .str (.pair (.int .u64) (.int .i64)))).bulk o.2.2.2.2.2.2.2.2.2.1.2.2.1 + (T.slice (.pair .str (.int .u64))).bulk o.2.2.2.2.2.2.2.2.2.1.2.2.2))) + (T.bulk .str o.2.2.2.2.2.2.2.2.2.2.1 + 1)))))))))) ≤ 1048576 := h
  exact ⟨by omega, by omega, by omega, by omega⟩
theorem wf_of (o : Or) (h : T.wf orT o) : Wf o := by
  have h2 : (IntKind.i64.min ≤ o.1 ∧ o.1 ≤ IntKind.i64.max) ∧ (T.wf (.pair (.int .i64) (.int .u64)) o.2.1) ∧ (T.wf (.pair (.int .i64) (.pair (.slice .str) (.pair (.int .u64) (.int .i64)))) o.2.2.1) ∧ (T.wf (.slice (.int .i64)) o.2.2.2.1) ∧ (T.wf (.int .i64) o.2.2.2.2.1) ∧ (T.wf (.int .i64) o.2.2.2.2.2.1) ∧ (T.wf (.int .u64) o.2.2.2.2.2.2.1) ∧ True ∧
    (T.wf (.pair (.int .u64) (.pair (.pair .str .str) (.pair (.int .i64) (.pair (.int .i64) (.int .i64))))) o.2.2.2.2.2.2.2.2.1) ∧ (T.wf (.pair (.int .u64) (.pair (.pair .str .str) (.pair (.slice (.pair .str (.pair (.int .u64) (.int .i64)))) (.slice (.pair .str (.int .u64)))))) o.2.2.2.2.2.2.2.2.2.1) ∧ True ∧ (T.wf (.int .i64) o.2.2.2.2.2.2.2.2.2.2.2) := h
  obtain ⟨_, a2, a3, _, _, _, a7, _, a9, a10, _, _⟩ := h2
  exact ⟨u_of a2.2, u_of a3.2.2.1, u_of a7, u_of a9.1, u_of a10.1, fun x hx => u_of (a10.2.2.1 x hx).2.1, fun x hx => u_of (a10.2.2.2 x hx).2⟩
theorem law_OrderCodes' (o : Or) (hw : T.wf orT o) (hb : T.bulk orT o ≤ 1048576) : ∃ k, law22_OrderCodes k o = some true := law_OrderCodes o (sz_bulk o hb) (wf_of o hw)
theorem law_OrderUnlike' (a b : Or) (ha : T.wf orT a) (hb : T.wf orT b) (h1 : T.bulk orT a ≤ 1048576) (h2 : T.bulk orT b ≤ 1048576) : ∃ k, law22_OrderUnlike k a b = some true :=
  law_OrderUnlike a b (sz_bulk a h1) (sz_bulk b h2) (wf_of a ha) (wf_of b hb)
end Go.Proofs.Ytabdbihbodcmeaa.gg
