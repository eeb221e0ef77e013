/- Orders' bytes by the second reading; which order any bytes are. -/
import Derived.Test.YtabdbihbodcmeaaB
open Go Go.GG
set_option linter.unusedVariables false
set_option linter.unusedSimpArgs false
namespace Go.Proofs.Ytabdbihbodcmeaa.gg
theorem U64.len {n : Int} (h : U64 n) : (putU n.toNat).length ≤ 10 := putU_len10 (by obtain ⟨_, _⟩ := h; omega)
theorem rb10 (v : Fl) (b : List Int) (hb : b.length ≤ 100000000) (h : ∀ s ∈ v.2.2.2.2.1, s.length ≤ 64) (hl : v.2.2.2.2.1.length ≤ 16) : ref22_Bytes_p10' 0 v b = some (v, b ++ strsF v.2.2.2.2.1) := by
  generalize hg : v.2.2.2.2.1 = g at *
  have key := fold_loop g (fun s n => s ++ strF n) b (fun i s => ref22_Bytes_p10' (i : Int) v s) (out := fun s => some (v, s)) (fun i hi => by
    try dsimp only
    rw [fold_flat]
    have h1 := fold_part strF 74 (fun n hn => strF_len (h n hn)) (by omega) i
    have h2 := h g[i] (List.getElem_mem hi)
    rw [ref22_Bytes_p10_eq, hg, decide_eq_true (by omega : (i : Int) < (g.length : Int)), at?_lt hi, wrap_succ (by omega)]
    simp only [cond_true, Option.bind_some]
    rw [rtext_eq _ _ (by rw [List.length_append]; omega) h2]
    rfl) (by
    try dsimp only
    rw [ref22_Bytes_p10_eq, hg, decide_eq_false (by omega)]; rfl)
  simp only [show ((0 : Nat) : Int) = 0 from rfl, fold_flat] at key
  exact key
theorem rb27 (v : Fl) (b : List Int) (hb : b.length ≤ 100000000) (h : ∀ n ∈ v.2.2.2.2.2.2.2.1, U64 n) (hl : v.2.2.2.2.2.2.2.1.length ≤ 16) : ref22_Bytes_p27' 0 v b = some (v, b ++ putsF v.2.2.2.2.2.2.2.1) := by
  generalize hg : v.2.2.2.2.2.2.2.1 = g at *
  have key := fold_loop g (fun s n => s ++ putU n.toNat) b (fun i s => ref22_Bytes_p27' (i : Int) v s) (out := fun s => some (v, s)) (fun i hi => by
    try dsimp only
    rw [fold_flat]
    have h1 := fold_part (fun n : Int => putU n.toNat) 10 (fun n hn => (h n hn).len) (by omega) i
    have h2 := h g[i] (List.getElem_mem hi)
    rw [ref22_Bytes_p27_eq, hg, decide_eq_true (by omega : (i : Int) < (g.length : Int)), at?_lt hi, wrap_succ (by omega)]
    simp only [cond_true, Option.bind_some]
    rw [u64_of h2, rput_eq _ _ (by rw [List.length_append]; omega) h2]
    rfl) (by
    try dsimp only
    rw [ref22_Bytes_p27_eq, hg, decide_eq_false (by omega)]; rfl)
  simp only [show ((0 : Nat) : Int) = 0 from rfl, fold_flat] at key
  exact key
theorem rb40 (v : Fl) (b : List Int) (hb : b.length ≤ 100000000) : ref22_Bytes_p40' v b = some (v, b ++ putU (bif v.2.2.2.2.2.2.2.2.2.2.2.1 then (1 : Int) else 0).toNat) := by
  unfold ref22_Bytes_p40'
  rw [rput_eq _ _ (by omega) ⟨by decide, by decide⟩, rput_eq _ _ (by omega) ⟨by decide, by decide⟩]
  cases v.2.2.2.2.2.2.2.2.2.2.2.1 <;> rfl
theorem rb62 (v : Fl) (b : List Int) (q : Int × Str × Str × List Hl × List Mk) (hb : b.length ≤ 100000000) (h : ∀ h ∈ q.2.2.2.1, h.1.length ≤ 64 ∧ U64 h.2.1 ∧ U64 h.2.2) (hl : q.2.2.2.1.length ≤ 256) : ref22_Bytes_p62' 0 v b q = some (v, b ++ q.2.2.2.1.flatMap hlF, q) := by
  generalize hg : q.2.2.2.1 = g at *
  have key := fold_loop g (fun s n => s ++ hlF n) b (fun i s => ref22_Bytes_p62' (i : Int) v s q) (out := fun s => some (v, s, q)) (fun i hi => by
    try dsimp only
    rw [fold_flat]
    have h1 := fold_part hlF 94 (fun n hn => hlF_len (h n hn)) (by omega) i
    obtain ⟨h2, h3, h4⟩ := h g[i] (List.getElem_mem hi)
    have h5 := strF_len h2
    have h6 := h3.len
    rw [ref22_Bytes_p62_eq, hg, decide_eq_true (by omega : (i : Int) < (g.length : Int)), at?_lt hi, wrap_succ (by omega)]
    simp only [cond_true, Option.bind_some]
    rw [u64_of h4, rtext_eq _ _ (by rw [List.length_append]; omega) h2]
    simp only [Option.bind_some]
    rw [rput_eq _ _ (by simp only [List.length_append]; omega) h3]
    simp only [Option.bind_some]
    rw [rput_eq _ _ (by simp only [List.length_append]; omega) h4]
    simp only [Option.bind_some, hlF, List.append_assoc]) (by
    try dsimp only
    rw [ref22_Bytes_p62_eq, hg, decide_eq_false (by omega)]; rfl)
  simp only [show ((0 : Nat) : Int) = 0 from rfl, fold_flat] at key
  exact key
theorem rb79 (v : Fl) (b : List Int) (q : Int × Str × Str × List Hl × List Mk) (hb : b.length ≤ 100000000) (h : ∀ m ∈ q.2.2.2.2, m.1.length ≤ 64 ∧ U64 m.2) (hl : q.2.2.2.2.length ≤ 256) : ref22_Bytes_p79' 0 v b q = some (v, b ++ q.2.2.2.2.flatMap mkF) := by
  generalize hg : q.2.2.2.2 = g at *
  have key := fold_loop g (fun s n => s ++ mkF n) b (fun i s => ref22_Bytes_p79' (i : Int) v s q) (out := fun s => some (v, s)) (fun i hi => by
    try dsimp only
    rw [fold_flat]
    have h1 := fold_part mkF 84 (fun n hn => mkF_len (h n hn)) (by omega) i
    obtain ⟨h2, h3⟩ := h g[i] (List.getElem_mem hi)
    have h5 := strF_len h2
    rw [ref22_Bytes_p79_eq, hg, decide_eq_true (by omega : (i : Int) < (g.length : Int)), at?_lt hi, wrap_succ (by omega)]
    simp only [cond_true, Option.bind_some]
    rw [rtext_eq _ _ (by rw [List.length_append]; omega) h2]
    simp only [Option.bind_some]
    rw [rput_eq _ _ (by simp only [List.length_append]; omega) h3]
    simp only [Option.bind_some, mkF, List.append_assoc]) (by
    try dsimp only
    rw [ref22_Bytes_p79_eq, hg, decide_eq_false (by omega)]; rfl)
  simp only [show ((0 : Nat) : Int) = 0 from rfl, fold_flat] at key
  exact key
theorem refBytes_all (o : Or) (hf : Fits o) : ref22_Bytes' o = some (orC.enc o) := by
  rw [← bytes_enc]
  obtain ⟨f1, f2, f3, f4, f5, f6, f7, f8, f9, f10, f11, f12, f13, f14, f15, f16, f17, f18, f19, f20, f21, f22, f23, f24, f25, f26, f27, f28⟩ := hf
  obtain ⟨kind, ⟨client, seq⟩, ⟨ck, keys, tok, ttl⟩, groups, group, code, token, take, ⟨pid, ⟨pf, pt⟩, pfrom, pto, pstep⟩, ⟨qplan, ⟨qf, qt⟩, holds, marks⟩, key, n⟩ := o
  simp only at f1 f2 f3 f4 f5 f6 f7 f8 f9 f10 f11 f12 f13 f14 f15 f16 f17 f18 f19 f20 f21 f22 f23 f24 f25 f26 f27 f28
  have b1 := putsF_len groups f9
  have b2 := strsF_len keys f5
  have b3 := flat_le hlF 94 holds fun x hx => hlF_len (f23 x hx)
  have b4 := flat_le mkF 84 marks fun x hx => mkF_len (f25 x hx)
  have c1 := strF_len f15
  have c2 := strF_len f16
  have c3 := strF_len f21
  have c4 := strF_len f22
  have c5 := strF_len f27
  have u1 := nat_u64 (n := keys.length) (by omega)
  have u2 := nat_u64 (n := groups.length) (by omega)
  have u3 := nat_u64 (n := holds.length) (by omega)
  have u4 := nat_u64 (n := marks.length) (by omega)
  have ut : U64 (bif take then (1 : Int) else 0) := by cases take <;> exact ⟨by decide, by decide⟩
  have d1 := f1.len
  have d2 := f2.len
  have d3 := f3.len
  have d4 := f4.len
  have d7 := f7.len
  have d8 := f8.len
  have d11 := f11.len
  have d12 := f12.len
  have d13 := f13.len
  have d14 := f14.len
  have d17 := f17.len
  have d18 := f18.len
  have d19 := f19.len
  have d20 := f20.len
  have d28 := f28.len
  have e1 := u1.len
  have e2 := u2.len
  have e3 := u3.len
  have e4 := u4.len
  have et := ut.len
  unfold ref22_Bytes'
  simp only [Int.reduceBEq, w0, w1, w2, w3, w4, w5, w6, w7, w8, w9, w10, w11, w12, w13, w14, w15, w16, u64_of f1, u64_of f2, u64_of f4, u64_of f8, u64_of f11, u64_of f12, u64_of f17, u64_of f18, u64_of f19, u64_of f28, u64_of u1, u64_of u2, u64_of u3, u64_of u4]
  rw [rput_eq _ _ (by simp only [List.length_append, List.length_nil]; omega) f1]
  simp only [Int.reduceBEq, w0, w1, w2, w3, w4, w5, w6, w7, w8, w9, w10, w11, w12, w13, w14, w15, w16, u64_of f1, u64_of f2, u64_of f4, u64_of f8, u64_of f11, u64_of f12, u64_of f17, u64_of f18, u64_of f19, u64_of f28, u64_of u1, u64_of u2, u64_of u3, u64_of u4]
  rw [rput_eq _ _ (by simp only [List.length_append, List.length_nil]; omega) f2]
  simp only [Int.reduceBEq, w0, w1, w2, w3, w4, w5, w6, w7, w8, w9, w10, w11, w12, w13, w14, w15, w16, u64_of f1, u64_of f2, u64_of f4, u64_of f8, u64_of f11, u64_of f12, u64_of f17, u64_of f18, u64_of f19, u64_of f28, u64_of u1, u64_of u2, u64_of u3, u64_of u4]
  rw [rput_eq _ _ (by simp only [List.length_append, List.length_nil]; omega) f3]
  simp only [Int.reduceBEq, w0, w1, w2, w3, w4, w5, w6, w7, w8, w9, w10, w11, w12, w13, w14, w15, w16, u64_of f1, u64_of f2, u64_of f4, u64_of f8, u64_of f11, u64_of f12, u64_of f17, u64_of f18, u64_of f19, u64_of f28, u64_of u1, u64_of u2, u64_of u3, u64_of u4]
  rw [rput_eq _ _ (by simp only [List.length_append, List.length_nil]; omega) f4]
  simp only [Int.reduceBEq, w0, w1, w2, w3, w4, w5, w6, w7, w8, w9, w10, w11, w12, w13, w14, w15, w16, u64_of f1, u64_of f2, u64_of f4, u64_of f8, u64_of f11, u64_of f12, u64_of f17, u64_of f18, u64_of f19, u64_of f28, u64_of u1, u64_of u2, u64_of u3, u64_of u4]
  rw [rput_eq _ _ (by simp only [List.length_append, List.length_nil]; omega) u1]
  simp only [Int.reduceBEq, w0, w1, w2, w3, w4, w5, w6, w7, w8, w9, w10, w11, w12, w13, w14, w15, w16, u64_of f1, u64_of f2, u64_of f4, u64_of f8, u64_of f11, u64_of f12, u64_of f17, u64_of f18, u64_of f19, u64_of f28, u64_of u1, u64_of u2, u64_of u3, u64_of u4]
  rw [rb10 _ _ (by simp only [List.length_append, List.length_nil]; omega) f5 f6]
  simp only [Int.reduceBEq, w0, w1, w2, w3, w4, w5, w6, w7, w8, w9, w10, w11, w12, w13, w14, w15, w16, u64_of f1, u64_of f2, u64_of f4, u64_of f8, u64_of f11, u64_of f12, u64_of f17, u64_of f18, u64_of f19, u64_of f28, u64_of u1, u64_of u2, u64_of u3, u64_of u4]
  rw [rput_eq _ _ (by simp only [List.length_append, List.length_nil]; omega) f7]
  simp only [Int.reduceBEq, w0, w1, w2, w3, w4, w5, w6, w7, w8, w9, w10, w11, w12, w13, w14, w15, w16, u64_of f1, u64_of f2, u64_of f4, u64_of f8, u64_of f11, u64_of f12, u64_of f17, u64_of f18, u64_of f19, u64_of f28, u64_of u1, u64_of u2, u64_of u3, u64_of u4]
  rw [rput_eq _ _ (by simp only [List.length_append, List.length_nil]; omega) f8]
  simp only [Int.reduceBEq, w0, w1, w2, w3, w4, w5, w6, w7, w8, w9, w10, w11, w12, w13, w14, w15, w16, u64_of f1, u64_of f2, u64_of f4, u64_of f8, u64_of f11, u64_of f12, u64_of f17, u64_of f18, u64_of f19, u64_of f28, u64_of u1, u64_of u2, u64_of u3, u64_of u4]
  rw [rput_eq _ _ (by simp only [List.length_append, List.length_nil]; omega) u2]
  simp only [Int.reduceBEq, w0, w1, w2, w3, w4, w5, w6, w7, w8, w9, w10, w11, w12, w13, w14, w15, w16, u64_of f1, u64_of f2, u64_of f4, u64_of f8, u64_of f11, u64_of f12, u64_of f17, u64_of f18, u64_of f19, u64_of f28, u64_of u1, u64_of u2, u64_of u3, u64_of u4]
  rw [rb27 _ _ (by simp only [List.length_append, List.length_nil]; omega) f9 f10]
  simp only [Int.reduceBEq, w0, w1, w2, w3, w4, w5, w6, w7, w8, w9, w10, w11, w12, w13, w14, w15, w16, u64_of f1, u64_of f2, u64_of f4, u64_of f8, u64_of f11, u64_of f12, u64_of f17, u64_of f18, u64_of f19, u64_of f28, u64_of u1, u64_of u2, u64_of u3, u64_of u4]
  rw [rput_eq _ _ (by simp only [List.length_append, List.length_nil]; omega) f11]
  simp only [Int.reduceBEq, w0, w1, w2, w3, w4, w5, w6, w7, w8, w9, w10, w11, w12, w13, w14, w15, w16, u64_of f1, u64_of f2, u64_of f4, u64_of f8, u64_of f11, u64_of f12, u64_of f17, u64_of f18, u64_of f19, u64_of f28, u64_of u1, u64_of u2, u64_of u3, u64_of u4]
  rw [rput_eq _ _ (by simp only [List.length_append, List.length_nil]; omega) f12]
  simp only [Int.reduceBEq, w0, w1, w2, w3, w4, w5, w6, w7, w8, w9, w10, w11, w12, w13, w14, w15, w16, u64_of f1, u64_of f2, u64_of f4, u64_of f8, u64_of f11, u64_of f12, u64_of f17, u64_of f18, u64_of f19, u64_of f28, u64_of u1, u64_of u2, u64_of u3, u64_of u4]
  rw [rput_eq _ _ (by simp only [List.length_append, List.length_nil]; omega) f13]
  simp only [Int.reduceBEq, w0, w1, w2, w3, w4, w5, w6, w7, w8, w9, w10, w11, w12, w13, w14, w15, w16, u64_of f1, u64_of f2, u64_of f4, u64_of f8, u64_of f11, u64_of f12, u64_of f17, u64_of f18, u64_of f19, u64_of f28, u64_of u1, u64_of u2, u64_of u3, u64_of u4]
  rw [rb40 _ _ (by simp only [List.length_append, List.length_nil]; omega)]
  simp only [Int.reduceBEq, w0, w1, w2, w3, w4, w5, w6, w7, w8, w9, w10, w11, w12, w13, w14, w15, w16, u64_of f1, u64_of f2, u64_of f4, u64_of f8, u64_of f11, u64_of f12, u64_of f17, u64_of f18, u64_of f19, u64_of f28, u64_of u1, u64_of u2, u64_of u3, u64_of u4]
  rw [rput_eq _ _ (by simp only [List.length_append, List.length_nil]; omega) f14]
  simp only [Int.reduceBEq, w0, w1, w2, w3, w4, w5, w6, w7, w8, w9, w10, w11, w12, w13, w14, w15, w16, u64_of f1, u64_of f2, u64_of f4, u64_of f8, u64_of f11, u64_of f12, u64_of f17, u64_of f18, u64_of f19, u64_of f28, u64_of u1, u64_of u2, u64_of u3, u64_of u4]
  rw [rtext_eq _ _ (by simp only [List.length_append, List.length_nil]; omega) f15]
  simp only [Int.reduceBEq, w0, w1, w2, w3, w4, w5, w6, w7, w8, w9, w10, w11, w12, w13, w14, w15, w16, u64_of f1, u64_of f2, u64_of f4, u64_of f8, u64_of f11, u64_of f12, u64_of f17, u64_of f18, u64_of f19, u64_of f28, u64_of u1, u64_of u2, u64_of u3, u64_of u4]
  rw [rtext_eq _ _ (by simp only [List.length_append, List.length_nil]; omega) f16]
  simp only [Int.reduceBEq, w0, w1, w2, w3, w4, w5, w6, w7, w8, w9, w10, w11, w12, w13, w14, w15, w16, u64_of f1, u64_of f2, u64_of f4, u64_of f8, u64_of f11, u64_of f12, u64_of f17, u64_of f18, u64_of f19, u64_of f28, u64_of u1, u64_of u2, u64_of u3, u64_of u4]
  rw [rput_eq _ _ (by simp only [List.length_append, List.length_nil]; omega) f17]
  simp only [Int.reduceBEq, w0, w1, w2, w3, w4, w5, w6, w7, w8, w9, w10, w11, w12, w13, w14, w15, w16, u64_of f1, u64_of f2, u64_of f4, u64_of f8, u64_of f11, u64_of f12, u64_of f17, u64_of f18, u64_of f19, u64_of f28, u64_of u1, u64_of u2, u64_of u3, u64_of u4]
  rw [rput_eq _ _ (by simp only [List.length_append, List.length_nil]; omega) f18]
  simp only [Int.reduceBEq, w0, w1, w2, w3, w4, w5, w6, w7, w8, w9, w10, w11, w12, w13, w14, w15, w16, u64_of f1, u64_of f2, u64_of f4, u64_of f8, u64_of f11, u64_of f12, u64_of f17, u64_of f18, u64_of f19, u64_of f28, u64_of u1, u64_of u2, u64_of u3, u64_of u4]
  rw [rput_eq _ _ (by simp only [List.length_append, List.length_nil]; omega) f19]
  simp only [Int.reduceBEq, w0, w1, w2, w3, w4, w5, w6, w7, w8, w9, w10, w11, w12, w13, w14, w15, w16, u64_of f1, u64_of f2, u64_of f4, u64_of f8, u64_of f11, u64_of f12, u64_of f17, u64_of f18, u64_of f19, u64_of f28, u64_of u1, u64_of u2, u64_of u3, u64_of u4]
  rw [rput_eq _ _ (by simp only [List.length_append, List.length_nil]; omega) f20]
  simp only [Int.reduceBEq, w0, w1, w2, w3, w4, w5, w6, w7, w8, w9, w10, w11, w12, w13, w14, w15, w16, u64_of f1, u64_of f2, u64_of f4, u64_of f8, u64_of f11, u64_of f12, u64_of f17, u64_of f18, u64_of f19, u64_of f28, u64_of u1, u64_of u2, u64_of u3, u64_of u4]
  rw [rtext_eq _ _ (by simp only [List.length_append, List.length_nil]; omega) f21]
  simp only [Int.reduceBEq, w0, w1, w2, w3, w4, w5, w6, w7, w8, w9, w10, w11, w12, w13, w14, w15, w16, u64_of f1, u64_of f2, u64_of f4, u64_of f8, u64_of f11, u64_of f12, u64_of f17, u64_of f18, u64_of f19, u64_of f28, u64_of u1, u64_of u2, u64_of u3, u64_of u4]
  rw [rtext_eq _ _ (by simp only [List.length_append, List.length_nil]; omega) f22]
  simp only [Int.reduceBEq, w0, w1, w2, w3, w4, w5, w6, w7, w8, w9, w10, w11, w12, w13, w14, w15, w16, u64_of f1, u64_of f2, u64_of f4, u64_of f8, u64_of f11, u64_of f12, u64_of f17, u64_of f18, u64_of f19, u64_of f28, u64_of u1, u64_of u2, u64_of u3, u64_of u4]
  rw [rput_eq _ _ (by simp only [List.length_append, List.length_nil]; omega) u3]
  simp only [Int.reduceBEq, w0, w1, w2, w3, w4, w5, w6, w7, w8, w9, w10, w11, w12, w13, w14, w15, w16, u64_of f1, u64_of f2, u64_of f4, u64_of f8, u64_of f11, u64_of f12, u64_of f17, u64_of f18, u64_of f19, u64_of f28, u64_of u1, u64_of u2, u64_of u3, u64_of u4]
  rw [rb62 _ _ _ (by simp only [List.length_append, List.length_nil]; omega) f23 f24]
  simp only [Int.reduceBEq, w0, w1, w2, w3, w4, w5, w6, w7, w8, w9, w10, w11, w12, w13, w14, w15, w16, u64_of f1, u64_of f2, u64_of f4, u64_of f8, u64_of f11, u64_of f12, u64_of f17, u64_of f18, u64_of f19, u64_of f28, u64_of u1, u64_of u2, u64_of u3, u64_of u4]
  rw [rput_eq _ _ (by simp only [List.length_append, List.length_nil]; omega) u4]
  simp only [Int.reduceBEq, w0, w1, w2, w3, w4, w5, w6, w7, w8, w9, w10, w11, w12, w13, w14, w15, w16, u64_of f1, u64_of f2, u64_of f4, u64_of f8, u64_of f11, u64_of f12, u64_of f17, u64_of f18, u64_of f19, u64_of f28, u64_of u1, u64_of u2, u64_of u3, u64_of u4]
  rw [rb79 _ _ _ (by simp only [List.length_append, List.length_nil]; omega) f25 f26]
  simp only [Int.reduceBEq, w0, w1, w2, w3, w4, w5, w6, w7, w8, w9, w10, w11, w12, w13, w14, w15, w16, u64_of f1, u64_of f2, u64_of f4, u64_of f8, u64_of f11, u64_of f12, u64_of f17, u64_of f18, u64_of f19, u64_of f28, u64_of u1, u64_of u2, u64_of u3, u64_of u4]
  rw [rtext_eq _ _ (by simp only [List.length_append, List.length_nil]; omega) f27]
  simp only [Int.reduceBEq, w0, w1, w2, w3, w4, w5, w6, w7, w8, w9, w10, w11, w12, w13, w14, w15, w16, u64_of f1, u64_of f2, u64_of f4, u64_of f8, u64_of f11, u64_of f12, u64_of f17, u64_of f18, u64_of f19, u64_of f28, u64_of u1, u64_of u2, u64_of u3, u64_of u4]
  rw [rput_eq _ _ (by simp only [List.length_append, List.length_nil]; omega) f28]
  simp only [Int.reduceBEq, w0, w1, w2, w3, w4, w5, w6, w7, w8, w9, w10, w11, w12, w13, w14, w15, w16, u64_of f1, u64_of f2, u64_of f4, u64_of f8, u64_of f11, u64_of f12, u64_of f17, u64_of f18, u64_of f19, u64_of f28, u64_of u1, u64_of u2, u64_of u3, u64_of u4]
  simp only [bytesF, List.nil_append, List.append_assoc, Int.toNat_natCast]
end Go.Proofs.Ytabdbihbodcmeaa.gg
