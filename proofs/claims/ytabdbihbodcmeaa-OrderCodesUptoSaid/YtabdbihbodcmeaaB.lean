/- Orders' bytes: both readings write them alike. -/
import Derived.Test.YtabdbihbodcmeaaA
open Go Go.GG
set_option linter.unusedVariables false
set_option linter.unusedSimpArgs false
namespace Go.Proofs.Ytabdbihbodcmeaa.gg
def putsF (l : List Int) : List Int := l.flatMap fun n => putU n.toNat
def strF (s : Str) : List Int := putU (ofBytes s).length ++ ofBytes s
def strsF (l : List Str) : List Int := l.flatMap strF
def U64 (n : Int) : Prop := 0 ≤ n ∧ n < 18446744073709551616
theorem putsF_len : ∀ (l : List Int), (∀ n ∈ l, U64 n) → (putsF l).length ≤ 10 * l.length
  | [], _ => by simp [putsF]
  | n :: l, h => by
    have h1 := putsF_len l fun x hx => h x (List.mem_cons_of_mem _ hx)
    obtain ⟨h2, h3⟩ := h n List.mem_cons_self
    have h4 := putU_len10 (n := n.toNat) (by omega)
    unfold putsF at *
    rw [List.flatMap_cons, List.length_append, List.length_cons]; omega
theorem strF_len {s : Str} (h : s.length ≤ 64) : (strF s).length ≤ 74 := by
  have h4 := putU_len10 (n := (ofBytes s).length) (by rw [ofBytes_len]; omega)
  unfold strF
  rw [List.length_append, ofBytes_len] at *; omega
theorem strsF_len : ∀ (l : List Str), (∀ s ∈ l, s.length ≤ 64) → (strsF l).length ≤ 74 * l.length
  | [], _ => by simp [strsF]
  | s :: l, h => by
    have h1 := strsF_len l fun x hx => h x (List.mem_cons_of_mem _ hx)
    have h2 := strF_len (h s List.mem_cons_self)
    unfold strsF at *
    rw [List.flatMap_cons, List.length_append, List.length_cons]; omega
theorem put_eq (l : List Int) (b : List Int) (hb : b.length ≤ 1000000000) (hl : l.length ≤ 1000) (h : ∀ n ∈ l, U64 n) : order_put' b l = some (b ++ putsF l) := by
  have key := fold_loop l (fun s n => s ++ putU n.toNat) b (fun i s => order_put_p6' s l (l.length : Int) (i : Int)) (out := fun s => some s) (fun i hi => by
    try dsimp only
    have e : ∀ (l : List Int) (b : List Int), l.foldl (fun s n => s ++ putU n.toNat) b = b ++ putsF l := by
      intro l
      induction l with
      | nil => intro b; simp [putsF]
      | cons n l ih => intro b; rw [List.foldl_cons, ih]; simp [putsF]
    rw [e]
    have h1 := putsF_len (l.take i) fun n hn => h n (List.mem_of_mem_take hn)
    obtain ⟨h2, h3⟩ := h l[i] (List.getElem_mem hi)
    rw [List.length_take] at h1
    rw [order_put_p6_eq, decide_eq_true (by omega : (i : Int) < (l.length : Int)), at?_lt hi, wrap_succ (by omega)]
    simp only [cond_true, Option.bind_some]
    rw [Uvarint_eq' _ _ h2 h3 (by rw [List.length_append]; omega)]
    rfl) (by
    try dsimp only
    rw [order_put_p6_eq, decide_eq_false (by omega : ¬ (l.length : Int) < (l.length : Int))]; rfl)
  have e : ∀ (l : List Int) (b : List Int), l.foldl (fun s n => s ++ putU n.toNat) b = b ++ putsF l := by
    intro l
    induction l with
    | nil => intro b; simp [putsF]
    | cons n l ih => intro b; rw [List.foldl_cons, ih]; simp [putsF]
  unfold order_put'
  simp only [show ((0 : Nat) : Int) = 0 from rfl, e] at key
  rw [key]
  rfl
theorem texts_eq (l : List Str) (b : List Int) (hb : b.length ≤ 1000000000) (hl : l.length ≤ 1000) (h : ∀ s ∈ l, s.length ≤ 64) : order_texts' b l = some (b ++ strsF l) := by
  have e : ∀ (l : List Str) (b : List Int), l.foldl (fun s x => s ++ strF x) b = b ++ strsF l := by
    intro l
    induction l with
    | nil => intro b; simp [strsF]
    | cons n l ih => intro b; rw [List.foldl_cons, ih]; simp [strsF]
  have key := fold_loop l (fun s x => s ++ strF x) b (fun i s => order_texts_p6' s l (l.length : Int) (i : Int)) (out := fun s => some s) (fun i hi => by
    try dsimp only
    rw [e]
    have h1 := strsF_len (l.take i) fun n hn => h n (List.mem_of_mem_take hn)
    have h2 := h l[i] (List.getElem_mem hi)
    rw [List.length_take] at h1
    rw [order_texts_p6_eq, decide_eq_true (by omega : (i : Int) < (l.length : Int)), at?_lt hi, wrap_succ (by omega)]
    simp only [cond_true, Option.bind_some]
    rw [wBytes_eq _ _ (by rw [List.length_append]; omega) (by rw [ofBytes_len]; omega)]
    simp only [Option.bind_some, strF, List.append_assoc]) (by
    try dsimp only
    rw [order_texts_p6_eq, decide_eq_false (by omega : ¬ (l.length : Int) < (l.length : Int))]; rfl)
  unfold order_texts'
  simp only [show ((0 : Nat) : Int) = 0 from rfl, e] at key
  rw [key]
  rfl
theorem rput_eq (b : List Int) (n : Int) (hb : b.length ≤ 1000000000) (h : U64 n) : ref22_put' b n = some (b ++ putU n.toNat) := by
  unfold ref22_put'
  have := putU_len10 (n := n.toNat) (by obtain ⟨_, _⟩ := h; omega)
  rw [refUvarint_eq' _ h.1 h.2]
  simp only [Option.bind_some]
  rw [room_of (by rw [List.length_append]; omega)]; rfl
theorem rtext_eq (b : List Int) (s : Str) (hb : b.length ≤ 1000000000) (h : s.length ≤ 64) : ref22_text' b s = some (b ++ strF s) := by
  unfold ref22_text'
  have := strF_len h
  rw [refBytes_eq _ (by rw [ofBytes_len]; omega)]
  simp only [Option.bind_some]
  rw [show putU (ofBytes s).length ++ ofBytes s = strF s from rfl, room_of (by rw [List.length_append]; omega)]; rfl
theorem u64_of {n : Int} (h : U64 n) : IntKind.wrap .u64 n = n := u64_in h.1 h.2
/-! ### What an order has -/
def hlF (h : Hl) : List Int := strF h.1 ++ (putU h.2.1.toNat ++ putU h.2.2.toNat)
def mkF (m : Mk) : List Int := strF m.1 ++ putU m.2.toNat
structure Fits (o : Or) : Prop where
  kind : U64 o.1
  client : U64 o.2.1.1
  seq : U64 o.2.1.2
  ck : U64 o.2.2.1.1
  keys : ∀ s ∈ o.2.2.1.2.1, s.length ≤ 64
  nkeys : o.2.2.1.2.1.length ≤ 16
  tok : U64 o.2.2.1.2.2.1
  ttl : U64 o.2.2.1.2.2.2
  groups : ∀ n ∈ o.2.2.2.1, U64 n
  ngroups : o.2.2.2.1.length ≤ 16
  group : U64 o.2.2.2.2.1
  code : U64 o.2.2.2.2.2.1
  token : U64 o.2.2.2.2.2.2.1
  pid : U64 o.2.2.2.2.2.2.2.2.1.1
  pf : o.2.2.2.2.2.2.2.2.1.2.1.1.length ≤ 64
  pt : o.2.2.2.2.2.2.2.2.1.2.1.2.length ≤ 64
  pfrom : U64 o.2.2.2.2.2.2.2.2.1.2.2.1
  pto : U64 o.2.2.2.2.2.2.2.2.1.2.2.2.1
  pstep : U64 o.2.2.2.2.2.2.2.2.1.2.2.2.2
  qplan : U64 o.2.2.2.2.2.2.2.2.2.1.1
  qf : o.2.2.2.2.2.2.2.2.2.1.2.1.1.length ≤ 64
  qt : o.2.2.2.2.2.2.2.2.2.1.2.1.2.length ≤ 64
  holds : ∀ h ∈ o.2.2.2.2.2.2.2.2.2.1.2.2.1, h.1.length ≤ 64 ∧ U64 h.2.1 ∧ U64 h.2.2
  nholds : o.2.2.2.2.2.2.2.2.2.1.2.2.1.length ≤ 256
  marks : ∀ m ∈ o.2.2.2.2.2.2.2.2.2.1.2.2.2, m.1.length ≤ 64 ∧ U64 m.2
  nmarks : o.2.2.2.2.2.2.2.2.2.1.2.2.2.length ≤ 256
  key : o.2.2.2.2.2.2.2.2.2.2.1.length ≤ 64
  n : U64 o.2.2.2.2.2.2.2.2.2.2.2
theorem hlF_len {h : Hl} (hh : h.1.length ≤ 64 ∧ U64 h.2.1 ∧ U64 h.2.2) : (hlF h).length ≤ 94 := by
  obtain ⟨h1, ⟨h2, h3⟩, h4, h5⟩ := hh
  have a1 := strF_len h1
  have a2 := putU_len10 (n := h.2.1.toNat) (by omega)
  have a3 := putU_len10 (n := h.2.2.toNat) (by omega)
  unfold hlF
  simp only [List.length_append]; omega
theorem mkF_len {m : Mk} (hh : m.1.length ≤ 64 ∧ U64 m.2) : (mkF m).length ≤ 84 := by
  obtain ⟨h1, h2, h3⟩ := hh
  have a1 := strF_len h1
  have a2 := putU_len10 (n := m.2.toNat) (by omega)
  unfold mkF
  simp only [List.length_append]; omega
theorem flat_le {α : Type} (f : α → List Int) (k : Nat) : ∀ (l : List α), (∀ x ∈ l, (f x).length ≤ k) → (l.flatMap f).length ≤ k * l.length
  | [], _ => by simp
  | x :: l, h => by
    have h1 := flat_le f k l fun y hy => h y (List.mem_cons_of_mem _ hy)
    have h2 := h x List.mem_cons_self
    rw [List.flatMap_cons, List.length_append, List.length_cons, Nat.mul_add, Nat.mul_one]; omega
theorem fold_flat {α : Type} (f : α → List Int) : ∀ (l : List α) (b : List Int), l.foldl (fun s x => s ++ f x) b = b ++ l.flatMap f
  | [], b => by simp
  | x :: l, b => by rw [List.foldl_cons, fold_flat f l, List.flatMap_cons, List.append_assoc]
theorem fold_part {α : Type} (f : α → List Int) (k : Nat) {l : List α} (h : ∀ x ∈ l, (f x).length ≤ k) (hl : l.length ≤ 1000) (i : Nat) : ((l.take i).flatMap f).length ≤ k * 1000 := by
  have h1 := flat_le f k (l.take i) fun x hx => h x (List.mem_of_mem_take hx)
  refine Nat.le_trans h1 (Nat.mul_le_mul_left _ ?_)
  rw [List.length_take]; omega
theorem enc30 (t : Int) (b : List Int) (g : List Int) (v : Fl) (p : Int × Str × Str × Int × Int × Int) (q : Int × Str × Str × List Hl × List Mk) (hb : b.length ≤ 100000000) (hl : g.length ≤ 1000) (h : ∀ n ∈ g, U64 n) :
    order_Encode_p30' t b g (g.length : Int) 0 v p q = some (t, b ++ putsF g, v, p, q) := by
  have key := fold_loop g (fun s n => s ++ putU n.toNat) b (fun i s => order_Encode_p30' t s g (g.length : Int) (i : Int) v p q) (out := fun s => some (t, s, v, p, q)) (fun i hi => by
    try dsimp only
    rw [fold_flat]
    have h1 := fold_part (fun n : Int => putU n.toNat) 10 (fun n hn => putU_len10 (by obtain ⟨_, _⟩ := h n hn; omega)) hl i
    have h2 := h g[i] (List.getElem_mem hi)
    rw [order_Encode_p30_eq, decide_eq_true (by omega : (i : Int) < (g.length : Int)), at?_lt hi, wrap_succ (by omega)]
    simp only [cond_true, Option.bind_some]
    rw [u64_of h2, put_eq _ _ (by rw [List.length_append]; omega) (by simp) (by simpa using h2)]
    simp only [Option.bind_some, putsF, List.flatMap_cons, List.flatMap_nil, List.append_nil]) (by
    try dsimp only
    rw [order_Encode_p30_eq, decide_eq_false (by omega : ¬ (g.length : Int) < (g.length : Int))]; rfl)
  simp only [show ((0 : Nat) : Int) = 0 from rfl, fold_flat] at key
  exact key
theorem enc53 (b : List Int) (g : List Hl) (v : Fl) (q : Int × Str × Str × List Hl × List Mk) (hb : b.length ≤ 100000000) (hl : g.length ≤ 1000) (h : ∀ h ∈ g, h.1.length ≤ 64 ∧ U64 h.2.1 ∧ U64 h.2.2) :
    order_Encode_p53' b g (g.length : Int) 0 v q = some (b ++ g.flatMap hlF, v, q) := by
  have key := fold_loop g (fun s n => s ++ hlF n) b (fun i s => order_Encode_p53' s g (g.length : Int) (i : Int) v q) (out := fun s => some (s, v, q)) (fun i hi => by
    try dsimp only
    rw [fold_flat]
    have h1 := fold_part hlF 94 (fun n hn => hlF_len (h n hn)) hl i
    obtain ⟨h2, h3, h4⟩ := h g[i] (List.getElem_mem hi)
    have h5 := strF_len h2
    rw [order_Encode_p53_eq, decide_eq_true (by omega : (i : Int) < (g.length : Int)), at?_lt hi, wrap_succ (by omega)]
    simp only [cond_true, Option.bind_some]
    rw [u64_of h4, texts_eq _ _ (by rw [List.length_append]; omega) (by simp) (by simpa using h2)]
    simp only [Option.bind_some]
    rw [put_eq _ _ (by simp only [List.length_append, strsF, List.flatMap_cons, List.flatMap_nil, List.append_nil]; omega) (by simp) (by simpa using ⟨h3, h4⟩)]
    simp only [Option.bind_some, putsF, strsF, hlF, List.flatMap_cons, List.flatMap_nil, List.append_nil, List.append_assoc]) (by
    try dsimp only
    rw [order_Encode_p53_eq, decide_eq_false (by omega : ¬ (g.length : Int) < (g.length : Int))]; rfl)
  simp only [show ((0 : Nat) : Int) = 0 from rfl, fold_flat] at key
  exact key
theorem enc72 (b : List Int) (g : List Mk) (v : Fl) (hb : b.length ≤ 100000000) (hl : g.length ≤ 1000) (h : ∀ m ∈ g, m.1.length ≤ 64 ∧ U64 m.2) :
    order_Encode_p72' b g (g.length : Int) 0 v = some (b ++ g.flatMap mkF, v) := by
  have key := fold_loop g (fun s n => s ++ mkF n) b (fun i s => order_Encode_p72' s g (g.length : Int) (i : Int) v) (out := fun s => some (s, v)) (fun i hi => by
    try dsimp only
    rw [fold_flat]
    have h1 := fold_part mkF 84 (fun n hn => mkF_len (h n hn)) hl i
    obtain ⟨h2, h3⟩ := h g[i] (List.getElem_mem hi)
    have h5 := strF_len h2
    rw [order_Encode_p72_eq, decide_eq_true (by omega : (i : Int) < (g.length : Int)), at?_lt hi, wrap_succ (by omega)]
    simp only [cond_true, Option.bind_some]
    rw [texts_eq _ _ (by rw [List.length_append]; omega) (by simp) (by simpa using h2)]
    simp only [Option.bind_some]
    rw [put_eq _ _ (by simp only [List.length_append, strsF, List.flatMap_cons, List.flatMap_nil, List.append_nil]; omega) (by simp) (by simpa using h3)]
    simp only [Option.bind_some, putsF, strsF, mkF, List.flatMap_cons, List.flatMap_nil, List.append_nil, List.append_assoc]) (by
    try dsimp only
    rw [order_Encode_p72_eq, decide_eq_false (by omega : ¬ (g.length : Int) < (g.length : Int))]; rfl)
  simp only [show ((0 : Nat) : Int) = 0 from rfl, fold_flat] at key
  exact key
/-- The bytes, spelt. -/
def bytesF : Or → List Int := fun (kind, (client, seq), (ck, keys, tok, ttl), groups, group, code, token, take, (pid, (pf, pt), pfrom, pto, pstep), (qplan, (qf, qt), holds, marks), key, n) =>
  putU kind.toNat ++ (putU client.toNat ++ (putU seq.toNat ++ (putU ck.toNat ++ (putU keys.length ++ (strsF keys ++ (putU tok.toNat ++ (putU ttl.toNat ++ (putU groups.length ++ (putsF groups ++ (putU group.toNat ++ (putU code.toNat ++ (putU token.toNat ++ (putU (bif take then (1 : Int) else 0).toNat ++
  (putU pid.toNat ++ (strF pf ++ (strF pt ++ (putU pfrom.toNat ++ (putU pto.toNat ++ (putU pstep.toNat ++ (putU qplan.toNat ++ (strF qf ++ (strF qt ++ (putU holds.length ++ (holds.flatMap hlF ++ (putU marks.length ++ (marks.flatMap mkF ++ (strF key ++ putU n.toNat)))))))))))))))))))))))))))
theorem bytes_enc (o : Or) : bytesF o = orC.enc o := by
  obtain ⟨kind, ⟨client, seq⟩, ⟨ck, keys, tok, ttl⟩, groups, group, code, token, take, ⟨pid, ⟨pf, pt⟩, pfrom, pto, pstep⟩, ⟨qplan, ⟨qf, qt⟩, holds, marks⟩, key, n⟩ := o
  have e : orC.enc (kind, (client, seq), (ck, keys, tok, ttl), groups, group, code, token, take, (pid, (pf, pt), pfrom, pto, pstep), (qplan, (qf, qt), holds, marks), key, n) =
    putU kind.toNat ++ ((putU client.toNat ++ putU seq.toNat) ++ ((putU ck.toNat ++ ((putU keys.length ++ keys.flatMap strF) ++ (putU tok.toNat ++ putU ttl.toNat))) ++ ((putU groups.length ++ groups.flatMap fun n => putU n.toNat) ++ (putU group.toNat ++ (putU code.toNat ++ (putU token.toNat ++ (putU (cond take (1 : Int) 0).toNat ++
      ((putU pid.toNat ++ ((strF pf ++ strF pt) ++ (putU pfrom.toNat ++ (putU pto.toNat ++ putU pstep.toNat)))) ++ ((putU qplan.toNat ++ ((strF qf ++ strF qt) ++ ((putU holds.length ++ holds.flatMap hlF) ++ (putU marks.length ++ marks.flatMap mkF)))) ++ (strF key ++ putU n.toNat)))))))))) := rfl
  rw [e]
  simp only [bytesF, strsF, putsF, List.append_assoc]
theorem some_cond {α : Type} (b : Bool) (x y : α) : (bif b then some x else some y) = some (bif b then x else y) := by cases b <;> rfl
theorem nat_u64 {n : Nat} (h : n ≤ 1000) : U64 (n : Int) := ⟨by omega, by omega⟩
theorem Encode_eq (o : Or) (hz : Sz o) (hf : orMay o = true → Fits o) : order_Encode' o = some (bif orMay o then (bif decide (((orC.enc o).length : Int) > 4096) then ([], 3) else (orC.enc o, 0)) else ([], 1)) := by
  rw [← bytes_enc]
  unfold order_Encode' order_Encode_p14'
  rw [Check_eq o hz]
  cases hm : orMay o with
  | false => rfl
  | true =>
  obtain ⟨f1, f2, f3, f4, f5, f6, f7, f8, f9, f10, f11, f12, f13, f14, f15, f16, f17, f18, f19, f20, f21, f22, f23, f24, f25, f26, f27, f28⟩ := hf hm
  clear hf hm hz
  obtain ⟨kind, ⟨client, seq⟩, ⟨ck, keys, tok, ttl⟩, groups, group, code, token, take, ⟨pid, ⟨pf, pt⟩, pfrom, pto, pstep⟩, ⟨qplan, ⟨qf, qt⟩, holds, marks⟩, key, n⟩ := o
  simp only at f1 f2 f3 f4 f5 f6 f7 f8 f9 f10 f11 f12 f13 f14 f15 f16 f17 f18 f19 f20 f21 f22 f23 f24 f25 f26 f27 f28
  have b1 := putsF_len groups f9
  have b2 := strsF_len keys f5
  have b3 := flat_le hlF 94 holds fun x hx => hlF_len (f23 x hx)
  have b4 := flat_le mkF 84 marks fun x hx => mkF_len (f25 x hx)
  have c1 := strF_len f15
  have c2 := strF_len f16
  have c3 := strF_len f21
  have c4 := strF_len f22
  have c5 := strF_len f27
  have u1 := nat_u64 (n := keys.length) (by omega)
  have u2 := nat_u64 (n := groups.length) (by omega)
  have u3 := nat_u64 (n := holds.length) (by omega)
  have u4 := nat_u64 (n := marks.length) (by omega)
  have ut : U64 (bif take then (1 : Int) else 0) := by cases take <;> exact ⟨by decide, by decide⟩
  simp only [bytesF]
  simp only [Int.reduceBEq, w0, w1, w2, w3, w4, w5, w6, w7, w8, w9, w10, w11, w12, w13, w14, w15, w16, Int.reduceBNe, u64_of f1, u64_of f2, u64_of f4, u64_of f8, u64_of f11, u64_of f12, u64_of f17, u64_of f18, u64_of f19, u64_of f28, u64_of u1, u64_of u2, u64_of u3, u64_of u4]
  rw [show (bif take then some ((1 : Int), (kind, client, seq, ck, keys, tok, ttl, groups, group, code, token, take, pid, pf, pt, pfrom, pto, pstep, qplan, qf, qt, holds, marks, key, n)) else some ((0 : Int), (kind, client, seq, ck, keys, tok, ttl, groups, group, code, token, take, pid, pf, pt, pfrom, pto, pstep, qplan, qf, qt, holds, marks, key, n))) = some ((bif take then (1 : Int) else 0), (kind, client, seq, ck, keys, tok, ttl, groups, group, code, token, take, pid, pf, pt, pfrom, pto, pstep, qplan, qf, qt, holds, marks, key, n)) by cases take <;> rfl]
  have p1 : ∀ n ∈ [kind, client, seq, ck, (keys.length : Int)], U64 n := by simpa using ⟨f1, f2, f3, f4, u1⟩
  have p2 : ∀ n ∈ [tok, ttl, (groups.length : Int)], U64 n := by simpa using ⟨f7, f8, u2⟩
  have p3 : ∀ n ∈ [group, code, token, (bif take then (1 : Int) else 0), pid], U64 n := by
    intro n hn
    simp only [List.mem_cons, List.not_mem_nil, or_false] at hn
    rcases hn with rfl | rfl | rfl | rfl | rfl
    · exact f11
    · exact f12
    · exact f13
    · exact ut
    · exact f14
  have p4 : ∀ n ∈ [pfrom, pto, pstep, qplan], U64 n := by simpa using ⟨f17, f18, f19, f20⟩
  have p5 : ∀ n ∈ [(holds.length : Int)], U64 n := by simpa using u3
  have p6 : ∀ n ∈ [(marks.length : Int)], U64 n := by simpa using u4
  have p7 : ∀ m ∈ [n], U64 m := by simpa using f28
  have q1 := putsF_len _ p1
  have q2 := putsF_len _ p2
  have q3 := putsF_len _ p3
  have q4 := putsF_len _ p4
  have q5 := putsF_len _ p5
  have q6 := putsF_len _ p6
  have s1 : ∀ s ∈ [pf, pt], s.length ≤ 64 := by simpa using ⟨f15, f16⟩
  have s2 : ∀ s ∈ [qf, qt], s.length ≤ 64 := by simpa using ⟨f21, f22⟩
  have s3 : ∀ s ∈ [key], s.length ≤ 64 := by simpa using f27
  have t1 := strsF_len _ s1
  have t2 := strsF_len _ s2
  have t3 := strsF_len _ s3
  simp only [List.length_cons, List.length_nil] at q1 q2 q3 q4 q5 q6 t1 t2 t3
  simp only [Int.reduceBEq, w0, w1, w2, w3, w4, w5, w6, w7, w8, w9, w10, w11, w12, w13, w14, w15, w16, u64_of f1, u64_of f2, u64_of f4, u64_of f8, u64_of f11, u64_of f12, u64_of f17, u64_of f18, u64_of f19, u64_of f28, u64_of u1, u64_of u2, u64_of u3, u64_of u4]
  rw [put_eq _ _ (by simp) (by simp) p1]
  simp only [Int.reduceBEq, w0, w1, w2, w3, w4, w5, w6, w7, w8, w9, w10, w11, w12, w13, w14, w15, w16]
  rw [texts_eq _ _ (by simp only [List.length_append, List.length_nil]; omega) (by omega) f5]
  simp only [Int.reduceBEq, w0, w1, w2, w3, w4, w5, w6, w7, w8, w9, w10, w11, w12, w13, w14, w15, w16]
  rw [put_eq _ _ (by simp only [List.length_append, List.length_nil]; omega) (by simp) p2]
  simp only [Int.reduceBEq, w0, w1, w2, w3, w4, w5, w6, w7, w8, w9, w10, w11, w12, w13, w14, w15, w16]
  rw [enc30 _ _ _ _ _ _ (by simp only [List.length_append, List.length_nil]; omega) (by omega) f9]
  simp only [Int.reduceBEq, w0, w1, w2, w3, w4, w5, w6, w7, w8, w9, w10, w11, w12, w13, w14, w15, w16, u64_of f1, u64_of f2, u64_of f4, u64_of f8, u64_of f11, u64_of f12, u64_of f17, u64_of f18, u64_of f19, u64_of f28, u64_of u1, u64_of u2, u64_of u3, u64_of u4]
  rw [put_eq _ _ (by simp only [List.length_append, List.length_nil]; omega) (by simp) p3]
  simp only [Int.reduceBEq, w0, w1, w2, w3, w4, w5, w6, w7, w8, w9, w10, w11, w12, w13, w14, w15, w16]
  rw [texts_eq _ _ (by simp only [List.length_append, List.length_nil]; omega) (by simp) s1]
  simp only [Int.reduceBEq, w0, w1, w2, w3, w4, w5, w6, w7, w8, w9, w10, w11, w12, w13, w14, w15, w16]
  rw [put_eq _ _ (by simp only [List.length_append, List.length_nil]; omega) (by simp) p4]
  simp only [Int.reduceBEq, w0, w1, w2, w3, w4, w5, w6, w7, w8, w9, w10, w11, w12, w13, w14, w15, w16]
  rw [texts_eq _ _ (by simp only [List.length_append, List.length_nil]; omega) (by simp) s2]
  simp only [Int.reduceBEq, w0, w1, w2, w3, w4, w5, w6, w7, w8, w9, w10, w11, w12, w13, w14, w15, w16]
  rw [put_eq _ _ (by simp only [List.length_append, List.length_nil]; omega) (by simp) p5]
  simp only [Int.reduceBEq, w0, w1, w2, w3, w4, w5, w6, w7, w8, w9, w10, w11, w12, w13, w14, w15, w16]
  rw [enc53 _ _ _ _ (by simp only [List.length_append, List.length_nil]; omega) (by omega) f23]
  simp only [Int.reduceBEq, w0, w1, w2, w3, w4, w5, w6, w7, w8, w9, w10, w11, w12, w13, w14, w15, w16, u64_of u4]
  rw [put_eq _ _ (by simp only [List.length_append, List.length_nil]; omega) (by simp) p6]
  simp only [Int.reduceBEq, w0, w1, w2, w3, w4, w5, w6, w7, w8, w9, w10, w11, w12, w13, w14, w15, w16]
  rw [enc72 _ _ _ (by simp only [List.length_append, List.length_nil]; omega) (by omega) f25]
  simp only [Int.reduceBEq, w0, w1, w2, w3, w4, w5, w6, w7, w8, w9, w10, w11, w12, w13, w14, w15, w16, u64_of f28]
  rw [texts_eq _ _ (by simp only [List.length_append, List.length_nil]; omega) (by simp) s3]
  simp only [Int.reduceBEq, w0, w1, w2, w3, w4, w5, w6, w7, w8, w9, w10, w11, w12, w13, w14, w15, w16]
  rw [put_eq _ _ (by simp only [List.length_append, List.length_nil]; omega) (by simp) p7]
  simp only [Int.reduceBEq, w0, w1, w2, w3, w4, w5, w6, w7, w8, w9, w10, w11, w12, w13, w14, w15, w16]
  simp only [putsF, strsF, List.flatMap_cons, List.flatMap_nil, List.append_nil, List.nil_append, List.append_assoc, Int.toNat_natCast]
  exact some_cond _ _ _
end Go.Proofs.Ytabdbihbodcmeaa.gg
