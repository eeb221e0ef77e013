/- Which order any bytes are: both readings. -/
import Derived.Test.YtabdbihbodcmeaaC
open Go Go.GG
set_option linter.unusedVariables false
set_option linter.unusedSimpArgs false
set_option maxRecDepth 4000
namespace Go.Proofs.Ytabdbihbodcmeaa.gg
theorem pair_rd {α β : Type} (c : Cd α) (d : Cd β) (s : Rd) : (c.pair d).rd s = (((c.rd s).1, (d.rd (c.rd s).2).1), (d.rd (c.rd s).2).2) := rfl
theorem list_rd {α : Type} (c : Cd α) (m : Nat) (h : m < 18446744073709551616) (s : Rd) : (c.list m h).rd s = Cd.rds c (rNum s m).1.toNat (rNum s m).2 := rfl
theorem bit_rd (s : Rd) : Cd.bit.rd s = (((rNum s 1).1 == 1), (rNum s 1).2) := rfl
theorem u_rd (s : Rd) : Cd.u.rd s = rU s := rfl
theorem n_ok {x : Int} (h : nC.ok x) : U64 x := ⟨h.1, by have : x ≤ 2147483647 := h.2; omega⟩
theorem sz_of {o : Or} (h : orC.ok o) : Sz o := by
  obtain ⟨_, _, ⟨_, ⟨h1, _⟩, _⟩, ⟨h2, _⟩, _, _, _, _, _, ⟨_, _, ⟨h3, _⟩, h4, _⟩, _⟩ := h
  exact ⟨by omega, by omega, by omega, by omega⟩
theorem fits_of {o : Or} (h : orC.ok o) : Fits o := by
  obtain ⟨a1, ⟨a2, a3⟩, ⟨a4, ⟨a5, a6⟩, a7, a8⟩, ⟨a9, a10⟩, a11, a12, a13, _, ⟨a14, ⟨a15, a16⟩, a17, a18, a19⟩, ⟨a20, ⟨a21, a22⟩, ⟨a23, a24⟩, a25, a26⟩, a27, a28⟩ := h
  exact ⟨n_ok a1, n_ok a2, a3, n_ok a4, a6, a5, a7, n_ok a8, fun x hx => n_ok (a10 x hx), a9, n_ok a11, n_ok a12, a13, a14, a15, a16, n_ok a17, n_ok a18, n_ok a19, a20, a21, a22,
    fun x hx => ⟨(a24 x hx).1, (a24 x hx).2.1, n_ok (a24 x hx).2.2⟩, a23, fun x hx => ⟨(a26 x hx).1, (a26 x hx).2⟩, a25, a27, n_ok a28⟩
/-! ### The program's reading -/
theorem dN {s : Rd} (h : RInv s) : order_Decode_1' s = some (nC.rd s) := by
  unfold order_Decode_1'
  rw [rNumber_eq h 2147483647 (by decide)]; rfl
theorem dT {s : Rd} (h : RInv s) : order_Decode_2' s = some (tC.rd s) := by
  unfold order_Decode_2'
  rw [rBytes_eq h 64 (by decide)]; rfl
theorem eN {s : Rd} (h : RInv s) : ref22_number' s = some (nC.rd s) := by
  unfold ref22_number'
  rw [refNum_eq h 2147483647 (by decide)]; rfl
theorem eT {s : Rd} (h : RInv s) : ref22_key' s = some (tC.rd s) := by
  unfold ref22_key'
  rw [refBytes_read h 64 (by decide)]; rfl
theorem hl_rd (s : Rd) : hlC.rd s = (((tC.rd s).1, (rU (tC.rd s).2).1, (nC.rd (rU (tC.rd s).2).2).1), (nC.rd (rU (tC.rd s).2).2).2) := rfl
theorem mk_rd (s : Rd) : mkC.rd s = (((tC.rd s).1, (rU (tC.rd s).2).1), (rU (tC.rd s).2).2) := rfl
theorem dl240 (v2 v4 : (Int × Int × Int × Int × Int × Int × Int × Int × Int × Bool × Int × Str × Str × Int × Int × Int × Int × Str × Str × Str × Int))  : ∀ (m i : Nat) (s : Rd) (acc : List Str), RInv s → acc.length + m ≤ 1000 → i + m ≤ 1000 → order_Decode_p24' ((i + m : Nat) : Int) (i : Int) v2 () v4 s  acc = some (v2, (), v4, (Cd.rds tC m s).2, acc ++ (Cd.rds tC m s).1)
  | 0, i, s, acc, h, ha, hi => by
    rw [order_Decode_p24_eq, decide_eq_false (by omega)]
    simp [Cd.rds]
  | m + 1, i, s, acc, h, ha, hi => by
    have ih := dl240 v2 v4  m (i + 1) (tC.rd s).2 (acc ++ [(tC.rd s).1]) (tC.inv s h).1 (by simp; omega) (by omega)
    rw [show i + 1 + m = i + (m + 1) by omega] at ih
    rw [order_Decode_p24_eq, decide_eq_true (by omega : (i : Int) < ((i + (m + 1) : Nat) : Int)), wrap_succ (by omega)]
    simp only [Int.reduceBEq, w0, w1, w2, w3, w4, w5, w6, w7, w8, w9, w10, w11, w12, w13, w14, w15, w16]
    rw [dT h]
    simp only [Int.reduceBEq, w0, w1, w2, w3, w4, w5, w6, w7, w8, w9, w10, w11, w12, w13, w14, w15, w16]
    rw [room_of (by simp; omega)]
    simp only [Int.reduceBEq, w0, w1, w2, w3, w4, w5, w6, w7, w8, w9, w10, w11, w12, w13, w14, w15, w16, Cd.rds]
    rw [ih]; simp
theorem dl24 (m : Int) (s : Rd) (v2 v4 : (Int × Int × Int × Int × Int × Int × Int × Int × Int × Bool × Int × Str × Str × Int × Int × Int × Int × Str × Str × Str × Int)) (h : RInv s) (h0 : 0 ≤ m) (h1 : m ≤ 1000) : order_Decode_p24' m 0 v2 () v4 s  [] = some (v2, (), v4, (Cd.rds tC m.toNat s).2, (Cd.rds tC m.toNat s).1) := by
  have := dl240 v2 v4  m.toNat 0 s [] h (by simp; omega) (by omega)
  rw [Nat.zero_add, Int.toNat_of_nonneg h0, show ((0 : Nat) : Int) = 0 from rfl, List.nil_append] at this
  exact this
theorem dl410 (v2 v4 : (Int × Int × Int × Int × Int × Int × Int × Int × Int × Bool × Int × Str × Str × Int × Int × Int × Int × Str × Str × Str × Int)) (ks : List Str) : ∀ (m i : Nat) (s : Rd) (acc : List Int), RInv s → acc.length + m ≤ 1000 → i + m ≤ 1000 → order_Decode_p41' ((i + m : Nat) : Int) (i : Int) v2 () v4 s ks acc = some (v2, (), v4, (Cd.rds nC m s).2, ks, acc ++ (Cd.rds nC m s).1)
  | 0, i, s, acc, h, ha, hi => by
    rw [order_Decode_p41_eq, decide_eq_false (by omega)]
    simp [Cd.rds]
  | m + 1, i, s, acc, h, ha, hi => by
    have ih := dl410 v2 v4 ks m (i + 1) (nC.rd s).2 (acc ++ [(nC.rd s).1]) (nC.inv s h).1 (by simp; omega) (by omega)
    rw [show i + 1 + m = i + (m + 1) by omega] at ih
    rw [order_Decode_p41_eq, decide_eq_true (by omega : (i : Int) < ((i + (m + 1) : Nat) : Int)), wrap_succ (by omega)]
    simp only [Int.reduceBEq, w0, w1, w2, w3, w4, w5, w6, w7, w8, w9, w10, w11, w12, w13, w14, w15, w16]
    rw [dN h]
    simp only [Int.reduceBEq, w0, w1, w2, w3, w4, w5, w6, w7, w8, w9, w10, w11, w12, w13, w14, w15, w16]
    rw [room_of (by simp; omega)]
    simp only [Int.reduceBEq, w0, w1, w2, w3, w4, w5, w6, w7, w8, w9, w10, w11, w12, w13, w14, w15, w16, Cd.rds]
    rw [ih]; simp
theorem dl41 (m : Int) (s : Rd) (v2 v4 : (Int × Int × Int × Int × Int × Int × Int × Int × Int × Bool × Int × Str × Str × Int × Int × Int × Int × Str × Str × Str × Int)) (ks : List Str) (h : RInv s) (h0 : 0 ≤ m) (h1 : m ≤ 1000) : order_Decode_p41' m 0 v2 () v4 s ks [] = some (v2, (), v4, (Cd.rds nC m.toNat s).2, ks, (Cd.rds nC m.toNat s).1) := by
  have := dl410 v2 v4 ks m.toNat 0 s [] h (by simp; omega) (by omega)
  rw [Nat.zero_add, Int.toNat_of_nonneg h0, show ((0 : Nat) : Int) = 0 from rfl, List.nil_append] at this
  exact this
theorem dl620 (v2 v4 : (Int × Int × Int × Int × Int × Int × Int × Int × Int × Bool × Int × Str × Str × Int × Int × Int × Int × Str × Str × Str × Int)) (ks : List Str) (gs : List Int) : ∀ (m i : Nat) (s : Rd) (acc : List Hl), RInv s → acc.length + m ≤ 1000 → i + m ≤ 1000 → order_Decode_p62' ((i + m : Nat) : Int) (i : Int) v2 () v4 s ks gs acc = some (v2, (), v4, (Cd.rds hlC m s).2, ks, gs, acc ++ (Cd.rds hlC m s).1)
  | 0, i, s, acc, h, ha, hi => by
    rw [order_Decode_p62_eq, decide_eq_false (by omega)]
    simp [Cd.rds]
  | m + 1, i, s, acc, h, ha, hi => by
    have ih := dl620 v2 v4 ks gs m (i + 1) (hlC.rd s).2 (acc ++ [(hlC.rd s).1]) (hlC.inv s h).1 (by simp; omega) (by omega)
    rw [show i + 1 + m = i + (m + 1) by omega] at ih
    rw [order_Decode_p62_eq, decide_eq_true (by omega : (i : Int) < ((i + (m + 1) : Nat) : Int)), wrap_succ (by omega)]
    simp only [Int.reduceBEq, w0, w1, w2, w3, w4, w5, w6, w7, w8, w9, w10, w11, w12, w13, w14, w15, w16]
    have j1 := (tC.inv s h).1
    have j2 := rU_inv j1
    rw [dT h]
    simp only [Int.reduceBEq, w0, w1, w2, w3, w4, w5, w6, w7, w8, w9, w10, w11, w12, w13, w14, w15, w16]
    rw [rUvarint_eq j1]
    simp only [Int.reduceBEq, w0, w1, w2, w3, w4, w5, w6, w7, w8, w9, w10, w11, w12, w13, w14, w15, w16]
    rw [dN j2]
    simp only [Int.reduceBEq, w0, w1, w2, w3, w4, w5, w6, w7, w8, w9, w10, w11, w12, w13, w14, w15, w16]
    rw [room_of (by simp; omega)]
    simp only [Int.reduceBEq, w0, w1, w2, w3, w4, w5, w6, w7, w8, w9, w10, w11, w12, w13, w14, w15, w16, Cd.rds]
    rw [hl_rd] at ih ⊢
    try dsimp only at ih ⊢
    rw [ih]; simp
theorem dl62 (m : Int) (s : Rd) (v2 v4 : (Int × Int × Int × Int × Int × Int × Int × Int × Int × Bool × Int × Str × Str × Int × Int × Int × Int × Str × Str × Str × Int)) (ks : List Str) (gs : List Int) (h : RInv s) (h0 : 0 ≤ m) (h1 : m ≤ 1000) : order_Decode_p62' m 0 v2 () v4 s ks gs [] = some (v2, (), v4, (Cd.rds hlC m.toNat s).2, ks, gs, (Cd.rds hlC m.toNat s).1) := by
  have := dl620 v2 v4 ks gs m.toNat 0 s [] h (by simp; omega) (by omega)
  rw [Nat.zero_add, Int.toNat_of_nonneg h0, show ((0 : Nat) : Int) = 0 from rfl, List.nil_append] at this
  exact this
theorem dl770 (v2 v4 : (Int × Int × Int × Int × Int × Int × Int × Int × Int × Bool × Int × Str × Str × Int × Int × Int × Int × Str × Str × Str × Int)) (ks : List Str) (gs : List Int) (hs : List Hl) : ∀ (m i : Nat) (s : Rd) (acc : List Mk), RInv s → acc.length + m ≤ 1000 → i + m ≤ 1000 → order_Decode_p77' ((i + m : Nat) : Int) (i : Int) v2 () v4 s ks gs hs acc = some (v2, (), v4, (Cd.rds mkC m s).2, ks, gs, hs, acc ++ (Cd.rds mkC m s).1)
  | 0, i, s, acc, h, ha, hi => by
    rw [order_Decode_p77_eq, decide_eq_false (by omega)]
    simp [Cd.rds]
  | m + 1, i, s, acc, h, ha, hi => by
    have ih := dl770 v2 v4 ks gs hs m (i + 1) (mkC.rd s).2 (acc ++ [(mkC.rd s).1]) (mkC.inv s h).1 (by simp; omega) (by omega)
    rw [show i + 1 + m = i + (m + 1) by omega] at ih
    rw [order_Decode_p77_eq, decide_eq_true (by omega : (i : Int) < ((i + (m + 1) : Nat) : Int)), wrap_succ (by omega)]
    simp only [Int.reduceBEq, w0, w1, w2, w3, w4, w5, w6, w7, w8, w9, w10, w11, w12, w13, w14, w15, w16]
    have j1 := (tC.inv s h).1
    have j2 := rU_inv j1
    rw [dT h]
    simp only [Int.reduceBEq, w0, w1, w2, w3, w4, w5, w6, w7, w8, w9, w10, w11, w12, w13, w14, w15, w16]
    rw [rUvarint_eq j1]
    simp only [Int.reduceBEq, w0, w1, w2, w3, w4, w5, w6, w7, w8, w9, w10, w11, w12, w13, w14, w15, w16]
    rw [room_of (by simp; omega)]
    simp only [Int.reduceBEq, w0, w1, w2, w3, w4, w5, w6, w7, w8, w9, w10, w11, w12, w13, w14, w15, w16, Cd.rds]
    rw [mk_rd] at ih ⊢
    try dsimp only at ih ⊢
    rw [ih]; simp
theorem dl77 (m : Int) (s : Rd) (v2 v4 : (Int × Int × Int × Int × Int × Int × Int × Int × Int × Bool × Int × Str × Str × Int × Int × Int × Int × Str × Str × Str × Int)) (ks : List Str) (gs : List Int) (hs : List Hl) (h : RInv s) (h0 : 0 ≤ m) (h1 : m ≤ 1000) : order_Decode_p77' m 0 v2 () v4 s ks gs hs [] = some (v2, (), v4, (Cd.rds mkC m.toNat s).2, ks, gs, hs, (Cd.rds mkC m.toNat s).1) := by
  have := dl770 v2 v4 ks gs hs m.toNat 0 s [] h (by simp; omega) (by omega)
  rw [Nat.zero_add, Int.toNat_of_nonneg h0, show ((0 : Nat) : Int) = 0 from rfl, List.nil_append] at this
  exact this
theorem el180 (b : List Int) (v3 v5 : (Int × Int × Int × Int × Int × Int × Int × Int × Int × Bool × Int × Str × Str × Int × Int × Int × Int × Str × Str × Str × Int))  : ∀ (m i : Nat) (s : Rd) (acc : List Str), RInv s → acc.length + m ≤ 1000 → i + m ≤ 1000 → ref22_Decode_p18' b ((i + m : Nat) : Int) (i : Int) v3 s v5  acc = some (b, v3, (Cd.rds tC m s).2, v5, acc ++ (Cd.rds tC m s).1)
  | 0, i, s, acc, h, ha, hi => by
    rw [ref22_Decode_p18_eq, decide_eq_false (by omega)]
    simp [Cd.rds]
  | m + 1, i, s, acc, h, ha, hi => by
    have ih := el180 b v3 v5  m (i + 1) (tC.rd s).2 (acc ++ [(tC.rd s).1]) (tC.inv s h).1 (by simp; omega) (by omega)
    rw [show i + 1 + m = i + (m + 1) by omega] at ih
    rw [ref22_Decode_p18_eq, decide_eq_true (by omega : (i : Int) < ((i + (m + 1) : Nat) : Int)), wrap_succ (by omega)]
    simp only [Int.reduceBEq, w0, w1, w2, w3, w4, w5, w6, w7, w8, w9, w10, w11, w12, w13, w14, w15, w16]
    rw [eT h]
    simp only [Int.reduceBEq, w0, w1, w2, w3, w4, w5, w6, w7, w8, w9, w10, w11, w12, w13, w14, w15, w16]
    rw [room_of (by simp; omega)]
    simp only [Int.reduceBEq, w0, w1, w2, w3, w4, w5, w6, w7, w8, w9, w10, w11, w12, w13, w14, w15, w16, Cd.rds]
    rw [ih]; simp
theorem el18 (b : List Int) (m : Int) (s : Rd) (v3 v5 : (Int × Int × Int × Int × Int × Int × Int × Int × Int × Bool × Int × Str × Str × Int × Int × Int × Int × Str × Str × Str × Int)) (h : RInv s) (h0 : 0 ≤ m) (h1 : m ≤ 1000) : ref22_Decode_p18' b m 0 v3 s v5  [] = some (b, v3, (Cd.rds tC m.toNat s).2, v5, (Cd.rds tC m.toNat s).1) := by
  have := el180 b v3 v5  m.toNat 0 s [] h (by simp; omega) (by omega)
  rw [Nat.zero_add, Int.toNat_of_nonneg h0, show ((0 : Nat) : Int) = 0 from rfl, List.nil_append] at this
  exact this
theorem el390 (b : List Int) (v3 v5 : (Int × Int × Int × Int × Int × Int × Int × Int × Int × Bool × Int × Str × Str × Int × Int × Int × Int × Str × Str × Str × Int)) (ks : List Str) : ∀ (m i : Nat) (s : Rd) (acc : List Int), RInv s → acc.length + m ≤ 1000 → i + m ≤ 1000 → ref22_Decode_p39' b ((i + m : Nat) : Int) (i : Int) v3 s v5 ks acc = some (b, v3, (Cd.rds nC m s).2, v5, ks, acc ++ (Cd.rds nC m s).1)
  | 0, i, s, acc, h, ha, hi => by
    rw [ref22_Decode_p39_eq, decide_eq_false (by omega)]
    simp [Cd.rds]
  | m + 1, i, s, acc, h, ha, hi => by
    have ih := el390 b v3 v5 ks m (i + 1) (nC.rd s).2 (acc ++ [(nC.rd s).1]) (nC.inv s h).1 (by simp; omega) (by omega)
    rw [show i + 1 + m = i + (m + 1) by omega] at ih
    rw [ref22_Decode_p39_eq, decide_eq_true (by omega : (i : Int) < ((i + (m + 1) : Nat) : Int)), wrap_succ (by omega)]
    simp only [Int.reduceBEq, w0, w1, w2, w3, w4, w5, w6, w7, w8, w9, w10, w11, w12, w13, w14, w15, w16]
    rw [eN h]
    simp only [Int.reduceBEq, w0, w1, w2, w3, w4, w5, w6, w7, w8, w9, w10, w11, w12, w13, w14, w15, w16]
    rw [room_of (by simp; omega)]
    simp only [Int.reduceBEq, w0, w1, w2, w3, w4, w5, w6, w7, w8, w9, w10, w11, w12, w13, w14, w15, w16, Cd.rds]
    rw [ih]; simp
theorem el39 (b : List Int) (m : Int) (s : Rd) (v3 v5 : (Int × Int × Int × Int × Int × Int × Int × Int × Int × Bool × Int × Str × Str × Int × Int × Int × Int × Str × Str × Str × Int)) (ks : List Str) (h : RInv s) (h0 : 0 ≤ m) (h1 : m ≤ 1000) : ref22_Decode_p39' b m 0 v3 s v5 ks [] = some (b, v3, (Cd.rds nC m.toNat s).2, v5, ks, (Cd.rds nC m.toNat s).1) := by
  have := el390 b v3 v5 ks m.toNat 0 s [] h (by simp; omega) (by omega)
  rw [Nat.zero_add, Int.toNat_of_nonneg h0, show ((0 : Nat) : Int) = 0 from rfl, List.nil_append] at this
  exact this
theorem el820 (b : List Int) (v3 v5 : (Int × Int × Int × Int × Int × Int × Int × Int × Int × Bool × Int × Str × Str × Int × Int × Int × Int × Str × Str × Str × Int)) (ks : List Str) (gs : List Int) : ∀ (m i : Nat) (s : Rd) (acc : List Hl), RInv s → acc.length + m ≤ 1000 → i + m ≤ 1000 → ref22_Decode_p82' b ((i + m : Nat) : Int) (i : Int) v3 s v5 ks gs acc = some (b, v3, (Cd.rds hlC m s).2, v5, ks, gs, acc ++ (Cd.rds hlC m s).1)
  | 0, i, s, acc, h, ha, hi => by
    rw [ref22_Decode_p82_eq, decide_eq_false (by omega)]
    simp [Cd.rds]
  | m + 1, i, s, acc, h, ha, hi => by
    have ih := el820 b v3 v5 ks gs m (i + 1) (hlC.rd s).2 (acc ++ [(hlC.rd s).1]) (hlC.inv s h).1 (by simp; omega) (by omega)
    rw [show i + 1 + m = i + (m + 1) by omega] at ih
    rw [ref22_Decode_p82_eq, decide_eq_true (by omega : (i : Int) < ((i + (m + 1) : Nat) : Int)), wrap_succ (by omega)]
    simp only [Int.reduceBEq, w0, w1, w2, w3, w4, w5, w6, w7, w8, w9, w10, w11, w12, w13, w14, w15, w16]
    have j1 := (tC.inv s h).1
    have j2 := rU_inv j1
    rw [eT h]
    simp only [Int.reduceBEq, w0, w1, w2, w3, w4, w5, w6, w7, w8, w9, w10, w11, w12, w13, w14, w15, w16]
    rw [refU_eq j1]
    simp only [Int.reduceBEq, w0, w1, w2, w3, w4, w5, w6, w7, w8, w9, w10, w11, w12, w13, w14, w15, w16]
    rw [eN j2]
    simp only [Int.reduceBEq, w0, w1, w2, w3, w4, w5, w6, w7, w8, w9, w10, w11, w12, w13, w14, w15, w16]
    rw [room_of (by simp; omega)]
    simp only [Int.reduceBEq, w0, w1, w2, w3, w4, w5, w6, w7, w8, w9, w10, w11, w12, w13, w14, w15, w16, Cd.rds]
    rw [hl_rd] at ih ⊢
    try dsimp only at ih ⊢
    rw [ih]; simp
theorem el82 (b : List Int) (m : Int) (s : Rd) (v3 v5 : (Int × Int × Int × Int × Int × Int × Int × Int × Int × Bool × Int × Str × Str × Int × Int × Int × Int × Str × Str × Str × Int)) (ks : List Str) (gs : List Int) (h : RInv s) (h0 : 0 ≤ m) (h1 : m ≤ 1000) : ref22_Decode_p82' b m 0 v3 s v5 ks gs [] = some (b, v3, (Cd.rds hlC m.toNat s).2, v5, ks, gs, (Cd.rds hlC m.toNat s).1) := by
  have := el820 b v3 v5 ks gs m.toNat 0 s [] h (by simp; omega) (by omega)
  rw [Nat.zero_add, Int.toNat_of_nonneg h0, show ((0 : Nat) : Int) = 0 from rfl, List.nil_append] at this
  exact this
theorem el1050 (b : List Int) (v3 v5 : (Int × Int × Int × Int × Int × Int × Int × Int × Int × Bool × Int × Str × Str × Int × Int × Int × Int × Str × Str × Str × Int)) (ks : List Str) (gs : List Int) (hs : List Hl) : ∀ (m i : Nat) (s : Rd) (acc : List Mk), RInv s → acc.length + m ≤ 1000 → i + m ≤ 1000 → ref22_Decode_p105' b ((i + m : Nat) : Int) (i : Int) v3 s v5 ks gs hs acc = some (b, v3, (Cd.rds mkC m s).2, v5, ks, gs, hs, acc ++ (Cd.rds mkC m s).1)
  | 0, i, s, acc, h, ha, hi => by
    rw [ref22_Decode_p105_eq, decide_eq_false (by omega)]
    simp [Cd.rds]
  | m + 1, i, s, acc, h, ha, hi => by
    have ih := el1050 b v3 v5 ks gs hs m (i + 1) (mkC.rd s).2 (acc ++ [(mkC.rd s).1]) (mkC.inv s h).1 (by simp; omega) (by omega)
    rw [show i + 1 + m = i + (m + 1) by omega] at ih
    rw [ref22_Decode_p105_eq, decide_eq_true (by omega : (i : Int) < ((i + (m + 1) : Nat) : Int)), wrap_succ (by omega)]
    simp only [Int.reduceBEq, w0, w1, w2, w3, w4, w5, w6, w7, w8, w9, w10, w11, w12, w13, w14, w15, w16]
    have j1 := (tC.inv s h).1
    have j2 := rU_inv j1
    rw [eT h]
    simp only [Int.reduceBEq, w0, w1, w2, w3, w4, w5, w6, w7, w8, w9, w10, w11, w12, w13, w14, w15, w16]
    rw [refU_eq j1]
    simp only [Int.reduceBEq, w0, w1, w2, w3, w4, w5, w6, w7, w8, w9, w10, w11, w12, w13, w14, w15, w16]
    rw [room_of (by simp; omega)]
    simp only [Int.reduceBEq, w0, w1, w2, w3, w4, w5, w6, w7, w8, w9, w10, w11, w12, w13, w14, w15, w16, Cd.rds]
    rw [mk_rd] at ih ⊢
    try dsimp only at ih ⊢
    rw [ih]; simp
theorem el105 (b : List Int) (m : Int) (s : Rd) (v3 v5 : (Int × Int × Int × Int × Int × Int × Int × Int × Int × Bool × Int × Str × Str × Int × Int × Int × Int × Str × Str × Str × Int)) (ks : List Str) (gs : List Int) (hs : List Hl) (h : RInv s) (h0 : 0 ≤ m) (h1 : m ≤ 1000) : ref22_Decode_p105' b m 0 v3 s v5 ks gs hs [] = some (b, v3, (Cd.rds mkC m.toNat s).2, v5, ks, gs, hs, (Cd.rds mkC m.toNat s).1) := by
  have := el1050 b v3 v5 ks gs hs m.toNat 0 s [] h (by simp; omega) (by omega)
  rw [Nat.zero_add, Int.toNat_of_nonneg h0, show ((0 : Nat) : Int) = 0 from rfl, List.nil_append] at this
  exact this
theorem Decode_eq {b : List Int} (hb : ∀ x ∈ b, IsByte x) (h4 : b.length ≤ 4096) :
    order_Decode' b = some (bif decide (orC.enc (orC.rd (b, 0, 0)).1 = b) && orMay (orC.rd (b, 0, 0)).1 then ((orC.rd (b, 0, 0)).1, 0) else (or0, 5)) := by
  have hl : b.length ≤ 1000000000000 := by omega
  have i0 := read_inv b hl hb
  unfold order_Decode'
  rw [decide_eq_false (by omega : ¬ (b.length : Int) > 4096), rRead_eq b hl]
  obtain ⟨s0, hs0⟩ : ∃ s : Rd, ((b, 0, 0) : Rd) = s := ⟨_, rfl⟩
  simp only [Int.reduceBEq, w0, w1, w2, w3, w4, w5, w6, w7, w8, w9, w10, w11, w12, w13, w14, w15, w16]
  rw [hs0] at i0 ⊢
  rw [dN i0]
  obtain ⟨⟨kind, s1⟩, hkind⟩ : ∃ p, nC.rd s0 = p := ⟨_, rfl⟩
  have i1 : RInv s1 := by have := (nC.inv s0 i0).1; rw [hkind] at this; exact this
  rw [hkind]
  simp only [Int.reduceBEq, w0, w1, w2, w3, w4, w5, w6, w7, w8, w9, w10, w11, w12, w13, w14, w15, w16]
  rw [dN i1]
  obtain ⟨⟨client, s2⟩, hclient⟩ : ∃ p, nC.rd s1 = p := ⟨_, rfl⟩
  have i2 : RInv s2 := by have := (nC.inv s1 i1).1; rw [hclient] at this; exact this
  rw [hclient]
  simp only [Int.reduceBEq, w0, w1, w2, w3, w4, w5, w6, w7, w8, w9, w10, w11, w12, w13, w14, w15, w16]
  rw [rUvarint_eq i2]
  obtain ⟨⟨seq, s3⟩, hseq⟩ : ∃ p, rU s2 = p := ⟨_, rfl⟩
  have i3 : RInv s3 := by have := rU_inv i2; rw [hseq] at this; exact this
  rw [hseq]
  simp only [Int.reduceBEq, w0, w1, w2, w3, w4, w5, w6, w7, w8, w9, w10, w11, w12, w13, w14, w15, w16]
  rw [dN i3]
  obtain ⟨⟨ck, s4⟩, hck⟩ : ∃ p, nC.rd s3 = p := ⟨_, rfl⟩
  have i4 : RInv s4 := by have := (nC.inv s3 i3).1; rw [hck] at this; exact this
  rw [hck]
  simp only [Int.reduceBEq, w0, w1, w2, w3, w4, w5, w6, w7, w8, w9, w10, w11, w12, w13, w14, w15, w16]
  rw [rNumber_eq i4 16 (by decide)]
  obtain ⟨⟨nk, s5⟩, hnk⟩ : ∃ p, rNum s4 16 = p := ⟨_, rfl⟩
  have i5 : RInv s5 := by have := rNum_inv i4 16; rw [hnk] at this; exact this
  have rnk := rNum_range i4 16
  rw [hnk] at rnk
  simp only at rnk
  rw [hnk]
  simp only [Int.reduceBEq, w0, w1, w2, w3, w4, w5, w6, w7, w8, w9, w10, w11, w12, w13, w14, w15, w16]
  rw [dl24 nk _ _ _ i5 (by omega) (by omega)]
  obtain ⟨⟨keys, s6⟩, hkeys⟩ : ∃ p, Cd.rds tC nk.toNat s5 = p := ⟨_, rfl⟩
  have i6 : RInv s6 := by have := (Cd.rds_inv tC nk.toNat s5 i5).1; rw [hkeys] at this; exact this
  rw [hkeys]
  simp only [Int.reduceBEq, w0, w1, w2, w3, w4, w5, w6, w7, w8, w9, w10, w11, w12, w13, w14, w15, w16]
  rw [rUvarint_eq i6]
  obtain ⟨⟨tok, s7⟩, htok⟩ : ∃ p, rU s6 = p := ⟨_, rfl⟩
  have i7 : RInv s7 := by have := rU_inv i6; rw [htok] at this; exact this
  rw [htok]
  simp only [Int.reduceBEq, w0, w1, w2, w3, w4, w5, w6, w7, w8, w9, w10, w11, w12, w13, w14, w15, w16]
  rw [dN i7]
  obtain ⟨⟨ttl, s8⟩, httl⟩ : ∃ p, nC.rd s7 = p := ⟨_, rfl⟩
  have i8 : RInv s8 := by have := (nC.inv s7 i7).1; rw [httl] at this; exact this
  rw [httl]
  simp only [Int.reduceBEq, w0, w1, w2, w3, w4, w5, w6, w7, w8, w9, w10, w11, w12, w13, w14, w15, w16]
  rw [rNumber_eq i8 16 (by decide)]
  obtain ⟨⟨ng, s9⟩, hng⟩ : ∃ p, rNum s8 16 = p := ⟨_, rfl⟩
  have i9 : RInv s9 := by have := rNum_inv i8 16; rw [hng] at this; exact this
  have rng := rNum_range i8 16
  rw [hng] at rng
  simp only at rng
  rw [hng]
  simp only [Int.reduceBEq, w0, w1, w2, w3, w4, w5, w6, w7, w8, w9, w10, w11, w12, w13, w14, w15, w16]
  rw [dl41 ng _ _ _ _ i9 (by omega) (by omega)]
  obtain ⟨⟨groups, s10⟩, hgroups⟩ : ∃ p, Cd.rds nC ng.toNat s9 = p := ⟨_, rfl⟩
  have i10 : RInv s10 := by have := (Cd.rds_inv nC ng.toNat s9 i9).1; rw [hgroups] at this; exact this
  rw [hgroups]
  simp only [Int.reduceBEq, w0, w1, w2, w3, w4, w5, w6, w7, w8, w9, w10, w11, w12, w13, w14, w15, w16]
  rw [dN i10]
  obtain ⟨⟨group, s11⟩, hgroup⟩ : ∃ p, nC.rd s10 = p := ⟨_, rfl⟩
  have i11 : RInv s11 := by have := (nC.inv s10 i10).1; rw [hgroup] at this; exact this
  rw [hgroup]
  simp only [Int.reduceBEq, w0, w1, w2, w3, w4, w5, w6, w7, w8, w9, w10, w11, w12, w13, w14, w15, w16]
  rw [dN i11]
  obtain ⟨⟨code, s12⟩, hcode⟩ : ∃ p, nC.rd s11 = p := ⟨_, rfl⟩
  have i12 : RInv s12 := by have := (nC.inv s11 i11).1; rw [hcode] at this; exact this
  rw [hcode]
  simp only [Int.reduceBEq, w0, w1, w2, w3, w4, w5, w6, w7, w8, w9, w10, w11, w12, w13, w14, w15, w16]
  rw [rUvarint_eq i12]
  obtain ⟨⟨token, s13⟩, htoken⟩ : ∃ p, rU s12 = p := ⟨_, rfl⟩
  have i13 : RInv s13 := by have := rU_inv i12; rw [htoken] at this; exact this
  rw [htoken]
  simp only [Int.reduceBEq, w0, w1, w2, w3, w4, w5, w6, w7, w8, w9, w10, w11, w12, w13, w14, w15, w16]
  rw [rNumber_eq i13 1 (by decide)]
  obtain ⟨⟨tk, s14⟩, htk⟩ : ∃ p, rNum s13 1 = p := ⟨_, rfl⟩
  have i14 : RInv s14 := by have := rNum_inv i13 1; rw [htk] at this; exact this
  rw [htk]
  simp only [Int.reduceBEq, w0, w1, w2, w3, w4, w5, w6, w7, w8, w9, w10, w11, w12, w13, w14, w15, w16]
  rw [rUvarint_eq i14]
  obtain ⟨⟨pid, s15⟩, hpid⟩ : ∃ p, rU s14 = p := ⟨_, rfl⟩
  have i15 : RInv s15 := by have := rU_inv i14; rw [hpid] at this; exact this
  rw [hpid]
  simp only [Int.reduceBEq, w0, w1, w2, w3, w4, w5, w6, w7, w8, w9, w10, w11, w12, w13, w14, w15, w16]
  rw [dT i15]
  obtain ⟨⟨pf, s16⟩, hpf⟩ : ∃ p, tC.rd s15 = p := ⟨_, rfl⟩
  have i16 : RInv s16 := by have := (tC.inv s15 i15).1; rw [hpf] at this; exact this
  rw [hpf]
  simp only [Int.reduceBEq, w0, w1, w2, w3, w4, w5, w6, w7, w8, w9, w10, w11, w12, w13, w14, w15, w16]
  rw [dT i16]
  obtain ⟨⟨pt, s17⟩, hpt⟩ : ∃ p, tC.rd s16 = p := ⟨_, rfl⟩
  have i17 : RInv s17 := by have := (tC.inv s16 i16).1; rw [hpt] at this; exact this
  rw [hpt]
  simp only [Int.reduceBEq, w0, w1, w2, w3, w4, w5, w6, w7, w8, w9, w10, w11, w12, w13, w14, w15, w16]
  rw [dN i17]
  obtain ⟨⟨pfrom, s18⟩, hpfrom⟩ : ∃ p, nC.rd s17 = p := ⟨_, rfl⟩
  have i18 : RInv s18 := by have := (nC.inv s17 i17).1; rw [hpfrom] at this; exact this
  rw [hpfrom]
  simp only [Int.reduceBEq, w0, w1, w2, w3, w4, w5, w6, w7, w8, w9, w10, w11, w12, w13, w14, w15, w16]
  rw [dN i18]
  obtain ⟨⟨pto, s19⟩, hpto⟩ : ∃ p, nC.rd s18 = p := ⟨_, rfl⟩
  have i19 : RInv s19 := by have := (nC.inv s18 i18).1; rw [hpto] at this; exact this
  rw [hpto]
  simp only [Int.reduceBEq, w0, w1, w2, w3, w4, w5, w6, w7, w8, w9, w10, w11, w12, w13, w14, w15, w16]
  rw [dN i19]
  obtain ⟨⟨pstep, s20⟩, hpstep⟩ : ∃ p, nC.rd s19 = p := ⟨_, rfl⟩
  have i20 : RInv s20 := by have := (nC.inv s19 i19).1; rw [hpstep] at this; exact this
  rw [hpstep]
  simp only [Int.reduceBEq, w0, w1, w2, w3, w4, w5, w6, w7, w8, w9, w10, w11, w12, w13, w14, w15, w16]
  rw [rUvarint_eq i20]
  obtain ⟨⟨qplan, s21⟩, hqplan⟩ : ∃ p, rU s20 = p := ⟨_, rfl⟩
  have i21 : RInv s21 := by have := rU_inv i20; rw [hqplan] at this; exact this
  rw [hqplan]
  simp only [Int.reduceBEq, w0, w1, w2, w3, w4, w5, w6, w7, w8, w9, w10, w11, w12, w13, w14, w15, w16]
  rw [dT i21]
  obtain ⟨⟨qf, s22⟩, hqf⟩ : ∃ p, tC.rd s21 = p := ⟨_, rfl⟩
  have i22 : RInv s22 := by have := (tC.inv s21 i21).1; rw [hqf] at this; exact this
  rw [hqf]
  simp only [Int.reduceBEq, w0, w1, w2, w3, w4, w5, w6, w7, w8, w9, w10, w11, w12, w13, w14, w15, w16]
  rw [dT i22]
  obtain ⟨⟨qt, s23⟩, hqt⟩ : ∃ p, tC.rd s22 = p := ⟨_, rfl⟩
  have i23 : RInv s23 := by have := (tC.inv s22 i22).1; rw [hqt] at this; exact this
  rw [hqt]
  simp only [Int.reduceBEq, w0, w1, w2, w3, w4, w5, w6, w7, w8, w9, w10, w11, w12, w13, w14, w15, w16]
  rw [rNumber_eq i23 256 (by decide)]
  obtain ⟨⟨nh, s24⟩, hnh⟩ : ∃ p, rNum s23 256 = p := ⟨_, rfl⟩
  have i24 : RInv s24 := by have := rNum_inv i23 256; rw [hnh] at this; exact this
  have rnh := rNum_range i23 256
  rw [hnh] at rnh
  simp only at rnh
  rw [hnh]
  simp only [Int.reduceBEq, w0, w1, w2, w3, w4, w5, w6, w7, w8, w9, w10, w11, w12, w13, w14, w15, w16]
  rw [dl62 nh _ _ _ _ _ i24 (by omega) (by omega)]
  obtain ⟨⟨holds, s25⟩, hholds⟩ : ∃ p, Cd.rds hlC nh.toNat s24 = p := ⟨_, rfl⟩
  have i25 : RInv s25 := by have := (Cd.rds_inv hlC nh.toNat s24 i24).1; rw [hholds] at this; exact this
  rw [hholds]
  simp only [Int.reduceBEq, w0, w1, w2, w3, w4, w5, w6, w7, w8, w9, w10, w11, w12, w13, w14, w15, w16]
  rw [rNumber_eq i25 256 (by decide)]
  obtain ⟨⟨nm, s26⟩, hnm⟩ : ∃ p, rNum s25 256 = p := ⟨_, rfl⟩
  have i26 : RInv s26 := by have := rNum_inv i25 256; rw [hnm] at this; exact this
  have rnm := rNum_range i25 256
  rw [hnm] at rnm
  simp only at rnm
  rw [hnm]
  simp only [Int.reduceBEq, w0, w1, w2, w3, w4, w5, w6, w7, w8, w9, w10, w11, w12, w13, w14, w15, w16]
  rw [dl77 nm _ _ _ _ _ _ i26 (by omega) (by omega)]
  obtain ⟨⟨marks, s27⟩, hmarks⟩ : ∃ p, Cd.rds mkC nm.toNat s26 = p := ⟨_, rfl⟩
  have i27 : RInv s27 := by have := (Cd.rds_inv mkC nm.toNat s26 i26).1; rw [hmarks] at this; exact this
  rw [hmarks]
  simp only [Int.reduceBEq, w0, w1, w2, w3, w4, w5, w6, w7, w8, w9, w10, w11, w12, w13, w14, w15, w16]
  rw [dT i27]
  obtain ⟨⟨key, s28⟩, hkey⟩ : ∃ p, tC.rd s27 = p := ⟨_, rfl⟩
  have i28 : RInv s28 := by have := (tC.inv s27 i27).1; rw [hkey] at this; exact this
  rw [hkey]
  simp only [Int.reduceBEq, w0, w1, w2, w3, w4, w5, w6, w7, w8, w9, w10, w11, w12, w13, w14, w15, w16]
  rw [dN i28]
  obtain ⟨⟨n, s29⟩, hn⟩ : ∃ p, nC.rd s28 = p := ⟨_, rfl⟩
  have i29 : RInv s29 := by have := (nC.inv s28 i28).1; rw [hn] at this; exact this
  rw [hn]
  simp only [Int.reduceBEq, w0, w1, w2, w3, w4, w5, w6, w7, w8, w9, w10, w11, w12, w13, w14, w15, w16]
  have ho : orC.rd s0 = ((kind, (client, seq), (ck, keys, tok, ttl), groups, group, code, token, (tk == 1), (pid, (pf, pt), pfrom, pto, pstep), (qplan, (qf, qt), holds, marks), key, n), s29) := by
    simp only [orC, calC, plnC, pclC, pair_rd, list_rd, bit_rd, u_rd, show ((16 : Nat) : Int) = 16 from rfl, show ((256 : Nat) : Int) = 256 from rfl, hkind, hclient, hseq, hck, hnk, hkeys, htok, httl, hng, hgroups, hgroup, hcode, htoken, htk, hpid, hpf, hpt, hpfrom, hpto, hpstep, hqplan, hqf, hqt, hnh, hholds, hnm, hmarks, hkey, hn]
  have hw := Cd.whole orC hb hl
  rw [hs0] at hw
  have hinv := orC.inv _ i0
  have hz := sz_of hinv.2
  have hft := fits_of hinv.2
  rw [ho] at hw hinv hz hft
  simp only at hw hinv hz hft
  rw [ho]
  simp only
  rw [rDone_eq i29]
  simp only [Int.reduceBEq, w0, w1, w2, w3, w4, w5, w6, w7, w8, w9, w10, w11, w12, w13, w14, w15, w16]
  rw [Check_eq _ hz]
  by_cases h : s29.2.2 = 0
  · by_cases hr : rest s29 = []
    · rw [decide_eq_true (hw.1 ⟨h, hr⟩), if_neg (by simp [h]), if_neg (by simp [hr])]
      cases orMay _ <;> rfl
    · rw [decide_eq_false (fun hd => hr (hw.2 hd).2), if_neg (by simp [h]), if_pos hr]; rfl
  · have : (s29.2.2 != 0) = true := by simp [h]
    rw [decide_eq_false (fun hd => h (hw.2 hd).1), if_pos h, this]; rfl
theorem refDecode_eq {b : List Int} (hb : ∀ x ∈ b, IsByte x) (h4 : b.length ≤ 4096) :
    ref22_Decode' b = some (bif decide (orC.enc (orC.rd (b, 0, 0)).1 = b) && orMay (orC.rd (b, 0, 0)).1 then ((orC.rd (b, 0, 0)).1, true) else (or0, false)) := by
  have hl : b.length ≤ 1000000000000 := by omega
  have i0 := read_inv b hl hb
  unfold ref22_Decode'
  obtain ⟨s0, hs0⟩ : ∃ s : Rd, ((b, 0, 0) : Rd) = s := ⟨_, rfl⟩
  rw [hs0] at i0 ⊢
  rw [eN i0]
  obtain ⟨⟨kind, s1⟩, hkind⟩ : ∃ p, nC.rd s0 = p := ⟨_, rfl⟩
  have i1 : RInv s1 := by have := (nC.inv s0 i0).1; rw [hkind] at this; exact this
  rw [hkind]
  simp only [Int.reduceBEq, w0, w1, w2, w3, w4, w5, w6, w7, w8, w9, w10, w11, w12, w13, w14, w15, w16]
  rw [eN i1]
  obtain ⟨⟨client, s2⟩, hclient⟩ : ∃ p, nC.rd s1 = p := ⟨_, rfl⟩
  have i2 : RInv s2 := by have := (nC.inv s1 i1).1; rw [hclient] at this; exact this
  rw [hclient]
  simp only [Int.reduceBEq, w0, w1, w2, w3, w4, w5, w6, w7, w8, w9, w10, w11, w12, w13, w14, w15, w16]
  rw [refU_eq i2]
  obtain ⟨⟨seq, s3⟩, hseq⟩ : ∃ p, rU s2 = p := ⟨_, rfl⟩
  have i3 : RInv s3 := by have := rU_inv i2; rw [hseq] at this; exact this
  rw [hseq]
  simp only [Int.reduceBEq, w0, w1, w2, w3, w4, w5, w6, w7, w8, w9, w10, w11, w12, w13, w14, w15, w16]
  rw [eN i3]
  obtain ⟨⟨ck, s4⟩, hck⟩ : ∃ p, nC.rd s3 = p := ⟨_, rfl⟩
  have i4 : RInv s4 := by have := (nC.inv s3 i3).1; rw [hck] at this; exact this
  rw [hck]
  simp only [Int.reduceBEq, w0, w1, w2, w3, w4, w5, w6, w7, w8, w9, w10, w11, w12, w13, w14, w15, w16]
  rw [refNum_eq i4 16 (by decide)]
  obtain ⟨⟨nk, s5⟩, hnk⟩ : ∃ p, rNum s4 16 = p := ⟨_, rfl⟩
  have i5 : RInv s5 := by have := rNum_inv i4 16; rw [hnk] at this; exact this
  have rnk := rNum_range i4 16
  rw [hnk] at rnk
  simp only at rnk
  rw [hnk]
  simp only [Int.reduceBEq, w0, w1, w2, w3, w4, w5, w6, w7, w8, w9, w10, w11, w12, w13, w14, w15, w16]
  rw [el18 _ nk _ _ _ i5 (by omega) (by omega)]
  obtain ⟨⟨keys, s6⟩, hkeys⟩ : ∃ p, Cd.rds tC nk.toNat s5 = p := ⟨_, rfl⟩
  have i6 : RInv s6 := by have := (Cd.rds_inv tC nk.toNat s5 i5).1; rw [hkeys] at this; exact this
  rw [hkeys]
  simp only [Int.reduceBEq, w0, w1, w2, w3, w4, w5, w6, w7, w8, w9, w10, w11, w12, w13, w14, w15, w16]
  rw [refU_eq i6]
  obtain ⟨⟨tok, s7⟩, htok⟩ : ∃ p, rU s6 = p := ⟨_, rfl⟩
  have i7 : RInv s7 := by have := rU_inv i6; rw [htok] at this; exact this
  rw [htok]
  simp only [Int.reduceBEq, w0, w1, w2, w3, w4, w5, w6, w7, w8, w9, w10, w11, w12, w13, w14, w15, w16]
  rw [eN i7]
  obtain ⟨⟨ttl, s8⟩, httl⟩ : ∃ p, nC.rd s7 = p := ⟨_, rfl⟩
  have i8 : RInv s8 := by have := (nC.inv s7 i7).1; rw [httl] at this; exact this
  rw [httl]
  simp only [Int.reduceBEq, w0, w1, w2, w3, w4, w5, w6, w7, w8, w9, w10, w11, w12, w13, w14, w15, w16]
  rw [refNum_eq i8 16 (by decide)]
  obtain ⟨⟨ng, s9⟩, hng⟩ : ∃ p, rNum s8 16 = p := ⟨_, rfl⟩
  have i9 : RInv s9 := by have := rNum_inv i8 16; rw [hng] at this; exact this
  have rng := rNum_range i8 16
  rw [hng] at rng
  simp only at rng
  rw [hng]
  simp only [Int.reduceBEq, w0, w1, w2, w3, w4, w5, w6, w7, w8, w9, w10, w11, w12, w13, w14, w15, w16]
  rw [el39 _ ng _ _ _ _ i9 (by omega) (by omega)]
  obtain ⟨⟨groups, s10⟩, hgroups⟩ : ∃ p, Cd.rds nC ng.toNat s9 = p := ⟨_, rfl⟩
  have i10 : RInv s10 := by have := (Cd.rds_inv nC ng.toNat s9 i9).1; rw [hgroups] at this; exact this
  rw [hgroups]
  simp only [Int.reduceBEq, w0, w1, w2, w3, w4, w5, w6, w7, w8, w9, w10, w11, w12, w13, w14, w15, w16]
  rw [eN i10]
  obtain ⟨⟨group, s11⟩, hgroup⟩ : ∃ p, nC.rd s10 = p := ⟨_, rfl⟩
  have i11 : RInv s11 := by have := (nC.inv s10 i10).1; rw [hgroup] at this; exact this
  rw [hgroup]
  simp only [Int.reduceBEq, w0, w1, w2, w3, w4, w5, w6, w7, w8, w9, w10, w11, w12, w13, w14, w15, w16]
  rw [eN i11]
  obtain ⟨⟨code, s12⟩, hcode⟩ : ∃ p, nC.rd s11 = p := ⟨_, rfl⟩
  have i12 : RInv s12 := by have := (nC.inv s11 i11).1; rw [hcode] at this; exact this
  rw [hcode]
  simp only [Int.reduceBEq, w0, w1, w2, w3, w4, w5, w6, w7, w8, w9, w10, w11, w12, w13, w14, w15, w16]
  rw [refU_eq i12]
  obtain ⟨⟨token, s13⟩, htoken⟩ : ∃ p, rU s12 = p := ⟨_, rfl⟩
  have i13 : RInv s13 := by have := rU_inv i12; rw [htoken] at this; exact this
  rw [htoken]
  simp only [Int.reduceBEq, w0, w1, w2, w3, w4, w5, w6, w7, w8, w9, w10, w11, w12, w13, w14, w15, w16]
  rw [refNum_eq i13 1 (by decide)]
  obtain ⟨⟨tk, s14⟩, htk⟩ : ∃ p, rNum s13 1 = p := ⟨_, rfl⟩
  have i14 : RInv s14 := by have := rNum_inv i13 1; rw [htk] at this; exact this
  rw [htk]
  simp only [Int.reduceBEq, w0, w1, w2, w3, w4, w5, w6, w7, w8, w9, w10, w11, w12, w13, w14, w15, w16]
  rw [refU_eq i14]
  obtain ⟨⟨pid, s15⟩, hpid⟩ : ∃ p, rU s14 = p := ⟨_, rfl⟩
  have i15 : RInv s15 := by have := rU_inv i14; rw [hpid] at this; exact this
  rw [hpid]
  simp only [Int.reduceBEq, w0, w1, w2, w3, w4, w5, w6, w7, w8, w9, w10, w11, w12, w13, w14, w15, w16]
  rw [eT i15]
  obtain ⟨⟨pf, s16⟩, hpf⟩ : ∃ p, tC.rd s15 = p := ⟨_, rfl⟩
  have i16 : RInv s16 := by have := (tC.inv s15 i15).1; rw [hpf] at this; exact this
  rw [hpf]
  simp only [Int.reduceBEq, w0, w1, w2, w3, w4, w5, w6, w7, w8, w9, w10, w11, w12, w13, w14, w15, w16]
  rw [eT i16]
  obtain ⟨⟨pt, s17⟩, hpt⟩ : ∃ p, tC.rd s16 = p := ⟨_, rfl⟩
  have i17 : RInv s17 := by have := (tC.inv s16 i16).1; rw [hpt] at this; exact this
  rw [hpt]
  simp only [Int.reduceBEq, w0, w1, w2, w3, w4, w5, w6, w7, w8, w9, w10, w11, w12, w13, w14, w15, w16]
  rw [eN i17]
  obtain ⟨⟨pfrom, s18⟩, hpfrom⟩ : ∃ p, nC.rd s17 = p := ⟨_, rfl⟩
  have i18 : RInv s18 := by have := (nC.inv s17 i17).1; rw [hpfrom] at this; exact this
  rw [hpfrom]
  simp only [Int.reduceBEq, w0, w1, w2, w3, w4, w5, w6, w7, w8, w9, w10, w11, w12, w13, w14, w15, w16]
  rw [eN i18]
  obtain ⟨⟨pto, s19⟩, hpto⟩ : ∃ p, nC.rd s18 = p := ⟨_, rfl⟩
  have i19 : RInv s19 := by have := (nC.inv s18 i18).1; rw [hpto] at this; exact this
  rw [hpto]
  simp only [Int.reduceBEq, w0, w1, w2, w3, w4, w5, w6, w7, w8, w9, w10, w11, w12, w13, w14, w15, w16]
  rw [eN i19]
  obtain ⟨⟨pstep, s20⟩, hpstep⟩ : ∃ p, nC.rd s19 = p := ⟨_, rfl⟩
  have i20 : RInv s20 := by have := (nC.inv s19 i19).1; rw [hpstep] at this; exact this
  rw [hpstep]
  simp only [Int.reduceBEq, w0, w1, w2, w3, w4, w5, w6, w7, w8, w9, w10, w11, w12, w13, w14, w15, w16]
  rw [refU_eq i20]
  obtain ⟨⟨qplan, s21⟩, hqplan⟩ : ∃ p, rU s20 = p := ⟨_, rfl⟩
  have i21 : RInv s21 := by have := rU_inv i20; rw [hqplan] at this; exact this
  rw [hqplan]
  simp only [Int.reduceBEq, w0, w1, w2, w3, w4, w5, w6, w7, w8, w9, w10, w11, w12, w13, w14, w15, w16]
  rw [eT i21]
  obtain ⟨⟨qf, s22⟩, hqf⟩ : ∃ p, tC.rd s21 = p := ⟨_, rfl⟩
  have i22 : RInv s22 := by have := (tC.inv s21 i21).1; rw [hqf] at this; exact this
  rw [hqf]
  simp only [Int.reduceBEq, w0, w1, w2, w3, w4, w5, w6, w7, w8, w9, w10, w11, w12, w13, w14, w15, w16]
  rw [eT i22]
  obtain ⟨⟨qt, s23⟩, hqt⟩ : ∃ p, tC.rd s22 = p := ⟨_, rfl⟩
  have i23 : RInv s23 := by have := (tC.inv s22 i22).1; rw [hqt] at this; exact this
  rw [hqt]
  simp only [Int.reduceBEq, w0, w1, w2, w3, w4, w5, w6, w7, w8, w9, w10, w11, w12, w13, w14, w15, w16]
  rw [refNum_eq i23 256 (by decide)]
  obtain ⟨⟨nh, s24⟩, hnh⟩ : ∃ p, rNum s23 256 = p := ⟨_, rfl⟩
  have i24 : RInv s24 := by have := rNum_inv i23 256; rw [hnh] at this; exact this
  have rnh := rNum_range i23 256
  rw [hnh] at rnh
  simp only at rnh
  rw [hnh]
  simp only [Int.reduceBEq, w0, w1, w2, w3, w4, w5, w6, w7, w8, w9, w10, w11, w12, w13, w14, w15, w16]
  rw [el82 _ nh _ _ _ _ _ i24 (by omega) (by omega)]
  obtain ⟨⟨holds, s25⟩, hholds⟩ : ∃ p, Cd.rds hlC nh.toNat s24 = p := ⟨_, rfl⟩
  have i25 : RInv s25 := by have := (Cd.rds_inv hlC nh.toNat s24 i24).1; rw [hholds] at this; exact this
  rw [hholds]
  simp only [Int.reduceBEq, w0, w1, w2, w3, w4, w5, w6, w7, w8, w9, w10, w11, w12, w13, w14, w15, w16]
  rw [refNum_eq i25 256 (by decide)]
  obtain ⟨⟨nm, s26⟩, hnm⟩ : ∃ p, rNum s25 256 = p := ⟨_, rfl⟩
  have i26 : RInv s26 := by have := rNum_inv i25 256; rw [hnm] at this; exact this
  have rnm := rNum_range i25 256
  rw [hnm] at rnm
  simp only at rnm
  rw [hnm]
  simp only [Int.reduceBEq, w0, w1, w2, w3, w4, w5, w6, w7, w8, w9, w10, w11, w12, w13, w14, w15, w16]
  rw [el105 _ nm _ _ _ _ _ _ i26 (by omega) (by omega)]
  obtain ⟨⟨marks, s27⟩, hmarks⟩ : ∃ p, Cd.rds mkC nm.toNat s26 = p := ⟨_, rfl⟩
  have i27 : RInv s27 := by have := (Cd.rds_inv mkC nm.toNat s26 i26).1; rw [hmarks] at this; exact this
  rw [hmarks]
  simp only [Int.reduceBEq, w0, w1, w2, w3, w4, w5, w6, w7, w8, w9, w10, w11, w12, w13, w14, w15, w16]
  rw [eT i27]
  obtain ⟨⟨key, s28⟩, hkey⟩ : ∃ p, tC.rd s27 = p := ⟨_, rfl⟩
  have i28 : RInv s28 := by have := (tC.inv s27 i27).1; rw [hkey] at this; exact this
  rw [hkey]
  simp only [Int.reduceBEq, w0, w1, w2, w3, w4, w5, w6, w7, w8, w9, w10, w11, w12, w13, w14, w15, w16]
  rw [eN i28]
  obtain ⟨⟨n, s29⟩, hn⟩ : ∃ p, nC.rd s28 = p := ⟨_, rfl⟩
  have i29 : RInv s29 := by have := (nC.inv s28 i28).1; rw [hn] at this; exact this
  rw [hn]
  simp only [Int.reduceBEq, w0, w1, w2, w3, w4, w5, w6, w7, w8, w9, w10, w11, w12, w13, w14, w15, w16]
  have ho : orC.rd s0 = ((kind, (client, seq), (ck, keys, tok, ttl), groups, group, code, token, (tk == 1), (pid, (pf, pt), pfrom, pto, pstep), (qplan, (qf, qt), holds, marks), key, n), s29) := by
    simp only [orC, calC, plnC, pclC, pair_rd, list_rd, bit_rd, u_rd, show ((16 : Nat) : Int) = 16 from rfl, show ((256 : Nat) : Int) = 256 from rfl, hkind, hclient, hseq, hck, hnk, hkeys, htok, httl, hng, hgroups, hgroup, hcode, htoken, htk, hpid, hpf, hpt, hpfrom, hpto, hpstep, hqplan, hqf, hqt, hnh, hholds, hnm, hmarks, hkey, hn]
  have hw := Cd.whole orC hb hl
  rw [hs0] at hw
  have hinv := orC.inv _ i0
  have hz := sz_of hinv.2
  have hft := fits_of hinv.2
  rw [ho] at hw hinv hz hft
  simp only at hw hinv hz hft
  rw [ho]
  simp only
  rw [refMay_eq _ hz]
  simp only [Int.reduceBEq, w0, w1, w2, w3, w4, w5, w6, w7, w8, w9, w10, w11, w12, w13, w14, w15, w16]
  rw [refBytes_all _ hft]
  simp only [Int.reduceBEq, w0, w1, w2, w3, w4, w5, w6, w7, w8, w9, w10, w11, w12, w13, w14, w15, w16]
  have ht := toBytes_inj (orC.byte _ hinv.2) hb
  cases orMay (kind, (client, seq), (ck, keys, tok, ttl), groups, group, code, token, (tk == 1), (pid, (pf, pt), pfrom, pto, pstep), (qplan, (qf, qt), holds, marks), key, n) with
  | false => simp only [Int.reduceBEq, w0, w1, w2, w3, w4, w5, w6, w7, w8, w9, w10, w11, w12, w13, w14, w15, w16]
  | true =>
    simp only [Int.reduceBEq, w0, w1, w2, w3, w4, w5, w6, w7, w8, w9, w10, w11, w12, w13, w14, w15, w16]
    by_cases hd : orC.enc (kind, (client, seq), (ck, keys, tok, ttl), groups, group, code, token, (tk == 1), (pid, (pf, pt), pfrom, pto, pstep), (qplan, (qf, qt), holds, marks), key, n) = b
    · rw [decide_eq_true hd, hd]
      simp
    · rw [decide_eq_false hd]
      have : (toBytes (orC.enc (kind, (client, seq), (ck, keys, tok, ttl), groups, group, code, token, (tk == 1), (pid, (pf, pt), pfrom, pto, pstep), (qplan, (qf, qt), holds, marks), key, n)) == toBytes b) = false := by
        cases hh : (toBytes (orC.enc (kind, (client, seq), (ck, keys, tok, ttl), groups, group, code, token, (tk == 1), (pid, (pf, pt), pfrom, pto, pstep), (qplan, (qf, qt), holds, marks), key, n)) == toBytes b) with
        | true => exact absurd (ht.1 hh) hd
        | false => rfl
      simp only [Int.reduceBEq, w0, w1, w2, w3, w4, w5, w6, w7, w8, w9, w10, w11, w12, w13, w14, w15, w16, bne, this]
end Go.Proofs.Ytabdbihbodcmeaa.gg
