/- A part of our own proof. -/
import Derived.Test.YtlhifcknhgmidaaGreatDoorK6
import Derived.Test.YtlhifcknhgmidaaGreatDoorW
open Go Go.GG
set_option linter.unusedVariables false
namespace Go.Proofs.YtlhifcknhgmidaaGreatDoor.gg
def bs (x : Nat) : Nat := if x % 2 = 1 then (x / 2) ^^^ 3988292384 else x / 2
theorem yJv {x : Nat} (h : x < 4294967296) : bs x < 4294967296 := by
 unfold bs
 split
 ·exact Nat.xor_lt_two_pow (n := 32) (by omega) (by decide)
 ·omega
theorem yS0 (a c : Nat) : (a ^^^ 2 * c) % 2 = a % 2 := by
 have h := Nat.xor_mod_two_pow (a := a) (b := 2 * c) (n := 1)
 have e : 2 * c % 2 ^ 1 = 0 := by omega
 rw [e, Nat.xor_zero] at h
 omega
theorem ySw (a c : Nat) : (a ^^^ 2 * c) / 2 = a / 2 ^^^ c := by
 rw [Nat.xor_div_two]
 congr 1
 omega
theorem yF1 (a c : Nat) : bs (a ^^^ 2 * c) = bs a ^^^ c := by
 unfold bs
 rw [yS0, ySw]
 split
 ·rw [Nat.xor_assoc, Nat.xor_comm c, ← Nat.xor_assoc]
 ·rfl
def nib (x : Nat) : Nat := bs (bs (bs (bs x)))
theorem yAj {x : Nat} (h : x < 4294967296) : nib x < 4294967296 := yJv (yJv (yJv (yJv h)))
theorem yUz (a c : Nat) : nib (a ^^^ 16 * c) = nib a ^^^ c := by
 unfold nib
 rw [show 16 * c = 2 * (2 * (2 * (2 * c))) by omega, yF1, yF1, yF1, yF1]
theorem yU2 (x : Nat) : x = x % 16 ^^^ 16 * (x / 16) := by
 have h1 : (x % 16 ^^^ 16 * (x / 16)) % 2 ^ 4 = x % 16 := by
  rw [Nat.xor_mod_two_pow]
  have : 16 * (x / 16) % 2 ^ 4 = 0 := by omega
  rw [this, Nat.xor_zero]; omega
 have h2 : (x % 16 ^^^ 16 * (x / 16)) / 2 ^ 4 = x / 16 := by
  rw [Nat.xor_div_two_pow]
  have e1 : x % 16 / 2 ^ 4 = 0 := by omega
  have e2 : 16 * (x / 16) / 2 ^ 4 = x / 16 := by omega
  rw [e1, e2, Nat.zero_xor]
 omega
theorem yIy (x : Nat) : nib x = nib (x % 16) ^^^ x / 16 := by
 conv => lhs; rw [yU2 x, yUz]
theorem yJx {a b : Nat} (ha : a < 4294967296) (hb : b < 4294967296) : yD .xor .u32 (a : Int) (b : Int) = ((a ^^^ b : Nat) : Int) := by
 have h1 : (BitVec.ofInt IntKind.u32.bits (a : Int)).toNat = a := by
  rw [show IntKind.u32.bits = 32 from rfl, BitVec.ofInt_natCast, BitVec.toNat_ofNat]; omega
 have h2 : (BitVec.ofInt IntKind.u32.bits (b : Int)).toNat = b := by
  rw [show IntKind.u32.bits = 32 from rfl, BitVec.ofInt_natCast, BitVec.toNat_ofNat]; omega
 show IntKind.wrap .u32 (((BitVec.ofInt IntKind.u32.bits (a : Int) ^^^ BitVec.ofInt IntKind.u32.bits (b : Int)).toNat : Nat) : Int) = _
 rw [BitVec.toNat_xor, h1, h2, wrap_u32]
 have := Nat.xor_lt_two_pow (n := 32) (by omega : a < 2 ^ 32) (by omega : b < 2 ^ 32)
 omega
theorem yT5 {a : Nat} (ha : a < 4294967296) : yD .and .u32 (a : Int) 15 = ((a % 16 : Nat) : Int) := by
 have h1 : (BitVec.ofInt IntKind.u32.bits (a : Int)).toNat = a := by
  rw [show IntKind.u32.bits = 32 from rfl, BitVec.ofInt_natCast, BitVec.toNat_ofNat]; omega
 have h2 : (BitVec.ofInt IntKind.u32.bits (15 : Int)).toNat = 2 ^ 4 - 1 := by decide
 show IntKind.wrap .u32 (((BitVec.ofInt IntKind.u32.bits (a : Int) &&& BitVec.ofInt IntKind.u32.bits (15 : Int)).toNat : Nat) : Int) = _
 rw [BitVec.toNat_and, h1, h2, Nat.and_two_pow_sub_one_eq_mod, wrap_u32]
 omega
theorem yVe (a : Nat) : kA .u32 (a : Int) 4 = ((a / 16 : Nat) : Int) := by
 rw [show (4 : Int) = ((4 : Nat) : Int) from rfl, yU8 4 (by decide)]
 omega
def zLr (x : Nat) (b : Int) : Nat := nib (nib (x ^^^ b.toNat))
theorem yMp {b : Int} (h : yQ b) : b.toNat < 256 ∧ ((b.toNat : Nat) : Int) = b := by
 obtain ⟨h0, h1⟩ := h
 omega
theorem yPm {x : Nat} {b : Int} (h : x < 4294967296) (hb : yQ b) : zLr x b < 4294967296 := by
 have h1 := (yMp hb).1
 exact yAj (yAj (Nat.xor_lt_two_pow (n := 32) (by omega) (by omega)))
theorem yK2 : ∀ (l : List Int) (x : Nat), (∀ b ∈ l, yQ b) → x < 4294967296 → l.foldl zLr x < 4294967296
 | [], _, _, h => h
 | b :: l, x, hb, h => yK2 l _ (fun y hy => hb y (List.mem_cons_of_mem _ hy)) (yPm h (hb b (List.mem_cons_self ..)))
def yTv (l : List Int) : Nat := l.foldl zLr 4294967295 ^^^ 4294967295
theorem ySj : ∀ r, r < 16 → vW[r]? = some ((nib r : Nat) : Int) := by decide +kernel
theorem yK3 (x : Nat) : at? vW ((x % 16 : Nat) : Int) = some ((nib (x % 16) : Nat) : Int) := by
 have := ySj (x % 16) (by omega)
 unfold at?
 rw [decide_eq_true (by omega), cond_true, Int.toNat_natCast]
 exact this
theorem yUx {l : List Int} (hl : l.length ≤ 1000000000000) (hb : ∀ b ∈ l, yQ b) {x : Nat} (hx : x < 4294967296) :
 zGp (x : Int) l (l.length : Int) 0 = some ((l.foldl zLr x : Nat) : Int) := by
 have key := yQ7 l zLr x (fun i s => zGp (s : Int) l (l.length : Int) (i : Int)) (out := fun s => some ((s : Nat) : Int)) (fun i hi => by
  try dsimp only
  have hs := yK2 (l.take i) x (fun b h => hb b (List.mem_of_mem_take h)) hx
  generalize (l.take i).foldl zLr x = s at hs ⊢
  obtain ⟨hb1, hb2⟩ := yMp (hb l[i] (List.getElem_mem hi))
  have hy : s ^^^ l[i].toNat < 4294967296 := Nat.xor_lt_two_pow (n := 32) (by omega) (by omega)
  rw [zU8, decide_eq_true (by omega : (i : Int) < (l.length : Int)), zGj hi, jN (by omega)]
  simp only [cond_true, Option.bind_some]
  have e0 : yD .xor .u32 (s : Int) (IntKind.wrap .u32 l[i]) = ((s ^^^ l[i].toNat : Nat) : Int) := by
   rw [show IntKind.wrap .u32 l[i] = ((l[i].toNat : Nat) : Int) by rw [wrap_u32, hb2]; omega]
   exact yJx hs (by omega)
  rw [e0]
  unfold zLr
  generalize s ^^^ l[i].toNat = y at hy ⊢
  rw [yT5 hy, decide_eq_true (by omega : (0 : Int) ≤ ((y % 16 : Nat) : Int)), decide_eq_true (by omega : ((y % 16 : Nat) : Int) < ((16 : Nat) : Int)), yK3 y, yVe]
  simp only [cond_true, Bool.and_self, Option.bind_some]
  rw [yJx (yAj (by omega)) (by omega), ← yIy y]
  have hz := yAj hy
  generalize nib y = z at hz ⊢
  rw [yT5 hz, decide_eq_true (by omega : (0 : Int) ≤ ((z % 16 : Nat) : Int)), decide_eq_true (by omega : ((z % 16 : Nat) : Int) < ((16 : Nat) : Int)), yK3 z, yVe]
  simp only [cond_true, Bool.and_self, Option.bind_some]
  rw [yJx (yAj (by omega)) (by omega), ← yIy z]) (by
  try dsimp only
  rw [zU8, decide_eq_false (by omega : ¬ (l.length : Int) < (l.length : Int))]; rfl)
 simpa using key
theorem yV6 {l : List Int} (hl : l.length ≤ 1000000000000) (hb : ∀ b ∈ l, yQ b) : zVm l = some ((yTv l : Nat) : Int) := by
 unfold zVm zTp
 have e : yD .xor .u32 4294967295 0 = ((4294967295 : Nat) : Int) := by decide
 rw [e, yUx hl hb (by decide)]
 simp only [Option.bind_some]
 unfold yTv
 have h1 := yK2 l 4294967295 hb (by decide)
 generalize l.foldl zLr 4294967295 = s at h1 ⊢
 have := yJx (a := 4294967295) (b := s) (by decide) h1
 rw [show (4294967295 : Int) = ((4294967295 : Nat) : Int) from rfl, this, Nat.xor_comm]
def yJ3 (c : Int) : List Int := [IntKind.wrap .u8 (kA .u32 c 24), IntKind.wrap .u8 (kA .u32 c 16), IntKind.wrap .u8 (kA .u32 c 8), IntKind.wrap .u8 c]
def zEh (l : List Int) : List Int := yJ3 ((yTv l : Nat) : Int) ++ l
theorem zMa (l : List Int) : (zEh l).length = l.length + 4 := by simp [zEh, yJ3]
theorem yU6 (n : Int) : yQ (IntKind.wrap .u8 n) := by rw [wrap_u8]; constructor <;> omega
theorem yGg {l : List Int} (h : ∀ b ∈ l, yQ b) : ∀ b ∈ zEh l, yQ b := by
 intro b hb
 rcases List.mem_append.1 hb with hb | hb
 ·simp only [yJ3, List.mem_cons, List.not_mem_nil, or_false] at hb
  rcases hb with rfl | rfl | rfl | rfl <;> exact yU6 _
 ·exact h b hb
theorem yPp (l : List Int) : (zEh l).drop 4 = l := by simp [zEh, yJ3]
theorem yOx {l : List Int} (hl : l.length ≤ 100000000000) (hb : ∀ b ∈ l, yQ b) : zLw l = some (zEh l) := by
 unfold zLw
 rw [yV6 (by omega) hb]
 simp only [Option.bind_some]
 rw [vV (by simp; omega)]
 rfl
def zGa (k : Int) (b : List Int) : List Int := xH (b.length + 5) ++ zEh (k :: b)
theorem yO7 {k : Int} {b : List Int} (h : b.length ≤ 100000000) : (zGa k b).length ≤ b.length + 15 := by
 unfold zGa
 have := zJt (n := b.length + 5) (by omega)
 rw [List.length_append, zMa, List.length_cons]
 omega
theorem yNc {k : Int} {b : List Int} (hk : yQ k) (hb : ∀ x ∈ b, yQ x) : ∀ x ∈ zGa k b, yQ x := by
 intro x hx
 rcases List.mem_append.1 hx with hx | hx
 ·exact zP4 _ x hx
 ·refine yGg (fun y hy => ?_) x hx
  rcases List.mem_cons.1 hy with rfl | hy
  ·exact hk
  ·exact hb y hy
theorem yV3 {k : Int} {b : List Int} (hk : yQ k) (hb : ∀ x ∈ b, yQ x) (hl : b.length ≤ 100000000) : zBk k b = some (if (b.length : Int) > 1048571 then ([], 3) else (zGa k b, 0)) := by
 unfold zBk
 by_cases h : (b.length : Int) > 1048571
 ·rw [if_pos h, decide_eq_true h]; rfl
 ·rw [if_neg h, decide_eq_false h]
  have hb' : ∀ x ∈ k :: b, yQ x := fun x hx => by
   rcases List.mem_cons.1 hx with rfl | hx
   ·exact hk
   ·exact hb x hx
  simp only [cond_false, List.cons_append, List.nil_append]
  rw [vV (by simp; omega), yOx (by simp; omega) hb']
  simp only [cond_true, Option.bind_some]
  have e : IntKind.wrap .u64 ((zEh (k :: b)).length : Int) = ((b.length + 5 : Nat) : Int) := by
   rw [zMa, List.length_cons, zHw (by omega) (by omega)]
  rw [e, yFz [] _ (by omega) (by simp)]
  simp only [Option.bind_some, List.nil_append]
  have := zJt (n := b.length + 5) (by omega)
  rw [vV (by rw [List.length_append, zMa, List.length_cons]; omega)]
  rfl
end Go.Proofs.YtlhifcknhgmidaaGreatDoor.gg
