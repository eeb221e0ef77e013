/- The sum of bytes, by its table and bit by bit; bytes behind their sum; a frame's bytes. -/
import Derived.Test.YthdkecdbodenkaaGreatDoorK6
import Derived.Test.YthdkecdbodenkaaGreatDoorW
open Go Go.GG
set_option linter.unusedVariables false
namespace Go.Proofs.YthdkecdbodenkaaGreatDoor.gg
/-- One bit. -/
def bs (x : Nat) : Nat := if x % 2 = 1 then (x / 2) ^^^ 3988292384 else x / 2
theorem bs_lt {x : Nat} (h : x < 4294967296) : bs x < 4294967296 := by
  unfold bs
  split
  · exact Nat.xor_lt_two_pow (n := 32) (by omega) (by decide)
  · omega
theorem xor2_mod (a c : Nat) : (a ^^^ 2 * c) % 2 = a % 2 := by
  have h := Nat.xor_mod_two_pow (a := a) (b := 2 * c) (n := 1)
  have e : 2 * c % 2 ^ 1 = 0 := by omega
  rw [e, Nat.xor_zero] at h
  omega
theorem xor2_div (a c : Nat) : (a ^^^ 2 * c) / 2 = a / 2 ^^^ c := by
  rw [Nat.xor_div_two]
  congr 1
  omega
theorem bs_xor (a c : Nat) : bs (a ^^^ 2 * c) = bs a ^^^ c := by
  unfold bs
  rw [xor2_mod, xor2_div]
  split
  · rw [Nat.xor_assoc, Nat.xor_comm c, ← Nat.xor_assoc]
  · rfl
def nib (x : Nat) : Nat := bs (bs (bs (bs x)))
theorem nib_lt {x : Nat} (h : x < 4294967296) : nib x < 4294967296 := bs_lt (bs_lt (bs_lt (bs_lt h)))
theorem nib_xor (a c : Nat) : nib (a ^^^ 16 * c) = nib a ^^^ c := by
  unfold nib
  rw [show 16 * c = 2 * (2 * (2 * (2 * c))) by omega, bs_xor, bs_xor, bs_xor, bs_xor]
theorem split16 (x : Nat) : x = x % 16 ^^^ 16 * (x / 16) := by
  have h1 : (x % 16 ^^^ 16 * (x / 16)) % 2 ^ 4 = x % 16 := by
    rw [Nat.xor_mod_two_pow]
    have : 16 * (x / 16) % 2 ^ 4 = 0 := by omega
    rw [this, Nat.xor_zero]; omega
  have h2 : (x % 16 ^^^ 16 * (x / 16)) / 2 ^ 4 = x / 16 := by
    rw [Nat.xor_div_two_pow]
    have e1 : x % 16 / 2 ^ 4 = 0 := by omega
    have e2 : 16 * (x / 16) / 2 ^ 4 = x / 16 := by omega
    rw [e1, e2, Nat.zero_xor]
  omega
theorem nib_split (x : Nat) : nib x = nib (x % 16) ^^^ x / 16 := by
  conv => lhs; rw [split16 x, nib_xor]
theorem xor32 {a b : Nat} (ha : a < 4294967296) (hb : b < 4294967296) : bitv .xor .u32 (a : Int) (b : Int) = ((a ^^^ b : Nat) : Int) := by
  have h1 : (BitVec.ofInt IntKind.u32.bits (a : Int)).toNat = a := by
    rw [show IntKind.u32.bits = 32 from rfl, BitVec.ofInt_natCast, BitVec.toNat_ofNat]; omega
  have h2 : (BitVec.ofInt IntKind.u32.bits (b : Int)).toNat = b := by
    rw [show IntKind.u32.bits = 32 from rfl, BitVec.ofInt_natCast, BitVec.toNat_ofNat]; omega
  show IntKind.wrap .u32 (((BitVec.ofInt IntKind.u32.bits (a : Int) ^^^ BitVec.ofInt IntKind.u32.bits (b : Int)).toNat : Nat) : Int) = _
  rw [BitVec.toNat_xor, h1, h2, wrap_u32]
  have := Nat.xor_lt_two_pow (n := 32) (by omega : a < 2 ^ 32) (by omega : b < 2 ^ 32)
  omega
theorem and15 {a : Nat} (ha : a < 4294967296) : bitv .and .u32 (a : Int) 15 = ((a % 16 : Nat) : Int) := by
  have h1 : (BitVec.ofInt IntKind.u32.bits (a : Int)).toNat = a := by
    rw [show IntKind.u32.bits = 32 from rfl, BitVec.ofInt_natCast, BitVec.toNat_ofNat]; omega
  have h2 : (BitVec.ofInt IntKind.u32.bits (15 : Int)).toNat = 2 ^ 4 - 1 := by decide
  show IntKind.wrap .u32 (((BitVec.ofInt IntKind.u32.bits (a : Int) &&& BitVec.ofInt IntKind.u32.bits (15 : Int)).toNat : Nat) : Int) = _
  rw [BitVec.toNat_and, h1, h2, Nat.and_two_pow_sub_one_eq_mod, wrap_u32]
  omega
theorem shr4 (a : Nat) : shrv .u32 (a : Int) 4 = ((a / 16 : Nat) : Int) := by
  rw [show (4 : Int) = ((4 : Nat) : Int) from rfl, shr_u32 4 (by decide)]
  omega
def crcStep (x : Nat) (b : Int) : Nat := nib (nib (x ^^^ b.toNat))
theorem byte_nat {b : Int} (h : IsByte b) : b.toNat < 256 ∧ ((b.toNat : Nat) : Int) = b := by
  obtain ⟨h0, h1⟩ := h
  omega
theorem crcStep_lt {x : Nat} {b : Int} (h : x < 4294967296) (hb : IsByte b) : crcStep x b < 4294967296 := by
  have h1 := (byte_nat hb).1
  exact nib_lt (nib_lt (Nat.xor_lt_two_pow (n := 32) (by omega) (by omega)))
theorem crc_lt : ∀ (l : List Int) (x : Nat), (∀ b ∈ l, IsByte b) → x < 4294967296 → l.foldl crcStep x < 4294967296
  | [], _, _, h => h
  | b :: l, x, hb, h => crc_lt l _ (fun y hy => hb y (List.mem_cons_of_mem _ hy)) (crcStep_lt h (hb b (List.mem_cons_self ..)))
def crcF (l : List Int) : Nat := l.foldl crcStep 4294967295 ^^^ 4294967295
theorem crcF_lt {l : List Int} (h : ∀ b ∈ l, IsByte b) : crcF l < 4294967296 := Nat.xor_lt_two_pow (n := 32) (crc_lt l _ h (by decide)) (by decide)
theorem known_at : ∀ r, r < 16 → tab_gudgeon_crc_known[r]? = some ((nib r : Nat) : Int) := by decide +kernel
theorem known_eq (x : Nat) : at? tab_gudgeon_crc_known ((x % 16 : Nat) : Int) = some ((nib (x % 16) : Nat) : Int) := by
  have := known_at (x % 16) (by omega)
  unfold at?
  rw [decide_eq_true (by omega), cond_true, Int.toNat_natCast]
  exact this
theorem Step_is {l : List Int} (hl : l.length ≤ 1000000000000) (hb : ∀ b ∈ l, IsByte b) {x : Nat} (hx : x < 4294967296) :
    crc_Step_p8' (x : Int) l (l.length : Int) 0 = some ((l.foldl crcStep x : Nat) : Int) := by
  have key := fold_loop l crcStep x (fun i s => crc_Step_p8' (s : Int) l (l.length : Int) (i : Int)) (out := fun s => some ((s : Nat) : Int)) (fun i hi => by
    try dsimp only
    have hs := crc_lt (l.take i) x (fun b h => hb b (List.mem_of_mem_take h)) hx
    generalize (l.take i).foldl crcStep x = s at hs ⊢
    obtain ⟨hb1, hb2⟩ := byte_nat (hb l[i] (List.getElem_mem hi))
    have hy : s ^^^ l[i].toNat < 4294967296 := Nat.xor_lt_two_pow (n := 32) (by omega) (by omega)
    rw [crc_Step_p8_eq, decide_eq_true (by omega : (i : Int) < (l.length : Int)), at?_lt hi, wrap_succ (by omega)]
    simp only [cond_true, Option.bind_some]
    have e0 : bitv .xor .u32 (s : Int) (IntKind.wrap .u32 l[i]) = ((s ^^^ l[i].toNat : Nat) : Int) := by
      rw [show IntKind.wrap .u32 l[i] = ((l[i].toNat : Nat) : Int) by rw [wrap_u32, hb2]; omega]
      exact xor32 hs (by omega)
    rw [e0]
    unfold crcStep
    generalize s ^^^ l[i].toNat = y at hy ⊢
    rw [and15 hy, decide_eq_true (by omega : (0 : Int) ≤ ((y % 16 : Nat) : Int)), decide_eq_true (by omega : ((y % 16 : Nat) : Int) < ((16 : Nat) : Int)), known_eq y, shr4]
    simp only [cond_true, Bool.and_self, Option.bind_some]
    rw [xor32 (nib_lt (by omega)) (by omega), ← nib_split y]
    have hz := nib_lt hy
    generalize nib y = z at hz ⊢
    rw [and15 hz, decide_eq_true (by omega : (0 : Int) ≤ ((z % 16 : Nat) : Int)), decide_eq_true (by omega : ((z % 16 : Nat) : Int) < ((16 : Nat) : Int)), known_eq z, shr4]
    simp only [cond_true, Bool.and_self, Option.bind_some]
    rw [xor32 (nib_lt (by omega)) (by omega), ← nib_split z]) (by
    try dsimp only
    rw [crc_Step_p8_eq, decide_eq_false (by omega : ¬ (l.length : Int) < (l.length : Int))]; rfl)
  simpa using key
theorem Of_is {l : List Int} (hl : l.length ≤ 1000000000000) (hb : ∀ b ∈ l, IsByte b) : crc_Of' l = some ((crcF l : Nat) : Int) := by
  unfold crc_Of' crc_Step'
  have e : bitv .xor .u32 4294967295 0 = ((4294967295 : Nat) : Int) := by decide
  rw [e, Step_is hl hb (by decide)]
  simp only [Option.bind_some]
  unfold crcF
  have h1 := crc_lt l 4294967295 hb (by decide)
  generalize l.foldl crcStep 4294967295 = s at h1 ⊢
  have := xor32 (a := 4294967295) (b := s) (by decide) h1
  rw [show (4294967295 : Int) = ((4294967295 : Nat) : Int) from rfl, this, Nat.xor_comm]
def bsN : Nat → Nat → Nat
  | 0, x => x
  | m + 1, x => bsN m (bs x)
theorem refBit {l : List Int} {i : Nat} (hi : i < l.length) (hb : IsByte l[i]) : ∀ (m k S : Nat), k + m = 8 → S < 4294967296 →
    ref03_Of_p20' l (S : Int) (i : Int) (k : Int) = some (l, ((bsN m (S ^^^ l[i].toNat / 2 ^ k) : Nat) : Int), (i : Int))
  | 0, k, S, hk, hS => by
    obtain ⟨hb1, hb2⟩ := byte_nat hb
    obtain rfl : k = 8 := by omega
    rw [ref03_Of_p20_eq, decide_eq_false (by omega : ¬ ((8 : Nat) : Int) < 8)]
    have : l[i].toNat / 2 ^ 8 = 0 := by omega
    rw [this, Nat.xor_zero]
    rfl
  | m + 1, k, S, hk, hS => by
    obtain ⟨hb1, hb2⟩ := byte_nat hb
    rw [ref03_Of_p20_eq, decide_eq_true (by omega : (k : Int) < 8), at?_lt hi, wrap_succ (by omega)]
    simp only [cond_true, Option.bind_some]
    have e1 : IntKind.wrap .u64 (k : Int) = (k : Int) := u64_in (by omega) (by omega)
    have e2 : shrv .u32 (IntKind.wrap .u32 l[i]) (k : Int) = ((l[i].toNat / 2 ^ k : Nat) : Int) := by
      rw [show IntKind.wrap .u32 l[i] = ((l[i].toNat : Nat) : Int) by rw [wrap_u32, hb2]; omega, shr_u32 k (by omega)]
      rw [Int.natCast_ediv, Int.natCast_pow]; rfl
    have hd : l[i].toNat / 2 ^ k < 256 := Nat.lt_of_le_of_lt (Nat.div_le_self _ _) hb1
    have hnext : l[i].toNat / 2 ^ (k + 1) = l[i].toNat / 2 ^ k / 2 := by rw [Nat.pow_succ, Nat.div_div_eq_div_mul]
    rw [e1, e2, decide_eq_true (by omega : (0 : Int) ≤ (k : Int)), xor32 hS (by omega)]
    simp only [cond_true]
    have e3 : IntKind.wrap .u32 (Int.tdiv (S : Int) 2) = ((S / 2 : Nat) : Int) := by
      rw [Int.tdiv_eq_ediv_of_nonneg (by omega), wrap_u32]; omega
    rw [e3]
    have ih := fun S' hS' => refBit hi hb m (k + 1) S' (by omega) hS'
    rw [hnext] at ih
    generalize l[i].toNat / 2 ^ k = d at hd ih ⊢
    have e4 : (Int.tmod ((S ^^^ d : Nat) : Int) 2 == 1) = decide ((S ^^^ d) % 2 = 1) := by
      rw [Int.tmod_eq_emod_of_nonneg (by omega), Bool.eq_iff_iff, beq_iff_eq, decide_eq_true_eq]; omega
    rw [e4]
    by_cases hq : (S ^^^ d) % 2 = 1
    · rw [decide_eq_true hq, cond_true, show (3988292384 : Int) = ((3988292384 : Nat) : Int) from rfl, xor32 (by omega) (by decide), ih _ (Nat.xor_lt_two_pow (n := 32) (by omega) (by decide))]
      congr 4
      show bsN m _ = bsN m (bs (S ^^^ d))
      congr 1
      unfold bs
      rw [if_pos hq, Nat.xor_div_two, Nat.xor_assoc, Nat.xor_comm 3988292384, ← Nat.xor_assoc]
    · rw [decide_eq_false hq, cond_false, ih _ (by omega)]
      congr 4
      show bsN m _ = bsN m (bs (S ^^^ d))
      congr 1
      unfold bs
      rw [if_neg hq, Nat.xor_div_two]
theorem refOf_is {l : List Int} (hl : l.length ≤ 1000000000000) (hb : ∀ b ∈ l, IsByte b) : ref03_Of' l = some ((crcF l : Nat) : Int) := by
  have key := fold_loop l crcStep 4294967295 (fun i s => ref03_Of_p8' l (s : Int) (i : Int)) (out := fun s => some ((s : Nat) : Int)) (fun i hi => by
    try dsimp only
    have hs := crc_lt (l.take i) 4294967295 (fun b h => hb b (List.mem_of_mem_take h)) (by decide)
    generalize (l.take i).foldl crcStep 4294967295 = s at hs ⊢
    have h1 := refBit hi (hb l[i] (List.getElem_mem hi)) 8 0 s rfl hs
    simp only [show ((0 : Nat) : Int) = 0 from rfl] at h1
    rw [ref03_Of_p8_eq, decide_eq_true (by omega : (i : Int) < (l.length : Int)), h1]
    simp only [cond_true, Option.bind_some]
    rw [wrap_succ (by omega)]
    simp only [Nat.pow_zero, Nat.div_one]
    rfl) (by
    try dsimp only
    rw [ref03_Of_p8_eq, decide_eq_false (by omega : ¬ (l.length : Int) < (l.length : Int))]; rfl)
  unfold ref03_Of'
  rw [show (4294967295 : Int) = ((4294967295 : Nat) : Int) from rfl]
  simp only [show ((0 : Nat) : Int) = 0 from rfl] at key
  rw [key]
  simp only [Option.bind_some]
  rw [xor32 (crc_lt l _ hb (by decide)) (by decide)]
  rfl
def sealH (c : Int) : List Int := [IntKind.wrap .u8 (shrv .u32 c 24), IntKind.wrap .u8 (shrv .u32 c 16), IntKind.wrap .u8 (shrv .u32 c 8), IntKind.wrap .u8 c]
def sealF (l : List Int) : List Int := sealH ((crcF l : Nat) : Int) ++ l
theorem sealF_len (l : List Int) : (sealF l).length = l.length + 4 := by simp [sealF, sealH]
theorem u8_byte (n : Int) : IsByte (IntKind.wrap .u8 n) := by rw [wrap_u8]; constructor <;> omega
theorem sealF_byte {l : List Int} (h : ∀ b ∈ l, IsByte b) : ∀ b ∈ sealF l, IsByte b := by
  intro b hb
  rcases List.mem_append.1 hb with hb | hb
  · simp only [sealH, List.mem_cons, List.not_mem_nil, or_false] at hb
    rcases hb with rfl | rfl | rfl | rfl <;> exact u8_byte _
  · exact h b hb
theorem sealF_drop (l : List Int) : (sealF l).drop 4 = l := by simp [sealF, sealH]
theorem Seal_is {l : List Int} (hl : l.length ≤ 100000000000) (hb : ∀ b ∈ l, IsByte b) : crc_Seal' l = some (sealF l) := by
  unfold crc_Seal'
  rw [Of_is (by omega) hb]
  simp only [Option.bind_some]
  rw [room_of (by simp; omega)]
  rfl
theorem refSeal_is {l : List Int} (hl : l.length ≤ 100000000000) (hb : ∀ b ∈ l, IsByte b) : ref03_Seal' l = some (sealF l) := by
  unfold ref03_Seal'
  rw [refOf_is (by omega) hb]
  simp only [Option.bind_some]
  rw [room_of (by simp; omega)]
  rfl
def frameF (k : Int) (b : List Int) : List Int := putU (b.length + 5) ++ sealF (k :: b)
theorem frameF_len {k : Int} {b : List Int} (h : b.length ≤ 100000000) : (frameF k b).length ≤ b.length + 15 := by
  unfold frameF
  have := putU_len10 (n := b.length + 5) (by omega)
  rw [List.length_append, sealF_len, List.length_cons]
  omega
theorem frameF_byte {k : Int} {b : List Int} (hk : IsByte k) (hb : ∀ x ∈ b, IsByte x) : ∀ x ∈ frameF k b, IsByte x := by
  intro x hx
  rcases List.mem_append.1 hx with hx | hx
  · exact putU_byte _ x hx
  · refine sealF_byte (fun y hy => ?_) x hx
    rcases List.mem_cons.1 hy with rfl | hy
    · exact hk
    · exact hb y hy
theorem Put_is {k : Int} {b : List Int} (hk : IsByte k) (hb : ∀ x ∈ b, IsByte x) (hl : b.length ≤ 100000000) : frame_Put' k b = some (if (b.length : Int) > 1048571 then ([], 3) else (frameF k b, 0)) := by
  unfold frame_Put'
  by_cases h : (b.length : Int) > 1048571
  · rw [if_pos h, decide_eq_true h]; rfl
  · rw [if_neg h, decide_eq_false h]
    have hb' : ∀ x ∈ k :: b, IsByte x := fun x hx => by
      rcases List.mem_cons.1 hx with rfl | hx
      · exact hk
      · exact hb x hx
    simp only [cond_false, List.cons_append, List.nil_append]
    rw [room_of (by simp; omega), Seal_is (by simp; omega) hb']
    simp only [cond_true, Option.bind_some]
    have e : IntKind.wrap .u64 ((sealF (k :: b)).length : Int) = ((b.length + 5 : Nat) : Int) := by
      rw [sealF_len, List.length_cons, u64_in (by omega) (by omega)]
    rw [e, Uvarint_eq [] _ (by omega) (by simp)]
    simp only [Option.bind_some, List.nil_append]
    have := putU_len10 (n := b.length + 5) (by omega)
    rw [room_of (by rw [List.length_append, sealF_len, List.length_cons]; omega)]
    rfl
theorem refFrame_is {k : Int} {b : List Int} (hk : IsByte k) (hb : ∀ x ∈ b, IsByte x) (hl : b.length ≤ 100000000) : ref03_Frame' k b = some (frameF k b) := by
  unfold ref03_Frame'
  have hb' : ∀ x ∈ k :: b, IsByte x := fun x hx => by
    rcases List.mem_cons.1 hx with rfl | hx
    · exact hk
    · exact hb x hx
  simp only [List.cons_append, List.nil_append]
  rw [room_of (by simp; omega), refSeal_is (by simp; omega) hb']
  simp only [cond_true, Option.bind_some]
  have e : IntKind.wrap .u64 ((sealF (k :: b)).length : Int) = ((b.length + 5 : Nat) : Int) := by
    rw [sealF_len, List.length_cons, u64_in (by omega) (by omega)]
  rw [e, refUvarint_eq _ (by omega)]
  simp only [Option.bind_some]
  have := putU_len10 (n := b.length + 5) (by omega)
  rw [room_of (by rw [List.length_append, sealF_len, List.length_cons]; omega)]
  rfl
end Go.Proofs.YthdkecdbodenkaaGreatDoor.gg
