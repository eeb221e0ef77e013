/- Ways to write and read values: what is written is read, what was read was written; and such ways put together. -/
import Derived.Test.YtlgfmkccnljhoaaL6
set_option linter.unusedVariables false
namespace Go.GG
structure Cd (α : Type) where
  enc : α → List Int
  rd : Rd → α × Rd
  ok : α → Prop
  byte : ∀ x, ok x → ∀ y ∈ enc x, IsByte y
  inv : ∀ s, RInv s → RInv (rd s).2 ∧ ok (rd s).1
  was : ∀ s, RInv s → (rd s).2.2.2 = 0 → s.2.2 = 0 ∧ rest s = enc (rd s).1 ++ rest (rd s).2
  read : ∀ s x r, RInv s → s.2.2 = 0 → ok x → rest s = enc x ++ r → ∃ s', rd s = (x, s') ∧ RInv s' ∧ s'.2.2 = 0 ∧ rest s' = r
namespace Cd
variable {α β : Type}
def u : Cd Int where
  enc := fun n => putU n.toNat
  rd := rU
  ok := fun n => 0 ≤ n ∧ n < 18446744073709551616
  byte := fun x _ => putU_byte _
  inv := fun s h => ⟨rU_inv h, rU_range h⟩
  was := fun s h e => by
    obtain ⟨a, n, _, b, c, _⟩ := rU_ok h e
    exact ⟨a, by rw [b, Int.toNat_natCast]; exact c⟩
  read := fun s x r h h0 hx hr => by
    obtain ⟨s', a, b, c, d, _⟩ := rU_read h h0 (n := x.toNat) (by omega) hr
    exact ⟨s', by rw [a, Int.toNat_of_nonneg hx.1], b, c, d⟩
def num (most : Int) (hm0 : 0 ≤ most) (hm : most < 18446744073709551616) : Cd Int where
  enc := fun n => putU n.toNat
  rd := fun s => rNum s most
  ok := fun n => 0 ≤ n ∧ n ≤ most
  byte := fun x _ => putU_byte _
  inv := fun s h => ⟨rNum_inv h most, by have := rNum_range h most; omega⟩
  was := fun s h e => by
    obtain ⟨a, n, _, _, b, c, _⟩ := rNum_ok h e
    exact ⟨a, by rw [b, Int.toNat_natCast]; exact c⟩
  read := fun s x r h h0 hx hr => by
    obtain ⟨s', a, b, c, d, _⟩ := rNum_read h h0 (n := x.toNat) (by omega) (most := most) (by omega) hr
    exact ⟨s', by rw [a, Int.toNat_of_nonneg hx.1], b, c, d⟩
def bytes (most : Nat) (hm : most < 18446744073709551616) : Cd (List Int) where
  enc := fun x => putU x.length ++ x
  rd := fun s => rBytes s most
  ok := fun x => (∀ y ∈ x, IsByte y) ∧ x.length ≤ most
  byte := fun x hx y hy => by
    rcases List.mem_append.1 hy with hy | hy
    · exact putU_byte _ y hy
    · exact hx.1 y hy
  inv := fun s h => ⟨rBytes_inv h most, by have := rBytes_byte h most; exact ⟨this.1, by omega⟩⟩
  was := fun s h e => by
    obtain ⟨a, _, _, c, _⟩ := rBytes_ok h e
    exact ⟨a, c⟩
  read := fun s x r h h0 hx hr => by
    obtain ⟨s', a, b, c, d, _⟩ := rBytes_read h h0 (x := x) (by omega) (most := most) (by omega) hr
    exact ⟨s', a, b, c, d⟩
/-- The same values in another form. -/
def iso (c : Cd α) (f : α → β) (g : β → α) (okb : β → Prop) (h1 : ∀ x, c.ok x → okb (f x) ∧ g (f x) = x) (h2 : ∀ y, okb y → c.ok (g y) ∧ f (g y) = y) : Cd β where
  enc := fun y => c.enc (g y)
  rd := fun s => (f (c.rd s).1, (c.rd s).2)
  ok := okb
  byte := fun y hy => c.byte _ (h2 y hy).1
  inv := fun s h => ⟨(c.inv s h).1, (h1 _ (c.inv s h).2).1⟩
  was := fun s h e => by rw [(h1 _ (c.inv s h).2).2]; exact c.was s h e
  read := fun s y r h h0 hy hr => by
    obtain ⟨s', a, b⟩ := c.read s (g y) r h h0 (h2 y hy).1 hr
    exact ⟨s', by rw [a, (h2 y hy).2], b⟩
def pair (c : Cd α) (d : Cd β) : Cd (α × β) where
  enc := fun x => c.enc x.1 ++ d.enc x.2
  rd := fun s => (((c.rd s).1, (d.rd (c.rd s).2).1), (d.rd (c.rd s).2).2)
  ok := fun x => c.ok x.1 ∧ d.ok x.2
  byte := fun x hx y hy => by
    rcases List.mem_append.1 hy with hy | hy
    · exact c.byte _ hx.1 y hy
    · exact d.byte _ hx.2 y hy
  inv := fun s h => by
    have h1 := c.inv s h
    have h2 := d.inv _ h1.1
    exact ⟨h2.1, h1.2, h2.2⟩
  was := fun s h e => by
    have h1 := c.inv s h
    obtain ⟨a, b⟩ := d.was _ h1.1 e
    obtain ⟨a', b'⟩ := c.was s h a
    exact ⟨a', by rw [b', b, List.append_assoc]⟩
  read := fun s x r h h0 hx hr => by
    simp only [List.append_assoc] at hr
    obtain ⟨s1, a1, b1, c1, d1⟩ := c.read s x.1 _ h h0 hx.1 hr
    obtain ⟨s2, a2, b2, c2, d2⟩ := d.read s1 x.2 r b1 c1 hx.2 d1
    exact ⟨s2, by rw [a1, a2], b2, c2, d2⟩
/-- So many, one behind the other. -/
def rds (c : Cd α) : Nat → Rd → List α × Rd
  | 0, s => ([], s)
  | n + 1, s => ((c.rd s).1 :: (rds c n (c.rd s).2).1, (rds c n (c.rd s).2).2)
theorem rds_inv (c : Cd α) : ∀ (n : Nat) (s : Rd), RInv s → RInv (rds c n s).2 ∧ (rds c n s).1.length = n ∧ ∀ x ∈ (rds c n s).1, c.ok x
  | 0, s, h => ⟨h, rfl, by simp [rds]⟩
  | n + 1, s, h => by
    have h1 := c.inv s h
    obtain ⟨a, b, d⟩ := rds_inv c n _ h1.1
    refine ⟨a, by simp [rds, b], fun x hx => ?_⟩
    simp only [rds, List.mem_cons] at hx
    rcases hx with rfl | hx
    · exact h1.2
    · exact d x hx
theorem rds_was (c : Cd α) : ∀ (n : Nat) (s : Rd), RInv s → (rds c n s).2.2.2 = 0 → s.2.2 = 0 ∧ rest s = (rds c n s).1.flatMap c.enc ++ rest (rds c n s).2
  | 0, s, h, e => ⟨e, by simp [rds]⟩
  | n + 1, s, h, e => by
    have h1 := c.inv s h
    obtain ⟨a, b⟩ := rds_was c n _ h1.1 e
    obtain ⟨a', b'⟩ := c.was s h a
    refine ⟨a', ?_⟩
    simp only [rds, List.flatMap_cons, List.append_assoc]
    rw [b', b]
theorem rds_read (c : Cd α) : ∀ (l : List α) (s : Rd) (r : List Int), RInv s → s.2.2 = 0 → (∀ x ∈ l, c.ok x) → rest s = l.flatMap c.enc ++ r → ∃ s', rds c l.length s = (l, s') ∧ RInv s' ∧ s'.2.2 = 0 ∧ rest s' = r
  | [], s, r, h, h0, _, hr => ⟨s, rfl, h, h0, by simpa using hr⟩
  | x :: l, s, r, h, h0, hx, hr => by
    simp only [List.flatMap_cons, List.append_assoc] at hr
    obtain ⟨s1, a1, b1, c1, d1⟩ := c.read s x _ h h0 (hx x (by simp)) hr
    obtain ⟨s2, a2, b2, c2, d2⟩ := rds_read c l s1 r b1 c1 (fun y hy => hx y (by simp [hy])) d1
    exact ⟨s2, by simp [rds, a1, a2], b2, c2, d2⟩
/-- A number, and so many. -/
def list (c : Cd α) (most : Nat) (hm : most < 18446744073709551616) : Cd (List α) where
  enc := fun l => putU l.length ++ l.flatMap c.enc
  rd := fun s => rds c (rNum s most).1.toNat (rNum s most).2
  ok := fun l => l.length ≤ most ∧ ∀ x ∈ l, c.ok x
  byte := fun l hl y hy => by
    rcases List.mem_append.1 hy with hy | hy
    · exact putU_byte _ y hy
    · obtain ⟨x, hx, hy⟩ := List.mem_flatMap.1 hy
      exact c.byte x (hl.2 x hx) y hy
  inv := fun s h => by
    have h1 := rNum_inv h most
    have h2 := rNum_range h most
    obtain ⟨a, b, d⟩ := rds_inv c (rNum s most).1.toNat _ h1
    exact ⟨a, by rw [b]; omega, d⟩
  was := fun s h e => by
    have h1 := rNum_inv h most
    obtain ⟨a, b⟩ := rds_was c _ _ h1 e
    obtain ⟨a', n, _, _, v, q, _⟩ := rNum_ok h a
    have hl := (rds_inv c (rNum s most).1.toNat _ h1).2.1
    refine ⟨a', ?_⟩
    have hl2 : (rds c (rNum s most).1.toNat (rNum s most).2).1.length = n := by rw [hl, v, Int.toNat_natCast]
    show rest s = putU (rds c (rNum s most).1.toNat (rNum s most).2).1.length ++ (rds c (rNum s most).1.toNat (rNum s most).2).1.flatMap c.enc ++ rest (rds c (rNum s most).1.toNat (rNum s most).2).2
    rw [hl2, List.append_assoc, q, b]
  read := fun s l r h h0 hl hr => by
    simp only [List.append_assoc] at hr
    obtain ⟨s1, a1, b1, c1, d1, _⟩ := rNum_read h h0 (n := l.length) (by omega) (most := most) (by omega) hr
    obtain ⟨s2, a2, b2⟩ := rds_read c l s1 r b1 c1 hl.2 d1
    exact ⟨s2, by rw [a1]; simp only [Int.toNat_natCast]; exact a2, b2⟩
/-- Bytes are read whole just if they are what is written of what was read. -/
theorem whole (c : Cd α) {b : List Int} (hb : ∀ x ∈ b, IsByte x) (hl : b.length ≤ 1000000000000) : ((c.rd (b, 0, 0)).2.2.2 = 0 ∧ rest (c.rd (b, 0, 0)).2 = []) ↔ c.enc (c.rd (b, 0, 0)).1 = b := by
  have i0 : RInv ((b, 0, 0) : Rd) := ⟨hb, by simp, by simp, hl⟩
  have hr : rest ((b, 0, 0) : Rd) = b := by simp [rest]
  constructor
  · rintro ⟨h1, h2⟩
    obtain ⟨_, q⟩ := c.was _ i0 h1
    rw [hr, h2, List.append_nil] at q
    exact q.symm
  · intro e
    obtain ⟨s', a, _, b', c'⟩ := c.read (b, 0, 0) (c.rd (b, 0, 0)).1 [] i0 rfl (c.inv _ i0).2 (by rw [hr, List.append_nil, e])
    have : (c.rd (b, 0, 0)).2 = s' := by rw [a]
    rw [this]; exact ⟨b', c'⟩
/-- What is written is read back. -/
theorem back (c : Cd α) {x : α} (hx : c.ok x) (hl : (c.enc x).length ≤ 1000000000000) : (c.rd (c.enc x, 0, 0)).1 = x := by
  have i0 : RInv ((c.enc x, 0, 0) : Rd) := ⟨c.byte x hx, by simp, by simp, hl⟩
  obtain ⟨s', a, _⟩ := c.read (c.enc x, 0, 0) x [] i0 rfl hx (by simp [rest])
  rw [a]
/-- Unlike values have unlike bytes. -/
theorem inj (c : Cd α) {x y : α} (hx : c.ok x) (hy : c.ok y) (hl : (c.enc x).length ≤ 1000000000000) (e : c.enc x = c.enc y) : x = y := by
  have h1 := back c hx hl
  rw [e] at h1 hl
  rw [back c hy hl] at h1
  exact h1.symm
end Cd
theorem toBytes_ofBytes (s : List UInt8) : toBytes (ofBytes s) = s := by
  simp [toBytes, ofBytes, Function.comp_def]
theorem ofBytes_toBytes {x : List Int} (h : ∀ y ∈ x, IsByte y) : ofBytes (toBytes x) = x := by
  induction x with
  | nil => rfl
  | cons a x ih =>
    have ha := h a (by simp)
    obtain ⟨h0, h1⟩ := ha
    have := ih (fun y hy => h y (by simp [hy]))
    simp only [toBytes, ofBytes, List.map_cons, List.map_map] at this ⊢
    rw [this]
    congr 1
    simp only [UInt8.toNat_ofNat']
    omega
theorem ofBytes_byte (s : List UInt8) : ∀ y ∈ ofBytes s, IsByte y := by
  intro y hy
  simp only [ofBytes, List.mem_map] at hy
  obtain ⟨b, _, rfl⟩ := hy
  have := b.toNat_lt
  constructor <;> omega
theorem ofBytes_len (s : List UInt8) : (ofBytes s).length = s.length := by simp [ofBytes]
theorem toBytes_len (x : List Int) : (toBytes x).length = x.length := by simp [toBytes]
/-- A text. -/
def Cd.str (most : Nat) (hm : most < 18446744073709551616) : Cd (List UInt8) :=
  (Cd.bytes most hm).iso toBytes ofBytes (fun s => s.length ≤ most) (fun x hx => ⟨by rw [toBytes_len]; exact hx.2, ofBytes_toBytes hx.1⟩) (fun s hs => ⟨⟨ofBytes_byte s, by rw [ofBytes_len]; exact hs⟩, toBytes_ofBytes s⟩)
/-- Yes or no, as a number. -/
def Cd.bit : Cd Bool :=
  (Cd.num 1 (by decide) (by decide)).iso (fun n => n == 1) (fun b => cond b 1 0) (fun _ => True) (fun x hx => ⟨trivial, by
    obtain ⟨a, b⟩ := hx
    by_cases h : x = 1
    · subst h; rfl
    · have : x = 0 := by omega
      subst this; rfl⟩) (fun b _ => by cases b <;> exact ⟨⟨by decide, by decide⟩, rfl⟩)
end Go.GG
