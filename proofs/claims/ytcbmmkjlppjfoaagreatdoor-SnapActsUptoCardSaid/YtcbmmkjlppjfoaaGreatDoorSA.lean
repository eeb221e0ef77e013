/- Snapshots on a disk: saved and told, beside the files: the plain laws. -/
import Derived.Test.YtcbmmkjlppjfoaaGreatDoorE
import Derived.Test.YtcbmmkjlppjfoaaGreatDoorFB
open Go Go.GG Go.Proofs
set_option linter.unusedVariables false
namespace Go.Proofs.YtcbmmkjlppjfoaaGreatDoor.gg
/-- The number at the beginning of bytes. -/
theorem number_is {b : List Int} (hl : b.length ≤ 100000000) (hb : ∀ x ∈ b, IsByte x) : ref08_number' b = some (match getU 0 0 b with | none => (0, 0) | some (v, c) => ((v : Int), (c : Int))) := by
  have step : ∀ n, 0 < n → n ≤ 10 → n ≤ b.length → ∀ (K : Option (Unit ⊕ (Int × Int))), ((ref02_ReadUvarint' ((b.take n), (0, 0))).bind fun r1 => ((ref02_Uvarint' r1.1).bind fun r2 => (bif ((toBytes r2) == (toBytes (b.take n))) then some (.inr (r1.1, (n : Int))) else K))) =
      (match getU 0 0 b with | none => K | some (v, c) => if c = n then some (.inr ((v : Int), (n : Int))) else K) := by
    intro n h0 h10 hn K
    have hlt : (b.take n).length = n := by rw [List.length_take]; omega
    have hbt : ∀ x ∈ b.take n, IsByte x := fun x hx => hb x (List.mem_of_mem_take hx)
    have hv := value_take hb h0 h10 hn
    unfold ref03_value' at hv
    rw [refU_eq (read_inv (b.take n) (by omega) hbt)] at hv ⊢
    simp only [Option.bind_some] at hv ⊢
    have hr := rU_range (read_inv (b.take n) (by omega) hbt)
    generalize (rU (b.take n, 0, 0)).1 = r at hv hr ⊢
    rw [refUvarint_eq' r hr.1 hr.2] at hv ⊢
    simp only [Option.bind_some, Option.some.injEq, Prod.mk.injEq] at hv ⊢
    rcases hv with ⟨v, hg, hq, ht⟩ | ⟨hg, x, hq, ht⟩
    · rw [ht, hg, hq]
      simp
    · rw [ht]
      simp only [cond_false]
      cases hg' : getU 0 0 b with
      | none => rfl
      | some p =>
        obtain ⟨v, c⟩ := p
        simp only
        rw [if_neg]
        intro hc
        subst hc
        exact hg v hg'
  have key := loop_inv (S := Unit) (min b.length 10) (fun i _ => ref08_number_p6' b ((i + 1 : Nat) : Int)) (fun i _ => ∀ v c, getU 0 0 b = some (v, c) → i < c)
    (fun r => r = some (match getU 0 0 b with | none => .inl () | some (v, c) => .inr ((v : Int), (c : Int))))
    (fun i s hi hs => by
      try dsimp only at hs ⊢
      have hi1 : i < b.length ∧ i < 10 := by omega
      rw [ref08_number_p6_eq, decide_eq_true (by omega : ((i + 1 : Nat) : Int) ≤ (b.length : Int)), decide_eq_true (by omega : ((i + 1 : Nat) : Int) ≤ 10), decide_eq_true (by omega : (0 : Int) ≤ ((i + 1 : Nat) : Int)), cut_take, wrap_succ (by omega)]
      simp only [Bool.and_self, cond_true]
      rw [step (i + 1) (by omega) (by omega) (by omega)]
      cases hg : getU 0 0 b with
      | none => exact .inl ⟨(), rfl, fun v c h => by cases h⟩
      | some p =>
        obtain ⟨v, c⟩ := p
        simp only
        by_cases hc : c = i + 1
        · right
          rw [if_pos hc, hc]
        · left
          rw [if_neg hc]
          refine ⟨(), rfl, fun v' c' h => ?_⟩
          cases h
          have := hs v c hg
          omega)
    (fun s hs => by
      try dsimp only at hs ⊢
      have hn : getU 0 0 b = none := by
        cases hg : getU 0 0 b with
        | none => rfl
        | some p =>
          obtain ⟨v, c⟩ := p
          obtain ⟨_, h0, h10, hcl, _, _⟩ := getU_le hb hg
          have := hs v c hg
          omega
      rw [hn, ref08_number_p6_eq]
      by_cases h1 : b.length < 10
      · rw [decide_eq_false (by omega : ¬ ((min b.length 10 + 1 : Nat) : Int) ≤ (b.length : Int))]; rfl
      · rw [decide_eq_false (by omega : ¬ ((min b.length 10 + 1 : Nat) : Int) ≤ 10)]
        cases decide (((min b.length 10 + 1 : Nat) : Int) ≤ (b.length : Int)) <;> rfl) 0 () (Nat.zero_le _) (fun v c h => (getU_le hb h).2.1)
  unfold ref08_number'
  have key' : ref08_number_p6' b 1 = some (match getU 0 0 b with | none => .inl () | some (v, c) => .inr ((v : Int), (c : Int))) := key
  rw [key']
  cases getU 0 0 b with
  | none => rfl
  | some p => rfl
abbrev SV := Int × Int × List Int
/-- The snapshot of bytes. -/
def sdecF (b : List Int) : Option SV :=
  if (nextF b).2.2.2 = 0 ∧ (nextF b).2.2.1 = (b.length : Int) ∧ (nextF b).1 = 3 then
    (match getU 0 0 (nextF b).2.1 with
    | none => none
    | some (v, c) => if v = 0 then none else
      match getU 0 0 ((nextF b).2.1.drop c) with
      | none => none
      | some (w, d) => if (nextF b).2.1.length - c - d > 32768 then none else some ((v : Int), (w : Int), (nextF b).2.1.drop (c + d)))
  else none
theorem next_bytes {b : List Int} (hb : ∀ x ∈ b, IsByte x) : (∀ x ∈ (nextF b).2.1, IsByte x) ∧ (nextF b).2.1.length ≤ 1048576 := by
  by_cases e : (nextF b).2.2.2 = 0
  · unfold nextF at *
    cases hg : getU 0 0 b with
    | none => exact ⟨by simp, by simp⟩
    | some q =>
      obtain ⟨v, c⟩ := q
      rw [hg] at e
      simp only at e ⊢
      by_cases h1 : v < 5 ∨ 1048576 < v
      · rw [if_pos h1]; exact ⟨by simp, by simp⟩
      · rw [if_neg h1]
        by_cases h2 : b.length - c < v
        · rw [if_pos h2]; exact ⟨by simp, by simp⟩
        · rw [if_neg h2]
          split
          · refine ⟨fun x hx => hb x (List.mem_of_mem_drop (List.mem_of_mem_take (List.mem_of_mem_drop hx))), ?_⟩
            simp only [List.length_drop, List.length_take]
            omega
          · exact ⟨by simp, by simp⟩
  · unfold nextF at *
    cases hg : getU 0 0 b with
    | none => exact ⟨by simp, by simp⟩
    | some q =>
      obtain ⟨v, c⟩ := q
      rw [hg] at e
      simp only at e ⊢
      split
      · exact ⟨by simp, by simp⟩
      · split
        · exact ⟨by simp, by simp⟩
        · split
          · rename_i h1 h2 h3
            rw [if_neg h1, if_neg h2, if_pos h3] at e
            exact absurd rfl e
          · exact ⟨by simp, by simp⟩
theorem refDec_is {b : List Int} (hl : b.length ≤ 1000000) (hb : ∀ x ∈ b, IsByte x) : ref08_Decode' b = some (match sdecF b with | none => ((0, (0, [])), false) | some s => (s, true)) := by
  unfold ref08_Decode' sdecF
  rw [refNext_is (by omega) hb]
  simp only [Option.bind_some]
  obtain ⟨hdb, hdl⟩ := next_bytes hb
  generalize nextF b = q at *
  obtain ⟨k, d, n, e⟩ := q
  simp only at *
  by_cases h1 : e = 0
  · have b1 : (e != 0) = false := by simp [h1]
    rw [b1]
    by_cases h2 : n = (b.length : Int)
    · have b2 : (n != (b.length : Int)) = false := by simp [h2]
      rw [b2]
      by_cases h3 : k = 3
      · have b3 : (k != 3) = false := by simp [h3]
        rw [b3, if_pos ⟨h1, h2, h3⟩]
        simp only [cond_false]
        rw [number_is (by omega) hdb]
        cases hg : getU 0 0 d with
        | none => rfl
        | some p =>
          obtain ⟨v, c⟩ := p
          obtain ⟨_, h0, h10, hcl, _, _⟩ := getU_le hdb hg
          simp only [Option.bind_some]
          have c0 : ((c : Int) == 0) = false := by rw [beq_eq_false_iff_ne]; omega
          rw [c0]
          by_cases hv : v = 0
          · rw [if_pos hv, hv]; rfl
          · have v0 : ((v : Int) == 0) = false := by rw [beq_eq_false_iff_ne]; omega
            rw [if_neg hv, v0, decide_eq_true (by omega : (0 : Int) ≤ (c : Int)), decide_eq_true (by omega : (c : Int) ≤ (d.length : Int)), decide_eq_true (by omega : (d.length : Int) ≤ (d.length : Int)), cut_drop, Int.toNat_natCast]
            simp only [cond_false, Bool.and_self, cond_true]
            have hdb2 : ∀ x ∈ d.drop c, IsByte x := fun x hx => hdb x (List.mem_of_mem_drop hx)
            rw [number_is (by rw [List.length_drop]; omega) hdb2]
            cases hg2 : getU 0 0 (d.drop c) with
            | none => rfl
            | some p2 =>
              obtain ⟨w, c2⟩ := p2
              obtain ⟨_, h02, h102, hcl2, _, _⟩ := getU_le hdb2 hg2
              rw [List.length_drop] at hcl2
              simp only [Option.bind_some]
              have c20 : ((c2 : Int) == 0) = false := by rw [beq_eq_false_iff_ne]; omega
              have e1 : IntKind.wrap .i64 (IntKind.wrap .i64 ((d.length : Int) - (c : Int)) - (c2 : Int)) = ((d.length - c - c2 : Nat) : Int) := by
                rw [i64_in (n := (d.length : Int) - (c : Int)) (by omega) (by omega), i64_in (by omega) (by omega)]; omega
              have e2 : IntKind.wrap .i64 ((c : Int) + (c2 : Int)) = ((c + c2 : Nat) : Int) := by rw [i64_in (by omega) (by omega)]; omega
              rw [c20, e1, e2]
              simp only [cond_false]
              by_cases hbig : d.length - c - c2 > 32768
              · rw [if_pos hbig, decide_eq_true (by omega : ((d.length - c - c2 : Nat) : Int) > 32768)]; rfl
              · rw [if_neg hbig, decide_eq_false (by omega : ¬ ((d.length - c - c2 : Nat) : Int) > 32768), decide_eq_true (by omega : (0 : Int) ≤ ((c + c2 : Nat) : Int)), decide_eq_true (by omega : ((c + c2 : Nat) : Int) ≤ (d.length : Int)), cut_drop, Int.toNat_natCast]
                rfl
      · have b3 : (k != 3) = true := by simp [h3]
        rw [b3, if_neg (fun h => h3 h.2.2)]; rfl
    · have b2 : (n != (b.length : Int)) = true := by simp [h2]
      rw [b2, if_neg (fun h => h2 h.2.1)]; rfl
  · have b1 : (e != 0) = true := by simp [h1]
    rw [b1, if_neg (fun h => h1 h.1)]; rfl
def gOk (g : Int) : Bool := decide (0 ≤ g) && decide (g ≤ 999)
theorem gOk_iff {g : Int} : gOk g = true ↔ 0 ≤ g ∧ g ≤ 999 := by simp [gOk]
theorem gOk_not {g : Int} (h : ¬ (0 ≤ g ∧ g ≤ 999)) : gOk g = false := by
  cases hq : gOk g with
  | false => rfl
  | true => exact absurd (gOk_iff.1 hq) h
def nm (g : Int) : Str := [115, 110, 97, 112, 45] ++ Lib.itoa g
def nw (g : Int) : Str := nm g ++ [46, 110, 101, 119]
theorem nm_len {g : Int} (h0 : -9223372036854775808 ≤ g) (h1 : g ≤ 9223372036854775807) : (nm g).length ≤ 26 := by
  have := itoa_len h0 h1
  unfold nm
  simp only [List.length_append, List.length_cons, List.length_nil]
  omega
theorem nw_ne (g : Int) : nw g ≠ [] := by unfold nw nm; simp
theorem nm_ne (g : Int) : nm g ≠ [] := by unfold nm; simp
theorem digits_all : ∀ n : Nat, n < 1000 → ref07_Digits 20 (n : Int) = some (Lib.decDigits n) := by decide +kernel
theorem Digits_is {g : Int} (h0 : 0 ≤ g) (h1 : g ≤ 999) : ref07_Digits' g = some (Lib.itoa g) := by
  have h := digits_all g.toNat (by omega)
  rw [Int.toNat_of_nonneg h0] at h
  have e : Lib.itoa g = Lib.decDigits g.toNat := by unfold Lib.itoa; rw [if_neg (by omega)]
  rw [e]
  exact (ref07_Digits_lm g).of_some 20 h
theorem name_is {m L : FL} (h : St m L) (h2 : Inv2 L) {g : Int} (h0 : -9223372036854775808 ≤ g) (h1 : g ≤ 9223372036854775807) : ∃ m', snap_name' m g = some (nm g, gOk g, m') ∧ St m' L := by
  obtain ⟨m', e, hm⟩ := Sync_is h []
  have hs : syncF L [] = (L, 4) := by unfold syncF; rw [h2.none h.rel.kl]
  rw [hs] at e hm
  refine ⟨m', ?_, hm⟩
  unfold snap_name'
  rw [itoaF_is h0 h1]
  have hl := itoa_len h0 h1
  simp only [Option.bind_some]
  have hd : Nat.ble (([115, 110, 97, 112, 45] : List UInt8).length + (Lib.itoa g).length) 9223372036854775807 = true := Nat.ble_eq_true_of_le (by simp only [List.length_cons, List.length_nil]; omega)
  rw [hd, e]
  simp only [cond_true, Option.bind_some]
  have e4 : ((4 : Int) != 1) = true := by decide
  rw [e4]
  unfold gOk nm
  by_cases hg : 0 ≤ g
  · rw [decide_eq_true hg]; rfl
  · rw [decide_eq_false hg]; rfl
/-- What Load tells of a group's file. -/
def loadF (L : FL) (g : Int) : Int × Int × List Int × Int := bif gOk g then (match mfind (kt := .str) (nm g) L with
  | none => (0, 0, [], 4)
  | some v => match sdecF v.1 with | none => (0, 0, [], 5) | some s => (s.1, s.2.1, s.2.2, 0)) else (0, 0, [], 1)
theorem dec_part {b : List Int} (hl : b.length ≤ 100000) (hb : ∀ x ∈ b, IsByte x) (m : FL) : ((frame_Next' b).bind fun r6 => ((wire_Read' r6.2.1).bind fun r7 => ((wire_Reader_Uvarint' r7).bind fun r8 => ((wire_Reader_Uvarint' r8.2).bind fun r9 => (bif (r6.2.2.2 != 0) then some ((0 : Int), (0 : Int), ([] : List Int), (5 : Int), m) else (bif (r6.1 != 3) then some (0, 0, [], 5, m) else (bif (r6.2.2.1 != ((b).length : Int)) then some (0, 0, [], 5, m) else ((wire_Reader_Err' r9.2).bind fun r10 => (bif (r10.1 != 0) then some (0, 0, [], 5, m) else (bif (r8.1 == 0) then some (0, 0, [], 5, m) else ((wire_Reader_Left' r10.2).bind fun r11 => (bif (decide (r11.1 > 32768)) then some (0, 0, [], 5, m) else ((wire_Reader_Left' r11.2).bind fun r12 => (bif (decide ((0 : Int) ≤ (IntKind.wrap .i64 (((r6.2.1).length : Int) - r12.1))) && decide ((IntKind.wrap .i64 (((r6.2.1).length : Int) - r12.1)) ≤ ((r6.2.1).length : Int)) && decide (((r6.2.1).length : Int) ≤ ((r6.2.1).length : Int))) then ((slices_Clone_byte_byte' (cut r6.2.1 (IntKind.wrap .i64 (((r6.2.1).length : Int) - r12.1)) ((r6.2.1).length : Int))).bind fun r13 => some (r8.1, r9.1, r13, 0, m)) else none))))))))))))))
    = some (match sdecF b with | none => (0, 0, [], 5, m) | some s => (s.1, s.2.1, s.2.2, 0, m)) := by
  rw [Next_is (by omega) hb]
  simp only [Option.bind_some]
  unfold sdecF
  obtain ⟨hdb, hdl⟩ := next_bytes hb
  generalize nextF b = q at *
  obtain ⟨k, d, n, e⟩ := q
  simp only at *
  rw [rRead_eq _ (by omega)]
  have i0 := read_inv d (by omega) hdb
  simp only [Option.bind_some]
  rw [rUvarint_eq i0]
  simp only [Option.bind_some]
  have i1 := rU_inv i0
  rw [rUvarint_eq i1]
  simp only [Option.bind_some]
  by_cases h1 : e = 0
  · have b1 : (e != 0) = false := by simp [h1]
    rw [b1]
    by_cases h3 : k = 3
    · have b3 : (k != 3) = false := by simp [h3]
      rw [b3]
      by_cases h2 : n = (b.length : Int)
      · have b2 : (n != (b.length : Int)) = false := by simp [h2]
        rw [b2, if_pos ⟨h1, h2, h3⟩]
        simp only [cond_false, wire_Reader_Err', wire_Reader_Left', Option.bind_some]
        cases hg : getU 0 0 d with
        | none =>
          have r0 : rU (d, 0, 0) = (0, rfail (d, 0, 0) 5) := by unfold rU; rw [if_pos rfl, read_rest, hg]
          rw [r0]
          have r1 : rU (rfail (d, 0, 0) 5) = (0, rfail (d, 0, 0) 5) := rU_bad (by simp [rfail])
          rw [r1]
          rfl
        | some p =>
          obtain ⟨v, c⟩ := p
          obtain ⟨_, h0, h10, hcl, _, _⟩ := getU_le hdb hg
          have r0 : rU (d, 0, 0) = ((v : Int), rto (d, 0, 0) c) := by unfold rU; rw [if_pos rfl, read_rest, hg]
          rw [r0]
          have hdb2 : ∀ x ∈ d.drop c, IsByte x := fun x hx => hdb x (List.mem_of_mem_drop hx)
          have hrest : rest (rto (d, 0, 0) c) = d.drop c := by rw [rest_rto i0, read_rest]
          simp only
          cases hg2 : getU 0 0 (d.drop c) with
          | none =>
            have r1 : rU (rto (d, 0, 0) c) = (0, rfail (rto (d, 0, 0) c) 5) := by unfold rU; rw [if_pos (show (rto (d, 0, 0) c).2.2 = 0 from rfl), hrest, hg2]
            rw [r1]
            have b5 : ((rfail (rto (d, 0, 0) c) 5).2.2 != 0) = true := by simp [rfail]
            simp only [b5, cond_true]
            by_cases hv : v = 0 <;> simp [hv]
          | some p2 =>
            obtain ⟨w, c2⟩ := p2
            obtain ⟨_, h02, h102, hcl2, _, _⟩ := getU_le hdb2 hg2
            rw [List.length_drop] at hcl2
            have r1 : rU (rto (d, 0, 0) c) = ((w : Int), rto (rto (d, 0, 0) c) c2) := by unfold rU; rw [if_pos (show (rto (d, 0, 0) c).2.2 = 0 from rfl), hrest, hg2]
            rw [r1]
            simp only [rto]
            have e0 : ((0 : Int) != 0) = false := by decide
            simp only [e0, cond_false]
            by_cases hv : v = 0
            · rw [if_pos hv, hv]; rfl
            · have v0 : ((v : Int) == 0) = false := by rw [beq_eq_false_iff_ne]; omega
              rw [if_neg hv, v0]
              have e1 : IntKind.wrap .i64 ((d.length : Int) - (0 + (c : Int) + (c2 : Int))) = ((d.length - c - c2 : Nat) : Int) := by rw [i64_in (by omega) (by omega)]; omega
              have e2 : IntKind.wrap .i64 ((d.length : Int) - ((d.length - c - c2 : Nat) : Int)) = ((c + c2 : Nat) : Int) := by rw [i64_in (by omega) (by omega)]; omega
              simp only [cond_false, e1, e2]
              by_cases hbig : d.length - c - c2 > 32768
              · rw [if_pos hbig, decide_eq_true (by omega : ((d.length - c - c2 : Nat) : Int) > 32768)]; rfl
              · rw [if_neg hbig, decide_eq_false (by omega : ¬ ((d.length - c - c2 : Nat) : Int) > 32768), decide_eq_true (by omega : (0 : Int) ≤ ((c + c2 : Nat) : Int)), decide_eq_true (by omega : ((c + c2 : Nat) : Int) ≤ (d.length : Int)), decide_eq_true (by omega : (d.length : Int) ≤ (d.length : Int)), cut_drop, Int.toNat_natCast, clone_is (by rw [List.length_drop]; omega)]
                rfl
      · have b2 : (n != (b.length : Int)) = true := by simp [h2]
        rw [b2, if_neg (fun h => h2 h.2.1)]; rfl
    · have b3 : (k != 3) = true := by simp [h3]
      rw [b3, if_neg (fun h => h3 h.2.2)]; rfl
  · have b1 : (e != 0) = true := by simp [h1]
    rw [b1, if_neg (fun h => h1 h.1)]; rfl
theorem SLoad_is {m L : FL} (h : St m L) (h2 : Inv2 L) {g : Int} (h0 : -9223372036854775808 ≤ g) (h1 : g ≤ 9223372036854775807) : ∃ m', snap_Load' m g = some ((loadF L g).1, (loadF L g).2.1, (loadF L g).2.2.1, (loadF L g).2.2.2, m') ∧ St m' L := by
  obtain ⟨m1, e1, hm1⟩ := name_is h h2 h0 h1
  unfold snap_Load' loadF
  rw [e1]
  simp only [Option.bind_some]
  cases hg : gOk g with
  | false => exact ⟨m1, rfl, hm1⟩
  | true =>
    obtain ⟨m2, e2, hm2⟩ := Read_is hm1 (nm g)
    simp only [Bool.not_true, cond_false, cond_true]
    rw [e2]
    unfold readF
    refine ⟨m2, ?_, hm2⟩
    cases ef : mfind (kt := .str) (nm g) L with
    | none => rfl
    | some v =>
      have hvl : v.1.length ≤ 65536 := (h.got ef).2.1
      have hvb := h2.got h.rel.kl ef
      simp only [Option.bind_some]
      have hp : snap_Load_p14' v.1 true () m2 = some (.inl (v.1, (), m2)) := rfl
      rw [hp]
      simp only [Option.bind_some, Sum.elim_inl]
      rw [dec_part (by omega) hvb]
      cases sdecF v.1 <;> rfl
theorem loads_is {m L : FL} (h : St m L) (h2 : Inv2 L) {g : Int} (h0 : -9223372036854775808 ≤ g) (h1 : g ≤ 9223372036854775807) : ∃ m', law08_loads' m L g = some (true, m') ∧ St m' L := by
  obtain ⟨m', e, hm⟩ := SLoad_is h h2 h0 h1
  refine ⟨m', ?_, hm⟩
  unfold law08_loads'
  rw [e]
  simp only [Option.bind_some]
  by_cases hg0 : 0 ≤ g
  · rw [decide_eq_false (by omega : ¬ g < 0)]
    by_cases hg1 : g ≤ 999
    · rw [decide_eq_false (by omega : ¬ g > 999), Digits_is hg0 hg1]
      have hil := itoa_len h0 h1
      have hd1 : Nat.ble (([115, 110, 97, 112, 45] : List UInt8).length + (Lib.itoa g).length) 9223372036854775807 = true := Nat.ble_eq_true_of_le (by simp only [List.length_cons, List.length_nil]; omega)
      simp only [cond_false, Option.bind_some]
      rw [hd1, show [115, 110, 97, 112, 45] ++ Lib.itoa g = nm g from rfl, rRead_is h]
      simp only [cond_true, Option.bind_some]
      unfold loadF readF
      rw [gOk_iff.2 ⟨hg0, hg1⟩]
      simp only [cond_true]
      cases ef : mfind (kt := .str) (nm g) L with
      | none =>
        simp only
        rw [refDec_is (by simp) (by simp)]
        simp
      | some v =>
        have hvl : v.1.length ≤ 65536 := (h.got ef).2.1
        have hvb := h2.got h.rel.kl ef
        simp only
        rw [refDec_is (by omega) hvb]
        cases hs : sdecF v.1 with
        | none => simp
        | some s => simp
    · rw [decide_eq_true (by omega : g > 999)]
      unfold loadF
      rw [gOk_not (fun h => hg1 h.2)]
      rfl
  · rw [decide_eq_true (by omega : g < 0)]
    unfold loadF
    rw [gOk_not (fun h => hg0 h.1)]
    rfl
theorem sawake_is : law08_awake' = some true := law08_awake_lm.of_some 60 (by decide +kernel)
theorem law_SnapLoads (b : List Int) (hb : ∀ x ∈ b, IsByte x) : ∃ k, law08_SnapLoads k b = some true := by
  refine (law08_SnapLoads_lm b).fin ?_
  unfold law08_SnapLoads'
  by_cases h4 : b.length > 40000
  · rw [decide_eq_true (by omega : (b.length : Int) > 40000), sawake_is]; rfl
  · rw [decide_eq_false (by omega : ¬ (b.length : Int) > 40000)]
    simp only [cond_false]
    have hn : nameOk [115, 110, 97, 112, 45, 55] = true := by decide
    have hmay : mayF [([115, 110, 97, 112, 45, 55], (b, 0))] = true := by
      unfold mayF
      rw [Bool.and_eq_true, allB_iff]
      refine ⟨by simp, fun i hi => ?_⟩
      have hi0 : i = 0 := by simpa using hi
      subst hi0
      unfold okAt
      rw [getD_lt hi]
      simp only [List.getElem_cons_zero, hn, Bool.true_and]
      rw [decide_eq_true (by omega : b.length ≤ 65536), decide_eq_true (by omega : (0 : Int) ≤ (b.length : Int))]
      rfl
    rcases Load_is [([115, 110, 97, 112, 45, 55], (b, 0))] with ⟨hm, m0, e, hst⟩ | ⟨hm, e⟩
    · have hI : Inv2 [([115, 110, 97, 112, 45, 55], (b, 0))] := Inv2.of_may hm (fun x hx => by
        obtain rfl := List.mem_singleton.1 hx
        exact hb)
      obtain ⟨m1, e1, _⟩ := loads_is hst hI (g := 7) (by decide) (by decide)
      rw [e]
      simp only [Option.bind_some, Option.elim_some]
      have b0 : ((0 : Int) == 0) = true := by decide
      simp only [b0, cond_true]
      rw [e1, sawake_is]
      rfl
    · rw [hmay] at hm; cases hm
abbrev SAct := Bool × (List Int) × Int × SV
theorem three_byte : IsByte 3 := ⟨by decide, by decide⟩
def SOk (s : SV) : Prop := (0 ≤ s.1 ∧ s.1 < 18446744073709551616) ∧ (0 ≤ s.2.1 ∧ s.2.1 < 18446744073709551616) ∧ (∀ x ∈ s.2.2, IsByte x) ∧ s.2.2.length ≤ 1048576
def payS (s : SV) : List Int := putU s.1.toNat ++ putU s.2.1.toNat ++ s.2.2
def encS (s : SV) : List Int := frameF 3 (payS s)
theorem payS_byte {s : SV} (h : SOk s) : ∀ x ∈ payS s, IsByte x := by
  intro x hx
  simp only [payS, List.mem_append] at hx
  rcases hx with (hx | hx) | hx
  · exact putU_byte _ x hx
  · exact putU_byte _ x hx
  · exact h.2.2.1 x hx
theorem payS_len {s : SV} (h : SOk s) (hl : s.2.2.length ≤ 32768) : (payS s).length ≤ 32800 := by
  obtain ⟨⟨h1, h2⟩, ⟨h3, h4⟩, _, _⟩ := h
  have e1 := putU_len10 (n := s.1.toNat) (by omega)
  have e2 := putU_len10 (n := s.2.1.toNat) (by omega)
  simp only [payS, List.length_append]
  omega
theorem refSEnc_is {s : SV} (h : SOk s) (hl : s.2.2.length ≤ 32768) : ref08_Encode' s = some (encS s) := by
  unfold ref08_Encode'
  have hpl := payS_len h hl
  have hpb := payS_byte h
  obtain ⟨⟨h1, h2⟩, ⟨h3, h4⟩, _, _⟩ := h
  have e1 := putU_len10 (n := s.1.toNat) (by omega)
  have e2 := putU_len10 (n := s.2.1.toNat) (by omega)
  rw [refUvarint_eq' s.1 h1 h2]
  simp only [Option.bind_some]
  rw [refUvarint_eq' s.2.1 h3 h4]
  simp only [Option.bind_some]
  rw [room_of (by rw [List.length_append]; omega), room_of (by rw [List.length_append, List.length_append]; omega)]
  simp only [cond_true]
  show ((ref03_Frame' 3 (payS s)).bind fun r3 => some r3) = some (encS s)
  rw [refFrame_is three_byte hpb (by omega)]
  rfl
def saveF (L : FL) (g : Int) (s : SV) : FL × Int := bif gOk g && (!(s.1 == 0) && decide (s.2.2.length ≤ 32768)) then
  (bif (appF (cutF L (nw g) 0).1 (nw g) (encS s)).2 != 0 then ((cutF L (nw g) 0).1, 2) else ((renF (syncF (appF (cutF L (nw g) 0).1 (nw g) (encS s)).1 (nw g)).1 (nw g) (nm g)).1, 0)) else (L, 1)
theorem SSave_is {m L : FL} (h : St m L) (h2 : Inv2 L) {g : Int} (h0 : -9223372036854775808 ≤ g) (h1 : g ≤ 9223372036854775807) {s : SV} (hk : SOk s) : ∃ m', snap_Save' m g s.1 s.2.1 s.2.2 = some ((saveF L g s).2, m') ∧ St m' (saveF L g s).1 ∧ Inv2 (saveF L g s).1 ∧ ref08_Save' L g s = some (saveF L g s) := by
  obtain ⟨m1, e1, hm1⟩ := name_is h h2 h0 h1
  unfold snap_Save' saveF ref08_Save'
  rw [e1]
  simp only [Option.bind_some]
  by_cases hg : 0 ≤ g ∧ g ≤ 999
  · rw [gOk_iff.2 hg, decide_eq_false (by omega : ¬ g < 0), decide_eq_false (by omega : ¬ g > 999)]
    simp only [Bool.not_true, cond_false, Bool.true_and]
    cases hz : (s.1 == 0) with
    | true => exact ⟨m1, rfl, hm1, h2, rfl⟩
    | false =>
      simp only [cond_false, Bool.not_false, Bool.true_and]
      by_cases hl : s.2.2.length ≤ 32768
      · rw [decide_eq_false (by omega : ¬ (s.2.2.length : Int) > 32768), decide_eq_true hl]
        have hpl := payS_len hk hl
        have hpb := payS_byte hk
        have heb : ∀ x ∈ encS s, IsByte x := frameF_byte three_byte hpb
        have hel : (encS s).length ≤ 40000 := by
          have := frameF_len (k := 3) (b := payS s) (by omega)
          unfold encS; omega
        have hkk := hk
        obtain ⟨⟨k1, k2⟩, ⟨k3, k4⟩, _, _⟩ := hk
        have q1 := putU_len10 (n := s.1.toNat) (by omega)
        have q2 := putU_len10 (n := s.2.1.toNat) (by omega)
        have hnl := nm_len h0 h1
        have hil := itoa_len h0 h1
        have hd : Nat.ble ((nm g).length + ([46, 110, 101, 119] : List UInt8).length) 9223372036854775807 = true := Nat.ble_eq_true_of_le (by simp only [List.length_cons, List.length_nil]; omega)
        have hd1 : Nat.ble (([115, 110, 97, 112, 45] : List UInt8).length + (Lib.itoa g).length) 9223372036854775807 = true := Nat.ble_eq_true_of_le (by simp only [List.length_cons, List.length_nil]; omega)
        simp only [cond_false, cond_true]
        rw [Uvarint_eq' [] s.1 k1 k2 (by simp)]
        simp only [Option.bind_some, List.nil_append]
        rw [Uvarint_eq' _ s.2.1 k3 k4 (by omega)]
        simp only [Option.bind_some]
        rw [room_of (by rw [List.length_append, List.length_append]; omega)]
        simp only [cond_true]
        rw [show putU s.1.toNat ++ putU s.2.1.toNat ++ s.2.2 = payS s from rfl, Put_is three_byte hpb (by omega), if_neg (by omega)]
        simp only [Option.bind_some]
        rw [Digits_is hg.1 hg.2]
        simp only [Option.bind_some]
        rw [hd1, show [115, 110, 97, 112, 45] ++ Lib.itoa g = nm g from rfl, hd, show nm g ++ [46, 110, 101, 119] = nw g from rfl]
        simp only [cond_true]
        rw [rCut_is hm1]
        obtain ⟨m2, e2, hm2⟩ := Cut_is hm1 (nw g) 0
        have I2 := h2.cut hm1.rel.kl (nw_ne g) 0
        rw [e2]
        simp only [Option.bind_some]
        rw [refSEnc_is hkk hl, show frameF 3 (payS s) = encS s from rfl]
        simp only [Option.bind_some]
        obtain ⟨m3, e3, hm3⟩ := Append_is hm2 (nw g) (b := encS s) (by omega)
        have I3 := I2.app hm2.rel.kl (nw_ne g) heb
        rw [e3, rAppend_is hm2 (nw g) (by omega)]
        simp only [Option.bind_some]
        cases hc : ((appF (cutF L (nw g) 0).1 (nw g) (encS s)).2 != 0) with
        | true =>
          have hs := app_same (L := (cutF L (nw g) 0).1) (k := nw g) (b := encS s) (by simpa using hc)
          rw [hs] at hm3
          exact ⟨m3, rfl, hm3, I2, rfl⟩
        | false =>
          simp only [cond_false]
          obtain ⟨m4, e4, hm4⟩ := Sync_is hm3 (nw g)
          have I4 := I3.sync hm3.rel.kl (nw_ne g)
          obtain ⟨m5, e5, hm5⟩ := Rename_is hm4 (nw g) (nm g)
          have I5 := I4.ren hm4.rel.kl (nw g) (nm_ne g)
          rw [e4, rSync_is hm3]
          simp only [Option.bind_some]
          rw [e5, rRename_is hm4]
          exact ⟨m5, rfl, hm5, I5, rfl⟩
      · rw [decide_eq_true (by omega : (s.2.2.length : Int) > 32768), decide_eq_false hl]
        exact ⟨m1, rfl, hm1, h2, rfl⟩
  · rw [gOk_not hg]
    refine ⟨m1, rfl, hm1, h2, ?_⟩
    by_cases hg0 : g < 0
    · rw [decide_eq_true hg0]; rfl
    · rw [decide_eq_false hg0, decide_eq_true (by omega : g > 999)]; rfl
def SActOk (a : SAct) : Prop := (-9223372036854775808 ≤ a.2.2.1 ∧ a.2.2.1 ≤ 9223372036854775807) ∧ SOk a.2.2.2
abbrev sactT : T := .pair .bool (.pair (.slice (.int .i64)) (.pair (.int .i64) (.pair (.int .u64) (.pair (.int .u64) (.slice (.int .u8))))))
theorem sact_len {l : List SAct} (h : (T.slice sactT).bulk l ≤ 1048576) {a : SAct} (ha : a ∈ l) : a.2.2.2.2.2.length ≤ 1048576 := by
  have h1 := mem_bulk (t := sactT) (l := l) ha
  have h2 := bulk_slice (t := .int .u8) a.2.2.2.2.2
  have h4 : T.bulk sactT a = 1 + ((T.slice (.int .i64)).bulk a.2.1 + (1 + (1 + (1 + (T.slice (.int .u8)).bulk a.2.2.2.2.2)))) := rfl
  omega
theorem law_SnapActs (L0 : FL) (l : List SAct) (hL : ∀ x ∈ L0, ∀ b ∈ x.2.1, IsByte b) (hl : ∀ a ∈ l, SActOk a) : ∃ k, law08_SnapActs k L0 l = some true := by
  refine (law08_SnapActs_lm L0 l).fin ?_
  unfold law08_SnapActs'
  rcases Load_is L0 with ⟨hm, m0, e, hst⟩ | ⟨hm, e⟩
  · rw [e]
    simp only [Option.bind_some, Option.elim_some]
    have b0 : ((0 : Int) != 0) = false := by decide
    simp only [b0, cond_false]
    by_cases h70 : L0.length > 70
    · rw [decide_eq_true (by omega : (L0.length : Int) > 70), sawake_is]; rfl
    · rw [decide_eq_false (by omega : ¬ (L0.length : Int) > 70)]
      simp only [cond_false]
      have hI0 : Inv2 L0 := Inv2.of_may hm hL
      have key := loop_inv (S := FL × FL × Int) l.length (fun i s => law08_SnapActs_p18' s.2.1 l s.2.2 (i : Int) () s.1) (fun i s => St s.1 s.2.1 ∧ Inv2 s.2.1) (fun r => r = some (.inl ()) ∨ r = some (.inr true))
        (fun i s hi hs => by
          obtain ⟨m, L, n⟩ := s
          obtain ⟨hst, hI⟩ := hs
          try dsimp only at hst hI ⊢
          rw [law08_SnapActs_p18_eq, decide_eq_true (by omega : (i : Int) < (l.length : Int))]
          simp only [cond_true]
          by_cases h40 : i < 40
          · have ha := hl l[i] (List.getElem_mem hi)
            obtain ⟨⟨g0, g1⟩, hk⟩ := ha
            rw [decide_eq_true (by omega : (i : Int) < 40), at?_lt hi, wrap_succ (by omega)]
            simp only [cond_true, Option.bind_some]
            generalize IntKind.wrap .i64 (n + (l[i].2.2.2.2.2.length : Int)) = n'
            by_cases hlong : n' > 200000
            · right; right
              rw [decide_eq_true hlong, sawake_is]; rfl
            · left
              rw [decide_eq_false hlong]
              simp only [cond_false]
              cases hc : l[i].1 with
              | true =>
                obtain ⟨m1, e1, hm1⟩ := Crash_is hst l[i].2.1
                have I1 := hI.crash l[i].2.1
                obtain ⟨m2, e2, hm2⟩ := Files_is hm1
                obtain ⟨m3, e3, hm3⟩ := loads_is hm2 I1 g0 g1
                refine ⟨(m3, crashF l[i].2.1 L, n'), ?_, hm3, I1⟩
                try dsimp only
                simp only [cond_true]
                rw [e1, rCrash_is hst]
                simp only [Option.bind_some]
                rw [e2]
                simp only [Option.bind_some]
                rw [Same_self (by have := hm1.len; omega)]
                simp only [Option.bind_some, Bool.not_true, cond_false]
                rw [e3]
                simp
              | false =>
                obtain ⟨m1, e1, hm1, I1, er⟩ := SSave_is hst hI g0 g1 hk
                obtain ⟨m2, e2, hm2⟩ := Files_is hm1
                obtain ⟨m3, e3, hm3⟩ := loads_is hm2 I1 g0 g1
                refine ⟨(m3, (saveF L l[i].2.2.1 l[i].2.2.2).1, n'), ?_, hm3, I1⟩
                try dsimp only
                simp only [cond_false]
                rw [e1, er]
                simp only [Option.bind_some]
                have bs : ((saveF L l[i].2.2.1 l[i].2.2.2).2 != (saveF L l[i].2.2.1 l[i].2.2.2).2) = false := by simp
                rw [bs]
                simp only [cond_false]
                rw [e2]
                simp only [Option.bind_some]
                rw [Same_self (by have := hm1.len; omega)]
                simp only [Option.bind_some, Bool.not_true, cond_false]
                rw [e3]
                simp
          · right; left
            rw [decide_eq_false (by omega : ¬ (i : Int) < 40)]
            rfl)
        (fun s hs => by
          try dsimp only at hs ⊢
          left
          rw [law08_SnapActs_p18_eq, decide_eq_false (by omega : ¬ (l.length : Int) < (l.length : Int))]
          rfl) 0 (m0, L0, 0) (Nat.zero_le _) ⟨hst, hI0⟩
      have key' : law08_SnapActs_p18' L0 l 0 0 () m0 = some (.inl ()) ∨ law08_SnapActs_p18' L0 l 0 0 () m0 = some (.inr true) := key
      rcases key' with e1 | e1
      · rw [e1, sawake_is]; rfl
      · rw [e1]; rfl
  · rw [e]
    simp only [Option.bind_some, Option.elim_none]
    have b1 : ((1 : Int) != 0) = true := by decide
    rw [b1, sawake_is]
    rfl
end Go.Proofs.YtcbmmkjlppjfoaaGreatDoor.gg
