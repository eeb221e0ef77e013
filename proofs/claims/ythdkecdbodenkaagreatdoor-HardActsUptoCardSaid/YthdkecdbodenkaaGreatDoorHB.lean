/- A hard state on a disk: saved and told, beside the files; the theorem of hard states: the plain law. -/
import Derived.Test.YthdkecdbodenkaaGreatDoorD
import Derived.Test.YthdkecdbodenkaaGreatDoorHA
open Go Go.GG Go.Proofs
set_option linter.unusedVariables false
namespace Go.Proofs.YthdkecdbodenkaaGreatDoor.gg
/-- Files have names, and bytes. -/
def Inv2 (L : FL) : Prop := ∀ x ∈ L, x.1 ≠ [] ∧ ∀ b ∈ x.2.1, IsByte b
theorem Inv2.out {L : FL} (h : Inv2 L) (k : Str) : Inv2 (outF k L) := fun x hx => h x (mem_outF hx)
theorem Inv2.put {L : FL} (h : Inv2 L) {f : FI} (h1 : f.1 ≠ []) (h2 : ∀ b ∈ f.2.1, IsByte b) : Inv2 (putF L f) := fun x hx => by
  rcases mem_putF hx with rfl | hx
  · exact ⟨h1, h2⟩
  · exact h x hx
theorem Inv2.got {L : FL} (h : Inv2 L) (hk : Keyed L) {k : Str} {v : FT} (e : mfind (kt := .str) k L = some v) : ∀ b ∈ v.1, IsByte b := (h (k, v) ((mfind_iff k v hk).1 e)).2
theorem Inv2.none {L : FL} (h : Inv2 L) (hk : Keyed L) : mfind (kt := .str) [] L = none := (mfind_none [] hk).2 fun x hx => (h x hx).1
theorem Inv2.crash {L : FL} (h : Inv2 L) (cuts : List Int) : Inv2 (crashF cuts L) := fun x hx => by
  obtain ⟨i, hi, rfl⟩ := List.mem_iff_getElem.1 hx
  rw [crashF_len] at hi
  rw [crashF_get hi]
  obtain ⟨h1, h2⟩ := h L[i] (List.getElem_mem hi)
  exact ⟨h1, fun b hb => h2 b (List.mem_of_mem_take (List.mem_of_mem_drop hb))⟩
theorem crash_st {m m' L : FL} (h : St m L) (cuts : List Int) (hm : St m' (crashF cuts L)) : True := trivial
def nm (g : Int) : Str := [104, 97, 114, 100, 45] ++ Lib.itoa g
def nw (g : Int) : Str := nm g ++ [46, 110, 101, 119]
theorem nm_all : ∀ n, n < 1000 → (nameOk ([104, 97, 114, 100, 45] ++ Lib.decDigits n) && nameOk (([104, 97, 114, 100, 45] ++ Lib.decDigits n) ++ [46, 110, 101, 119])) = true := by decide +kernel
theorem nm_ok {g : Int} (h0 : 0 ≤ g) (h1 : g ≤ 999) : nameOk (nm g) = true ∧ nameOk (nw g) = true := by
  have h := nm_all g.toNat (by omega)
  rw [Bool.and_eq_true] at h
  have e : Lib.itoa g = Lib.decDigits g.toNat := by unfold Lib.itoa; rw [if_neg (by omega)]
  unfold nw nm
  rw [e]
  exact h
theorem nm_len {g : Int} (h0 : -9223372036854775808 ≤ g) (h1 : g ≤ 9223372036854775807) : (nm g).length ≤ 26 := by
  have := itoa_len h0 h1
  unfold nm
  simp only [List.length_append, List.length_cons, List.length_nil]
  omega
theorem nw_ne (g : Int) : nw g ≠ [] := by unfold nw nm; simp
theorem nm_ne (g : Int) : nm g ≠ [] := by unfold nm; simp
theorem digits_all : ∀ n : Nat, n < 1000 → ref07_Digits 20 (n : Int) = some (Lib.decDigits n) := by decide +kernel
theorem Digits_is {g : Int} (h0 : 0 ≤ g) (h1 : g ≤ 999) : ref07_Digits' g = some (Lib.itoa g) := by
  have h := digits_all g.toNat (by omega)
  rw [Int.toNat_of_nonneg h0] at h
  have e : Lib.itoa g = Lib.decDigits g.toNat := by unfold Lib.itoa; rw [if_neg (by omega)]
  rw [e]
  exact (ref07_Digits_lm g).of_some 20 h
theorem find_put {L : FL} (hs : SortedF L) (k : Str) (v : FT) : mfind (kt := .str) k (putF L (k, v)) = some v :=
  (mfind_iff k v (putF_sorted hs (k, v)).keyed).2 ((putF_perm L (k, v)).mem_iff.2 (List.mem_cons_self ..))
def gOk (g : Int) : Bool := decide (0 ≤ g) && decide (g ≤ 999)
theorem gOk_iff {g : Int} : gOk g = true ↔ 0 ≤ g ∧ g ≤ 999 := by simp [gOk]
theorem name_is {m L : FL} (h : St m L) (h2 : Inv2 L) {g : Int} (h0 : -9223372036854775808 ≤ g) (h1 : g ≤ 9223372036854775807) : ∃ m', hard_name' m g = some (nm g, gOk g, m') ∧ St m' L := by
  obtain ⟨m', e, hm⟩ := Sync_is h []
  have hs : syncF L [] = (L, 4) := by unfold syncF; rw [h2.none h.rel.kl]
  rw [hs] at e hm
  refine ⟨m', ?_, hm⟩
  unfold hard_name'
  rw [itoaF_is h0 h1]
  have hl := itoa_len h0 h1
  simp only [Option.bind_some]
  have hd : Nat.ble (([104, 97, 114, 100, 45] : List UInt8).length + (Lib.itoa g).length) 9223372036854775807 = true := Nat.ble_eq_true_of_le (by simp only [List.length_cons, List.length_nil]; omega)
  rw [hd, e]
  simp only [cond_true, Option.bind_some]
  have e4 : ((4 : Int) != 1) = true := by decide
  rw [e4]
  unfold gOk nm
  by_cases hg : 0 ≤ g
  · rw [decide_eq_true hg]; rfl
  · rw [decide_eq_false hg]; rfl
theorem name_is' {m L : FL} (h : St m L) (h2 : Inv2 L) {g : Int} (h0 : -9223372036854775808 ≤ g) (h1 : g ≤ 9223372036854775807) : ∃ m', hard_name' m g = some (nm g, gOk g, m') ∧ St m' L := name_is h h2 h0 h1
theorem HLoad_is {m L : FL} (h : St m L) (h2 : Inv2 L) {g : Int} (h0 : -9223372036854775808 ≤ g) (h1 : g ≤ 9223372036854775807) : ∃ m' x e, hard_Load' m g = some (x, e, m') ∧ St m' L ∧
    ((gOk g = false ∧ e = 1) ∨ (gOk g = true ∧ mfind (kt := .str) (nm g) L = none ∧ x = (0, 0, 0) ∧ e = 0) ∨ (gOk g = true ∧ ∃ v, mfind (kt := .str) (nm g) L = some v ∧ hard_Decode' v.1 = some (x, e))) := by
  obtain ⟨m1, e1, hm1⟩ := name_is h h2 h0 h1
  unfold hard_Load'
  rw [e1]
  simp only [Option.bind_some]
  cases hg : gOk g with
  | false => exact ⟨m1, _, _, rfl, hm1, .inl ⟨rfl, rfl⟩⟩
  | true =>
    obtain ⟨m2, e2, hm2⟩ := Read_is hm1 (nm g)
    simp only [Bool.not_true, cond_false]
    rw [e2]
    unfold readF
    cases ef : mfind (kt := .str) (nm g) L with
    | none => exact ⟨m2, _, _, rfl, hm2, .inr (.inl ⟨trivial, rfl, rfl, rfl⟩)⟩
    | some v =>
      have hv := h.got ef
      have hvl : v.1.length ≤ 65536 := hv.2.1
      obtain ⟨x, e, ex, _⟩ := Decode_sound (b := v.1) (by omega) (h2.got h.rel.kl ef)
      refine ⟨m2, x, e, ?_, hm2, .inr (.inr ⟨trivial, v, rfl, ex⟩)⟩
      simp only [Option.bind_some, Bool.not_true, cond_false]
      rw [ex]
      rfl
def saveF (L : FL) (g : Int) (h : HV) : FL × Int := bif gOk g && (decide (0 ≤ h.2.1) && decide (h.2.1 ≤ 7)) then
  (let r := appF (cutF L (nw g) 0).1 (nw g) (encF h)
   bif r.2 != 0 then ((cutF L (nw g) 0).1, 2) else ((renF (syncF r.1 (nw g)).1 (nw g) (nm g)).1, 0)) else (L, 1)
/-- What the steps of a save come to. -/
theorem save_steps {m L : FL} (h : St m L) (h2 : Inv2 L) {g : Int} (hg : gOk g = true) {b : List Int} (hb : ∀ x ∈ b, IsByte x) (hl : b.length ≤ 1000) :
    Inv2 (cutF L (nw g) 0).1 ∧ ((appF (cutF L (nw g) 0).1 (nw g) b = ((cutF L (nw g) 0).1, 2)) ∨
      ((appF (cutF L (nw g) 0).1 (nw g) b).2 = 0 ∧ Inv2 (appF (cutF L (nw g) 0).1 (nw g) b).1 ∧ ∃ s, mfind (kt := .str) (nw g) (appF (cutF L (nw g) 0).1 (nw g) b).1 = some (b, s))) := by
  obtain ⟨hg0, hg1⟩ := gOk_iff.1 hg
  obtain ⟨hn1, hn2⟩ := nm_ok hg0 hg1
  obtain ⟨m1, e1, hm1⟩ := Cut_is h (nw g) 0
  have hc : Inv2 (cutF L (nw g) 0).1 ∧ (mfind (kt := .str) (nw g) (cutF L (nw g) 0).1 = none ∨ ∃ s, mfind (kt := .str) (nw g) (cutF L (nw g) 0).1 = some ([], s)) := by
    unfold cutF
    cases ef : mfind (kt := .str) (nw g) L with
    | none => exact ⟨h2, .inl ef⟩
    | some v =>
      simp only
      rw [if_neg (by omega)]
      have e0 : cut v.1 0 0 = [] := by simp [cut]
      rw [e0]
      exact ⟨h2.put (nw_ne g) (by simp), .inr ⟨_, find_put h.rel.srt _ _⟩⟩
  refine ⟨hc.1, ?_⟩
  have hs := hm1.rel.srt
  have h3 := hc.1
  generalize (cutF L (nw g) 0).1 = L1 at *
  unfold appF
  rw [hn2]
  simp only [cond_true]
  rcases hc.2 with ef | ⟨s, ef⟩
  · rw [ef]
    simp only
    by_cases hq : L1.length ≥ 64 ∨ b.length > 65536
    · rw [if_pos hq]; exact .inl rfl
    · rw [if_neg hq]
      exact .inr ⟨rfl, h3.put (nw_ne g) hb, _, find_put hs _ _⟩
  · rw [ef]
    simp only [List.length_nil, List.nil_append]
    rw [if_neg (by omega)]
    exact .inr ⟨rfl, h3.put (nw_ne g) hb, _, find_put hs _ _⟩
theorem sync_ren {m L : FL} (h : St m L) (h2 : Inv2 L) {g : Int} (hg : gOk g = true) {b : List Int} {s : Int} (hb : ∀ x ∈ b, IsByte x) (ef : mfind (kt := .str) (nw g) L = some (b, s)) :
    Inv2 (renF (syncF L (nw g)).1 (nw g) (nm g)).1 ∧ ∃ v, mfind (kt := .str) (nm g) (renF (syncF L (nw g)).1 (nw g) (nm g)).1 = some v ∧ v.1 = b := by
  obtain ⟨hg0, hg1⟩ := gOk_iff.1 hg
  obtain ⟨hn1, hn2⟩ := nm_ok hg0 hg1
  unfold syncF
  rw [ef]
  simp only
  have hs := putF_sorted h.rel.srt (nw g, (b, (b.length : Int)))
  have h3 := h2.put (f := (nw g, (b, (b.length : Int)))) (nw_ne g) hb
  have ef2 := find_put h.rel.srt (nw g) (b, (b.length : Int))
  generalize putF L (nw g, (b, (b.length : Int))) = L2 at *
  unfold renF
  rw [ef2, hn1]
  simp only [cond_true]
  exact ⟨(h3.out _).put (nm_ne g) hb, _, find_put (outF_sorted hs _) _ _, rfl⟩
theorem HSave_is {m L : FL} (h : St m L) (h2 : Inv2 L) {g : Int} (h0 : -9223372036854775808 ≤ g) (h1 : g ≤ 9223372036854775807) {x : HV} (hk : HOk x) : ∃ m', hard_Save' m g x = some ((saveF L g x).2, m') ∧ St m' (saveF L g x).1 ∧ Inv2 (saveF L g x).1 ∧
    ((saveF L g x).2 = 0 → gOk g = true ∧ mayH x ∧ ∃ v, mfind (kt := .str) (nm g) (saveF L g x).1 = some v ∧ v.1 = encF x) := by
  obtain ⟨m1, e1, hm1⟩ := name_is h h2 h0 h1
  unfold hard_Save' saveF
  rw [e1]
  simp only [Option.bind_some]
  rw [Encode_is hk]
  simp only [Option.bind_some]
  cases hg : gOk g with
  | false =>
    refine ⟨m1, ?_, hm1, h2, fun e => by simp at e⟩
    simp
  | true =>
    simp only [Bool.not_true, cond_false, Bool.true_and]
    by_cases hm : mayH x
    · have hmm := hm
      obtain ⟨hv0, hv7⟩ := hm
      rw [if_neg (by omega), decide_eq_true hv0, decide_eq_true hv7]
      have b0 : ((0 : Int) != 0) = false := by decide
      simp only [b0, cond_false, Bool.and_self, cond_true]
      have hel := encF_len hk hmm
      have heb := encF_byte x
      have hnl := nm_len h0 h1
      have hd : Nat.ble ((nm g).length + ([46, 110, 101, 119] : List UInt8).length) 9223372036854775807 = true := Nat.ble_eq_true_of_le (by simp only [List.length_cons, List.length_nil]; omega)
      rw [hd]
      simp only [cond_true]
      obtain ⟨m2, e2, hm2⟩ := Cut_is hm1 (nw g) 0
      obtain ⟨s1, s2⟩ := save_steps hm1 h2 hg heb (by omega)
      rw [show nm g ++ [46, 110, 101, 119] = nw g from rfl, e2]
      simp only [Option.bind_some]
      obtain ⟨m3, e3, hm3⟩ := Append_is hm2 (nw g) (b := encF x) (by omega)
      rw [e3]
      simp only [Option.bind_some]
      rcases s2 with hA | ⟨hA, hI, s, hf⟩
      · rw [hA] at hm3 ⊢
        have b2 : ((2 : Int) != 0) = true := by decide
        simp only [b2, cond_true]
        exact ⟨m3, rfl, hm3, s1, fun e => absurd e (by decide)⟩
      · rw [hA]
        simp only [b0, cond_false]
        obtain ⟨m4, e4, hm4⟩ := Sync_is hm3 (nw g)
        obtain ⟨m5, e5, hm5⟩ := Rename_is hm4 (nw g) (nm g)
        obtain ⟨t1, t2⟩ := sync_ren hm3 hI hg heb hf
        rw [e4]
        simp only [Option.bind_some]
        rw [e5]
        exact ⟨m5, rfl, hm5, t1, fun _ => ⟨trivial, hmm, t2⟩⟩
    · have hv : (decide (0 ≤ x.2.1) && decide (x.2.1 ≤ 7)) = false := by
        rw [Bool.and_eq_false_iff, decide_eq_false_iff_not, decide_eq_false_iff_not]
        unfold mayH at hm
        omega
      unfold mayH at hm
      rw [if_pos (by omega), hv]
      exact ⟨m1, rfl, hm1, h2, fun e => by simp at e⟩
theorem refSave_is {m L : FL} (h : St m L) (h2 : Inv2 L) {g : Int} {x : HV} (hk : HOk x) : ref07_Save' L g x = some (saveF L g x) := by
  unfold ref07_Save' saveF
  by_cases hg0 : 0 ≤ g
  · rw [decide_eq_false (by omega : ¬ g < 0)]
    by_cases hg1 : g ≤ 999
    · rw [decide_eq_false (by omega : ¬ g > 999), refMay_is]
      have hg : gOk g = true := gOk_iff.2 ⟨hg0, hg1⟩
      rw [hg]
      simp only [cond_false, Option.bind_some, Bool.true_and]
      cases hv : (decide (0 ≤ x.2.1) && decide (x.2.1 ≤ 7)) with
      | false => rfl
      | true =>
        have hm : mayH x := by
          simp only [Bool.and_eq_true, decide_eq_true_eq] at hv
          exact hv
        have hel := encF_len hk hm
        have heb := encF_byte x
        have hnl := nm_len (g := g) (by omega) (by omega)
        have hil := itoa_len (n := g) (by omega) (by omega)
        simp only [Bool.not_true, cond_false, cond_true]
        rw [Digits_is hg0 hg1]
        simp only [Option.bind_some]
        have hd1 : Nat.ble (([104, 97, 114, 100, 45] : List UInt8).length + (Lib.itoa g).length) 9223372036854775807 = true := Nat.ble_eq_true_of_le (by simp only [List.length_cons, List.length_nil]; omega)
        have hd2 : Nat.ble ((nm g).length + ([46, 110, 101, 119] : List UInt8).length) 9223372036854775807 = true := Nat.ble_eq_true_of_le (by simp only [List.length_cons, List.length_nil]; omega)
        rw [hd1, show [104, 97, 114, 100, 45] ++ Lib.itoa g = nm g from rfl, hd2, show nm g ++ [46, 110, 101, 119] = nw g from rfl]
        simp only [cond_true]
        rw [rCut_is h]
        simp only [Option.bind_some]
        rw [refEncode_is hk hm]
        simp only [Option.bind_some]
        obtain ⟨m2, e2, hm2⟩ := Cut_is h (nw g) 0
        obtain ⟨m3, e3, hm3⟩ := Append_is hm2 (nw g) (b := encF x) (by omega)
        rw [rAppend_is hm2 (nw g) (by omega)]
        simp only [Option.bind_some]
        cases hc : ((appF (cutF L (nw g) 0).1 (nw g) (encF x)).2 != 0) with
        | true => rfl
        | false =>
          simp only [cond_false]
          rw [rSync_is hm3]
          simp only [Option.bind_some]
          obtain ⟨m4, e4, hm4⟩ := Sync_is hm3 (nw g)
          rw [rRename_is hm4]
          rfl
    · rw [decide_eq_true (by omega : g > 999)]
      have hg : gOk g = false := by
        cases hq : gOk g with
        | false => rfl
        | true => exact absurd (gOk_iff.1 hq).2 hg1
      rw [hg]
      rfl
  · rw [decide_eq_true (by omega : g < 0)]
    have hg : gOk g = false := by
      cases hq : gOk g with
      | false => rfl
      | true => exact absurd (gOk_iff.1 hq).1 hg0
    rw [hg]
    rfl
/-- Both decoders tell the same. -/
theorem dec_same {b : List Int} (hl : b.length ≤ 1000000) (hb : ∀ x ∈ b, IsByte x) {x y : HV} {e : Int} {ok : Bool} (ex : hard_Decode' b = some (x, e)) (ey : ref07_Decode' b = some (y, ok)) : (e == 0) = ok ∧ x = y := by
  obtain ⟨x', e', ex', hx⟩ := Decode_sound (b := b) hl hb
  obtain ⟨y', ok', ey', hy⟩ := refDecode_sound (b := b) hl hb
  rw [ex] at ex'
  rw [ey] at ey'
  simp only [Option.some.injEq, Prod.mk.injEq] at ex' ey'
  obtain ⟨rfl, rfl⟩ := ex'
  obtain ⟨rfl, rfl⟩ := ey'
  rcases hx with ⟨rfl, h1, h2, h3⟩ | ⟨rfl, rfl⟩
  · have := refDecode_full h1 h2
    rw [← h3, ey] at this
    simp only [Option.some.injEq, Prod.mk.injEq] at this
    rw [this.2, this.1]
    exact ⟨rfl, rfl⟩
  · rcases hy with ⟨rfl, h1, h2, h3⟩ | ⟨rfl, rfl⟩
    · have := Decode_full h1 h2
      rw [← h3, ex] at this
      simp at this
    · exact ⟨rfl, rfl⟩
abbrev HAct := Bool × (List Int) × Int × HV
def HActOk (a : HAct) : Prop := (-9223372036854775808 ≤ a.2.2.1 ∧ a.2.2.1 ≤ 9223372036854775807) ∧ HOk a.2.2.2
theorem act_is {m L : FL} (h : St m L) (h2 : Inv2 L) {a : HAct} (ha : HActOk a) (l : List HAct) (i j : Int) (t : Bool) : ∃ m' L', law07_HardActs_p27' L l i j t () a m = some (.inl (L', l, i, j, t, (), a, m')) ∧ St m' L' ∧ Inv2 L' := by
  obtain ⟨⟨h0, h1⟩, hk⟩ := ha
  unfold law07_HardActs_p27'
  cases hc : a.1 with
  | true =>
    obtain ⟨m', e, hm⟩ := Crash_is h a.2.1
    refine ⟨m', crashF a.2.1 L, ?_, hm, h2.crash _⟩
    simp only [cond_true]
    rw [e, rCrash_is h]
    rfl
  | false =>
    simp only [cond_false]
    obtain ⟨m1, e1, hm1, hI, hz⟩ := HSave_is h h2 h0 h1 hk
    rw [e1, refSave_is h h2 hk]
    simp only [Option.bind_some]
    obtain ⟨m2, x, e, e2, hm2, hx⟩ := HLoad_is hm1 hI h0 h1
    rw [e2]
    simp only [Option.bind_some]
    refine ⟨m2, (saveF L a.2.2.1 a.2.2.2).1, ?_, hm2, hI⟩
    have b1 : ((saveF L a.2.2.1 a.2.2.2).2 != (saveF L a.2.2.1 a.2.2.2).2) = false := by simp
    rw [b1]
    simp only [cond_false]
    cases hq : ((saveF L a.2.2.1 a.2.2.2).2 == 0) with
    | false => rfl
    | true =>
      obtain ⟨hg, hm, v, hv1, hv2⟩ := hz (by simpa using hq)
      rcases hx with ⟨hx, _⟩ | ⟨_, hx, _⟩ | ⟨_, w, hw1, hw2⟩
      · rw [hg] at hx; cases hx
      · rw [hv1] at hx; cases hx
      · rw [hv1] at hw1
        obtain rfl := Option.some.inj hw1
        rw [hv2, Decode_full hk hm] at hw2
        simp only [Option.some.injEq, Prod.mk.injEq] at hw2
        obtain ⟨rfl, rfl⟩ := hw2
        simp only [cond_true]
        rw [hv_eqb]
        simp
theorem law_HardActs (L0 : FL) (l : List HAct) (hL : ∀ x ∈ L0, ∀ b ∈ x.2.1, IsByte b) (hl : ∀ a ∈ l, HActOk a) : ∃ k, law07_HardActs k L0 l = some true := by
  refine (law07_HardActs_lm L0 l).fin ?_
  unfold law07_HardActs'
  rcases Load_is L0 with ⟨hm, m0, e, hst⟩ | ⟨hm, e⟩
  · rw [e]
    simp only [Option.bind_some, Option.elim_some]
    have b0 : ((0 : Int) != 0) = false := by decide
    simp only [b0, cond_false]
    by_cases h70 : L0.length > 70
    · rw [decide_eq_true (by omega : (L0.length : Int) > 70), hawake_is]; rfl
    · rw [decide_eq_false (by omega : ¬ (L0.length : Int) > 70)]
      simp only [cond_false]
      have hI0 : Inv2 L0 := fun x hx => by
        obtain ⟨i, hi, rfl⟩ := List.mem_iff_getElem.1 hx
        refine ⟨?_, hL _ hx⟩
        unfold mayF at hm
        rw [Bool.and_eq_true] at hm
        have ho := allB_iff.1 hm.2 i hi
        unfold okAt at ho
        rw [getD_lt hi] at ho
        simp only [Bool.and_eq_true] at ho
        have hn := ho.1
        intro he
        rw [he] at hn
        exact absurd hn (by decide)
      have key := loop_inv (S := FL × FL) l.length (fun i s => law07_HardActs_p16' s.2 l (i : Int) () s.1) (fun i s => St s.1 s.2 ∧ Inv2 s.2) (fun r => r = some (.inl ()))
        (fun i s hi hs => by
          obtain ⟨m, L⟩ := s
          obtain ⟨hst, hI⟩ := hs
          try dsimp only at hst hI ⊢
          by_cases h60 : i < 60
          · have ha := hl l[i] (List.getElem_mem hi)
            have ha' := ha
            obtain ⟨⟨g0, g1⟩, hk⟩ := ha
            obtain ⟨m1, L1, e1, hm1, hI1⟩ := act_is hst hI ha' l (i : Int) (i : Int) true
            obtain ⟨m2, e2, hm2⟩ := Files_is hm1
            obtain ⟨m3, x, e, e3, hm3, hx⟩ := HLoad_is hm2 hI1 g0 g1
            refine .inl ⟨(m3, L1), ?_, hm3, hI1⟩
            try dsimp only
            rw [law07_HardActs_p16_eq, decide_eq_true (by omega : (i : Int) < (l.length : Int)), decide_eq_true (by omega : (i : Int) < 60), at?_lt hi]
            simp only [cond_true, Option.bind_some]
            rw [e1]
            simp only [Option.bind_some, Sum.elim_inl]
            rw [e2]
            simp only [Option.bind_some]
            rw [Same_self (by have := hm1.len; omega)]
            simp only [Option.bind_some, Bool.not_true, cond_false]
            rw [e3]
            simp only [Option.bind_some]
            rw [wrap_succ (by omega)]
            by_cases hg0 : 0 ≤ l[i].2.2.1
            · rw [decide_eq_false (by omega : ¬ l[i].2.2.1 < 0)]
              by_cases hg1 : l[i].2.2.1 ≤ 999
              · rw [decide_eq_false (by omega : ¬ l[i].2.2.1 > 999), Digits_is hg0 hg1]
                have hil := itoa_len (n := l[i].2.2.1) (by omega) (by omega)
                have hd1 : Nat.ble (([104, 97, 114, 100, 45] : List UInt8).length + (Lib.itoa l[i].2.2.1).length) 9223372036854775807 = true := Nat.ble_eq_true_of_le (by simp only [List.length_cons, List.length_nil]; omega)
                simp only [cond_false, Option.bind_some]
                rw [hd1, show [104, 97, 114, 100, 45] ++ Lib.itoa l[i].2.2.1 = nm l[i].2.2.1 from rfl, rRead_is hm1]
                simp only [cond_true, Option.bind_some]
                have hg : gOk l[i].2.2.1 = true := gOk_iff.2 ⟨hg0, hg1⟩
                rcases hx with ⟨hx, _⟩ | ⟨_, hf, rfl, rfl⟩ | ⟨_, v, hf, hd⟩
                · rw [hg] at hx; cases hx
                · unfold readF
                  rw [hf]
                  obtain ⟨y, ok, ey, _⟩ := refDecode_sound (b := []) (by simp) (by simp)
                  rw [ey]
                  simp only [Option.bind_some]
                  rw [hv_eqb]
                  simp
                · unfold readF
                  rw [hf]
                  have hvl : v.1.length ≤ 65536 := (hm1.got hf).2.1
                  have hvb := hI1.got hm1.rel.kl hf
                  obtain ⟨y, ok, ey, _⟩ := refDecode_sound (b := v.1) (by omega) hvb
                  obtain ⟨s1, rfl⟩ := dec_same (by omega) hvb hd ey
                  rw [ey]
                  simp only [Option.bind_some]
                  simp only [hv_eqb, s1]
                  simp
              · have hg : gOk l[i].2.2.1 = false := by
                  cases hq : gOk l[i].2.2.1 with
                  | false => rfl
                  | true => exact absurd (gOk_iff.1 hq).2 hg1
                rw [decide_eq_true (by omega : l[i].2.2.1 > 999)]
                rcases hx with ⟨_, rfl⟩ | ⟨hx, _⟩ | ⟨hx, _⟩
                · rfl
                · rw [hg] at hx; cases hx
                · rw [hg] at hx; cases hx
            · have hg : gOk l[i].2.2.1 = false := by
                cases hq : gOk l[i].2.2.1 with
                | false => rfl
                | true => exact absurd (gOk_iff.1 hq).1 hg0
              rw [decide_eq_true (by omega : l[i].2.2.1 < 0)]
              rcases hx with ⟨_, rfl⟩ | ⟨hx, _⟩ | ⟨hx, _⟩
              · rfl
              · rw [hg] at hx; cases hx
              · rw [hg] at hx; cases hx
          · right
            rw [law07_HardActs_p16_eq, decide_eq_true (by omega : (i : Int) < (l.length : Int)), decide_eq_false (by omega : ¬ (i : Int) < 60)]
            rfl)
        (fun s hs => by
          try dsimp only at hs ⊢
          rw [law07_HardActs_p16_eq, decide_eq_false (by omega : ¬ (l.length : Int) < (l.length : Int))]
          rfl) 0 (m0, L0) (Nat.zero_le _) ⟨hst, hI0⟩
      have e1 : law07_HardActs_p16' L0 l 0 () m0 = some (.inl ()) := key
      rw [e1, hawake_is]
      rfl
  · rw [e]
    simp only [Option.bind_some, Option.elim_none]
    have b1 : ((1 : Int) != 0) = true := by decide
    rw [b1, hawake_is]
    rfl
end Go.Proofs.YthdkecdbodenkaaGreatDoor.gg
