/- What the document's answers on files come to, and what a disk's methods do. -/
import Derived.Test.YtababmeocedhiaaDoorA
import Derived.Test.YtababmeocedhiaaDoorK6
open Go Go.GG
set_option linter.unusedVariables false
namespace Go.Proofs.YtababmeocedhiaaDoor.gg
def nameCs : Str := [97, 98, 99, 100, 101, 102, 103, 104, 105, 106, 107, 108, 109, 110, 111, 112, 113, 114, 115, 116, 117, 118, 119, 120, 121, 122, 48, 49, 50, 51, 52, 53, 54, 55, 56, 57, 46, 45]
def nameOk (s : Str) : Bool := decide (1 ≤ s.length) && (decide (s.length ≤ 32) && s.all fun b => nameCs.contains b)
theorem nameOk_len {s : Str} (h : nameOk s = true) : s.length ≤ 32 := by
  unfold nameOk at h
  simp only [Bool.and_eq_true, decide_eq_true_eq] at h
  exact h.2.1
theorem dropWhile_all {p : UInt8 → Bool} : ∀ {l : Str}, l.dropWhile p = [] ↔ l.all p = true
  | [] => by simp
  | x :: l => by
    rw [List.dropWhile_cons, List.all_cons]
    cases p x with
    | true => simpa using dropWhile_all (l := l)
    | false => simp
theorem trim_nil (s : Str) : (Lib.trimS s nameCs == []) = s.all fun b => nameCs.contains b := by
  rw [Bool.eq_iff_iff, beq_iff_eq]
  show (((s.reverse.dropWhile (nameCs.contains ·)).reverse).dropWhile (nameCs.contains ·) = []) ↔ _
  rw [dropWhile_all, List.all_reverse]
  constructor
  · intro h
    cases hd : s.reverse.dropWhile (nameCs.contains ·) with
    | nil =>
      rw [dropWhile_all, List.all_reverse] at hd
      exact hd
    | cons x r =>
      rw [hd, List.all_cons, Bool.and_eq_true] at h
      have := dropWhile_head hd
      rw [h.1] at this; cases this
  · intro h
    rw [dropWhile_all.2 (by rw [List.all_reverse]; exact h)]
    rfl
theorem may_is (s : Str) : disk_may' s = some (nameOk s) := by
  unfold disk_may' nameOk
  by_cases h1 : 1 ≤ s.length
  · rw [decide_eq_true h1, decide_eq_true (by omega : (s.length : Int) ≥ 1)]
    by_cases h2 : s.length ≤ 32
    · rw [decide_eq_true h2, decide_eq_true (by omega : (s.length : Int) ≤ 32)]
      simp only [cond_true, Bool.true_and]
      have : trimF s [97, 98, 99, 100, 101, 102, 103, 104, 105, 106, 107, 108, 109, 110, 111, 112, 113, 114, 115, 116, 117, 118, 119, 120, 121, 122, 48, 49, 50, 51, 52, 53, 54, 55, 56, 57, 46, 45] = some (Lib.trimS s nameCs) := by
        unfold trimF
        rw [decide_eq_true (by omega : s.length ≤ 9223372036854775807)]
        rfl
      rw [this, Option.bind_some, trim_nil]
    · rw [decide_eq_false h2, decide_eq_false (by omega : ¬ (s.length : Int) ≤ 32)]; rfl
  · rw [decide_eq_false h1, decide_eq_false (by omega : ¬ (s.length : Int) ≥ 1)]; rfl
/-- A thing that a disk may hold. -/
def FOk (x : FI) : Prop := x.1.length ≤ 32 ∧ x.2.1.length ≤ 65536 ∧ 0 ≤ x.2.2 ∧ x.2.2 ≤ (x.2.1.length : Int)
structure St (m L : FL) : Prop where
  rel : Rel m L
  len : L.length ≤ 64
  ok : ∀ x ∈ L, FOk x
theorem outF_len (k : Str) (L : FL) : (outF k L).length ≤ L.length := List.length_filter_le _ _
theorem mem_outF {k : Str} {L : FL} {x : FI} (h : x ∈ outF k L) : x ∈ L := (List.mem_filter.1 h).1
theorem mem_putF {L : FL} {f x : FI} (h : x ∈ putF L f) : x = f ∨ x ∈ L := by
  rcases List.mem_cons.1 ((putF_perm L f).mem_iff.1 h) with h | h
  · exact .inl h
  · exact .inr (mem_outF h)
theorem outF_there {L : FL} (h : Keyed L) {k : Str} {v : FT} (e : mfind (kt := .str) k L = some v) : (outF k L).length + 1 = L.length := by
  obtain ⟨i, hi, e⟩ := List.mem_iff_getElem.1 ((mfind_iff k v h).1 e)
  obtain ⟨hs, ho⟩ := split_at h hi e
  rw [ho]
  simp; omega
theorem St.find {m L : FL} (h : St m L) (k : Str) : mfind (kt := .str) k m = mfind (kt := .str) k L := h.rel.find k
theorem St.got {m L : FL} (h : St m L) {k : Str} {v : FT} (e : mfind (kt := .str) k L = some v) : FOk (k, v) := h.ok _ ((mfind_iff k v h.rel.kl).1 e)
theorem St.same {m L : FL} (h : St m L) {k : Str} {v : FT} (e : mfind (kt := .str) k L = some v) : St (mset (kt := .str) k v m) L := ⟨h.rel.same (by rw [h.find]; exact e), h.len, h.ok⟩
theorem St.put {m L : FL} (h : St m L) {k : Str} {v : FT} (e : mfind (kt := .str) k L = some v) (u : FT) (hu : FOk (k, u)) : St (mset (kt := .str) k u m) (putF L (k, u)) := by
  refine ⟨h.rel.set k u, ?_, fun x hx => ?_⟩
  · have h1 := outF_there h.rel.kl e
    have h2 := (putF_perm L (k, u)).length_eq
    simp only [List.length_cons] at h2
    have := h.len
    omega
  · rcases mem_putF hx with rfl | hx
    · exact hu
    · exact h.ok x hx
theorem St.new {m L : FL} (h : St m L) (k : Str) (hl : L.length < 64) (u : FT) (hu : FOk (k, u)) : St (mset (kt := .str) k u m) (putF L (k, u)) := by
  refine ⟨h.rel.set k u, ?_, fun x hx => ?_⟩
  · have := putF_len L (k, u)
    omega
  · rcases mem_putF hx with rfl | hx
    · exact hu
    · exact h.ok x hx
theorem St.out {m L : FL} (h : St m L) (k : Str) : St (mdel (kt := .str) k m) (outF k L) :=
  ⟨h.rel.del k, Nat.le_trans (outF_len k L) h.len, fun x hx => h.ok x (mem_outF hx)⟩
theorem st_nil : St [] [] := ⟨⟨List.Perm.refl _, .of List.Pairwise.nil⟩, by decide, fun x h => by cases h⟩
theorem find_is {m L : FL} (h : St m L) (k : Str) : disk_Disk_find' m k = match mfind (kt := .str) k L with | none => some ((m, none), 4) | some v => some ((mset (kt := .str) k v m, some k), 0) := by
  unfold disk_Disk_find' disk_Disk_is'
  simp only [Option.bind_some, Bool.not_true, cond_false]
  rw [h.find]
  cases mfind (kt := .str) k L <;> rfl
theorem clone_is {b : List Int} (h : b.length ≤ 1048576) : slices_Clone_byte_byte' b = some b := by
  unfold slices_Clone_byte_byte'
  rw [room_of (by simp; omega)]
  simp
theorem names_is {m L : FL} (h : St m L) : disk_Disk_names' m = some (L.map (·.1), m) := by
  unfold disk_Disk_names' disk_Disk_is'
  simp only [Option.bind_some, Bool.not_true, cond_false]
  rw [seqF_is h.rel h.len fun x hx => (h.ok x hx).1]
  rfl
theorem cut_len {b : List Int} {n : Int} (h0 : 0 ≤ n) (h1 : n ≤ (b.length : Int)) : ((cut b 0 n).length : Int) = n := by
  unfold cut
  simp; omega
def readF (L : FL) (k : Str) : List Int × Bool := match mfind (kt := .str) k L with | none => ([], false) | some v => (v.1, true)
theorem Read_is {m L : FL} (h : St m L) (k : Str) : ∃ m', disk_Disk_Read' m k = some ((readF L k).1, (readF L k).2, m') ∧ St m' L := by
  unfold disk_Disk_Read' readF
  rw [find_is h]
  cases e : mfind (kt := .str) k L with
  | none => exact ⟨m, rfl, h⟩
  | some v =>
    have h2 := h.same e
    have h3 := h2.same e
    refine ⟨mset (kt := .str) k v (mset (kt := .str) k v m), ?_, h3⟩
    simp only [Option.bind_some, Option.elim_some]
    rw [h2.find, e]
    simp only [Option.bind_some]
    have hg1 : v.1.length ≤ 65536 := (h.got e).2.1
    rw [clone_is (by omega)]
    rfl
def syncF (L : FL) (k : Str) : FL × Int := match mfind (kt := .str) k L with | none => (L, 4) | some v => (putF L (k, (v.1, (v.1.length : Int))), 0)
theorem Sync_is {m L : FL} (h : St m L) (k : Str) : ∃ m', disk_Disk_Sync' m k = some ((syncF L k).2, m') ∧ St m' (syncF L k).1 := by
  unfold disk_Disk_Sync' syncF
  rw [find_is h]
  cases e : mfind (kt := .str) k L with
  | none => exact ⟨m, rfl, h⟩
  | some v =>
    have h2 := h.same e
    have hg := h.got e
    refine ⟨mset (kt := .str) k (v.1, (v.1.length : Int)) (mset (kt := .str) k v m), ?_, h2.put e _ ⟨hg.1, hg.2.1, by simp, by simp⟩⟩
    simp only [Option.bind_some, Option.elim_some]
    rw [h2.find, e]
    rfl
def appF (L : FL) (k : Str) (b : List Int) : FL × Int := bif nameOk k then (match mfind (kt := .str) k L with
  | none => if L.length ≥ 64 ∨ b.length > 65536 then (L, 2) else (putF L (k, (b, 0)), 0)
  | some v => if v.1.length + b.length > 65536 then (L, 2) else (putF L (k, (v.1 ++ b, v.2)), 0)) else (L, 1)
theorem Append_is {m L : FL} (h : St m L) (k : Str) {b : List Int} (hb : b.length ≤ 1048576) : ∃ m', disk_Disk_Append' m k b = some ((appF L k b).2, m') ∧ St m' (appF L k b).1 := by
  unfold disk_Disk_Append' disk_Disk_is' appF
  simp only [Option.bind_some, Bool.not_true, cond_false]
  rw [may_is]
  simp only [Option.bind_some]
  cases hn : nameOk k with
  | false => exact ⟨m, rfl, h⟩
  | true =>
    simp only [Bool.not_true, cond_false, cond_true]
    rw [h.find]
    have hl := h.rel.perm.length_eq
    cases e : mfind (kt := .str) k L with
    | none =>
      simp only [Option.elim_none]
      rw [hl]
      by_cases h0 : L.length ≥ 64
      · rw [if_pos (.inl h0), decide_eq_true (by omega : (L.length : Int) ≥ 64)]
        exact ⟨m, rfl, h⟩
      · rw [decide_eq_false (by omega : ¬ (L.length : Int) ≥ 64)]
        by_cases h1 : b.length > 65536
        · rw [if_pos (.inr h1), decide_eq_true (by omega : (b.length : Int) > 65536)]
          exact ⟨m, rfl, h⟩
        · rw [if_neg (by omega), decide_eq_false (by omega : ¬ (b.length : Int) > 65536), room_of (by omega)]
          exact ⟨_, rfl, h.new k (by omega) _ ⟨nameOk_len hn, by show b.length ≤ 65536; omega, by simp, by simp⟩⟩
    | some v =>
      have hg := h.got e
      have hg1 : v.1.length ≤ 65536 := hg.2.1
      have hg2 : v.2 ≤ (v.1.length : Int) := hg.2.2.2
      simp only [Option.elim_some]
      rw [i64_in (by omega) (by omega)]
      by_cases h1 : v.1.length + b.length > 65536
      · rw [if_pos h1, decide_eq_true (by omega : (b.length : Int) > 65536 - (v.1.length : Int))]
        exact ⟨_, rfl, h.same e⟩
      · rw [if_neg h1, decide_eq_false (by omega : ¬ (b.length : Int) > 65536 - (v.1.length : Int)), room_of (by simp; omega), show (k == k) = true by simp]
        refine ⟨_, rfl, h.put e _ ⟨hg.1, ?_, hg.2.2.1, ?_⟩⟩
        · show (v.1 ++ b).length ≤ 65536
          rw [List.length_append]; omega
        · show v.2 ≤ ((v.1 ++ b).length : Int)
          rw [List.length_append]; omega
def stay (cuts : List Int) (i : Nat) (v : FT) : Int := match cuts[i]? with | some c => intMax 0 (intMin c ((v.1.length : Int) - v.2)) | none => 0
def crash1 (cuts : List Int) (i : Nat) (v : FT) : FT := (cut v.1 0 (v.2 + stay cuts i v), v.2 + stay cuts i v)
theorem stay_le {cuts : List Int} {i : Nat} {v : FT} (h : v.2 ≤ (v.1.length : Int)) : 0 ≤ stay cuts i v ∧ v.2 + stay cuts i v ≤ (v.1.length : Int) := by
  unfold stay
  split
  · unfold intMax intMin
    split <;> split <;> omega
  · omega
def crashF (cuts : List Int) (L : FL) : FL := L.mapIdx fun i x => (x.1, crash1 cuts i x.2)
theorem crashF_len (cuts : List Int) (L : FL) : (crashF cuts L).length = L.length := by simp [crashF]
theorem crashF_get {cuts : List Int} {L : FL} {i : Nat} (h : i < L.length) : (crashF cuts L)[i]'(by rw [crashF_len]; exact h) = (L[i].1, crash1 cuts i L[i].2) := by simp [crashF]
theorem crash1_ok {cuts : List Int} {i : Nat} {x : FI} (h : FOk x) : FOk (x.1, crash1 cuts i x.2) := by
  obtain ⟨h1, h2, h3, h4⟩ := h
  have hs := stay_le (cuts := cuts) (i := i) h4
  have hc := cut_len (b := x.2.1) (n := x.2.2 + stay cuts i x.2) (by omega) hs.2
  refine ⟨h1, ?_, ?_, ?_⟩
  · show (cut x.2.1 0 (x.2.2 + stay cuts i x.2)).length ≤ 65536
    omega
  · show 0 ≤ x.2.2 + stay cuts i x.2
    omega
  · show x.2.2 + stay cuts i x.2 ≤ ((cut x.2.1 0 (x.2.2 + stay cuts i x.2)).length : Int)
    omega
/-- The first ones are done. -/
def crashT (cuts : List Int) (L : FL) (i : Nat) : FL := L.mapIdx fun j x => if j < i then (x.1, crash1 cuts j x.2) else x
theorem crashT_len (cuts : List Int) (L : FL) (i : Nat) : (crashT cuts L i).length = L.length := by simp [crashT]
theorem crashT_get {cuts : List Int} {L : FL} {i j : Nat} (h : j < L.length) : (crashT cuts L i)[j]'(by rw [crashT_len]; exact h) = if j < i then (L[j].1, crash1 cuts j L[j].2) else L[j] := by simp [crashT]
theorem crashT_zero (cuts : List Int) (L : FL) : crashT cuts L 0 = L := by
  refine List.ext_getElem (crashT_len ..) fun j h1 h2 => ?_
  rw [crashT_get h2]; simp
theorem crashT_all (cuts : List Int) (L : FL) : crashT cuts L L.length = crashF cuts L := by
  refine List.ext_getElem (by rw [crashT_len, crashF_len]) fun j h1 h2 => ?_
  rw [crashT_len] at h1
  rw [crashT_get h1, crashF_get h1, if_pos h1]
theorem crashT_succ {cuts : List Int} {L : FL} {i : Nat} (h : i < L.length) : crashT cuts L (i + 1) = (crashT cuts L i).set i (L[i].1, crash1 cuts i L[i].2) := by
  refine List.ext_getElem (by rw [List.length_set, crashT_len, crashT_len]) fun j h1 h2 => ?_
  rw [crashT_len] at h1
  rw [crashT_get h1, List.getElem_set, crashT_get h1]
  by_cases hj : i = j
  · subst hj; simp
  · rw [if_neg hj]
    by_cases h3 : j < i
    · rw [if_pos (by omega), if_pos h3]
    · rw [if_neg (by omega), if_neg h3]
theorem Crash_is {m L : FL} (h : St m L) (cuts : List Int) : ∃ m', disk_Disk_Crash' m cuts = some m' ∧ St m' (crashF cuts L) := by
  have key := loop_inv (S := FL) L.length (fun i s => disk_Disk_Crash_p3' cuts (L.length : Int) (i : Int) () (L.map (·.1)) s) (fun i s => St s (crashT cuts L i)) (fun r => ∃ m', r = some ((), m') ∧ St m' (crashF cuts L))
    (fun i s hi hs => by
      try dsimp only at hs ⊢
      have hlen := h.len
      have hT := crashT_get (cuts := cuts) (i := i) hi
      rw [if_neg (by omega)] at hT
      have hiT : i < (crashT cuts L i).length := by rw [crashT_len]; exact hi
      have hm : mfind (kt := .str) L[i].1 (crashT cuts L i) = some L[i].2 := (mfind_iff _ _ hs.rel.kl).2 (by
        have := List.getElem_mem hiT
        rwa [hT] at this)
      have hok := h.ok L[i] (List.getElem_mem hi)
      obtain ⟨hk1, hk2, hk3, hk4⟩ := hok
      have hst := stay_le (cuts := cuts) (i := i) hk4
      have hc := cut_len (b := L[i].2.1) (n := L[i].2.2 + stay cuts i L[i].2) (by omega) hst.2
      have next : St (mset (kt := .str) L[i].1 (crash1 cuts i L[i].2) s) (crashT cuts L (i + 1)) := by
        refine ⟨?_, by rw [crashT_len]; exact hlen, fun x hx => ?_⟩
        · rw [crashT_succ hi]
          exact hs.rel.put_at hiT hT _
        · rw [crashT_succ hi] at hx
          rcases List.mem_or_eq_of_mem_set hx with hx | rfl
          · exact hs.ok x hx
          · exact crash1_ok ⟨hk1, hk2, hk3, hk4⟩
      refine .inl ⟨mset (kt := .str) L[i].1 (crash1 cuts i L[i].2) s, ?_, next⟩
      rw [disk_Disk_Crash_p3_eq, decide_eq_true (by omega : (i : Int) < (L.length : Int)), decide_eq_true (by omega : (0 : Int) ≤ (i : Int)), List.length_map, decide_eq_true (by omega : (i : Int) < (L.length : Int)), get?_nat, List.getElem?_map, List.getElem?_eq_getElem hi, wrap_succ (by omega)]
      simp only [cond_true, Bool.true_and, Option.map_some, Option.bind_some]
      rw [hs.find, hm]
      simp only [Option.bind_some]
      unfold crash1
      by_cases hcu : i < cuts.length
      · have es : stay cuts i L[i].2 = intMax 0 (intMin cuts[i] ((L[i].2.1.length : Int) - L[i].2.2)) := by
          unfold stay; rw [List.getElem?_eq_getElem hcu]
        rw [decide_eq_true (by omega : (i : Int) < (cuts.length : Int)), at?_lt hcu]
        simp only [cond_true, Option.bind_some]
        rw [i64_in (n := (L[i].2.1.length : Int) - L[i].2.2) (by omega) (by omega), ← es, i64_in (n := L[i].2.2 + stay cuts i L[i].2) (by omega) (by omega)]
        rw [decide_eq_true (by omega : (0 : Int) ≤ L[i].2.2 + stay cuts i L[i].2), decide_eq_true hst.2, clone_is (by omega)]
        simp only [Bool.and_self, cond_true, Option.bind_some]
        rw [hc]
      · have es : stay cuts i L[i].2 = 0 := by
          unfold stay; rw [List.getElem?_eq_none (by omega)]
        rw [decide_eq_false (by omega : ¬ (i : Int) < (cuts.length : Int))]
        rw [es] at hc hst ⊢
        simp only [cond_false]
        rw [i64_in (n := L[i].2.2 + 0) (by omega) (by omega)]
        rw [decide_eq_true (by omega : (0 : Int) ≤ L[i].2.2 + 0), decide_eq_true hst.2, clone_is (by omega)]
        simp only [Bool.and_self, cond_true, Option.bind_some]
        rw [hc])
    (fun s hs => by
      try dsimp only at hs ⊢
      rw [crashT_all] at hs
      refine ⟨s, ?_, hs⟩
      rw [disk_Disk_Crash_p3_eq, decide_eq_false (by omega : ¬ (L.length : Int) < (L.length : Int))]
      rfl) 0 m (Nat.zero_le _) (by rw [crashT_zero]; exact h)
  obtain ⟨m', e, hm⟩ := key
  refine ⟨m', ?_, hm⟩
  unfold disk_Disk_Crash'
  rw [names_is h]
  simp only [Option.bind_some, List.length_map]
  simp only [show ((0 : Nat) : Int) = 0 from rfl] at e
  rw [e]
  rfl
end Go.Proofs.YtababmeocedhiaaDoor.gg
