/- The theorem of chunks: the plain law. -/
import Derived.Test.YtcbmmkjlppjfoaaGreatDoorSC
open Go Go.GG Go.Proofs
set_option linter.unusedVariables false
namespace Go.Proofs.YtcbmmkjlppjfoaaGreatDoor.gg
theorem gawake_is : law08_awake' = some true := law08_awake_lm.of_some 60 (by decide +kernel)
theorem gtoBytes_eq {a b : List Int} (ha : ∀ x ∈ a, IsByte x) (hb : ∀ x ∈ b, IsByte x) : (toBytes a == toBytes b) = decide (a = b) := by
  by_cases h : a = b
  · subst h; simp
  · rw [decide_eq_false h, beq_eq_false_iff_ne]
    intro e
    apply h
    rw [← ofBytes_toBytes ha, ← ofBytes_toBytes hb, e]
theorem Equal_is {a b : List Int} (hl : a.length ≤ 1000000) : slices_Equal_byte_byte' a b = some (decide (a = b)) := by
  unfold slices_Equal_byte_byte'
  by_cases hn : a.length = b.length
  · rw [show (((a).length : Int) != ((b).length : Int)) = false by simp [hn]]
    have key := check_loop a.length (fun i => slices_Equal_byte_byte_p14' a b (a.length : Int) (i : Int)) (fun i => (T.int .u8).eqb (nth a i 0) (nth b i 0)) (a := some (.inl ())) (b := some (.inr false))
      (fun i hi => by
        try dsimp only
        rw [slices_Equal_byte_byte_p14_eq, decide_eq_true (by omega : (i : Int) < (a.length : Int)), at?_getD hi 0, at?_getD (by omega : i < b.length) 0, wrap_succ (by omega)]
        simp only [cond_true, Option.bind_some]
        by_cases hx : nth a i 0 = nth b i 0
        · rw [show (nth a i 0 != nth b i 0) = false by simp [hx], (eqb_iff (t := .int .u8) rfl _ _).2 hx]; rfl
        · rw [show (nth a i 0 != nth b i 0) = true by simp [hx], show (T.int .u8).eqb (nth a i 0) (nth b i 0) = false from by
            cases hh : (T.int .u8).eqb (nth a i 0) (nth b i 0) with
            | false => rfl
            | true => exact absurd ((eqb_iff (t := .int .u8) rfl _ _).1 hh) hx]; rfl)
      (by rw [slices_Equal_byte_byte_p14_eq, decide_eq_false (by omega : ¬ (a.length : Int) < (a.length : Int))]; rfl)
    have key' : slices_Equal_byte_byte_p14' a b (a.length : Int) 0 = _ := key
    simp only [cond_false]
    rw [key']
    have hs := same_loop (t := .int .u8) rfl a b hn
    by_cases he : a = b
    · rw [decide_eq_true he]
      have : allB a.length (fun i => (T.int .u8).eqb (nth a i 0) (nth b i 0)) = true := hs.2 he
      rw [this]; rfl
    · rw [decide_eq_false he]
      have : allB a.length (fun i => (T.int .u8).eqb (nth a i 0) (nth b i 0)) = false := by
        cases hh : allB a.length (fun i => (T.int .u8).eqb (nth a i 0) (nth b i 0)) with
        | false => rfl
        | true => exact absurd (hs.1 hh) he
      rw [this]; rfl
  · rw [show (((a).length : Int) != ((b).length : Int)) = true by simp; omega, decide_eq_false (fun h => hn (by rw [h]))]; rfl
theorem piece_len (b : List Int) (j : Nat) : (piece b j).length = min 256 (b.length - 256 * j) := by
  unfold piece; rw [List.length_take, List.length_drop]
/-- What a basket holds. -/
structure GI (b : List Int) (has : List Bool) (xl : List (List Int)) : Prop where
  hl : has.length = cntN b.length
  xn : xl.length = cntN b.length
  full : ∀ j, j < cntN b.length → nth has j false = true → (nth xl j []).length = min 256 (b.length - 256 * j)
  byt : ∀ j, ∀ x ∈ nth xl j [], IsByte x
  le : ∀ j, (nth xl j []).length ≤ 256
def putF (b : List Int) (has : List Bool) (xl : List (List Int)) (I : Int) (c : List Int) : Int × List (List Int) × List Bool :=
  if 0 ≤ I ∧ I < (cntN b.length : Int) ∧ c.length = min 256 (b.length - 256 * I.toNat) then
    (if nth has I.toNat false = true ∧ nth xl I.toNat [] ≠ c then (6, xl, has) else (0, xl.set I.toNat c, has.set I.toNat true)) else (1, xl, has)
theorem Put_is {b : List Int} (hb : b.length ≤ 32768) {has : List Bool} {xl : List (List Int)} (g : GI b has xl) {I : Int} {c : List Int} (hI0 : -9223372036854775808 ≤ I) (hI1 : I ≤ 9223372036854775807) :
    snap_Basket_Put' ((b.length : Int), xl, has) I c = some ((putF b has xl I c).1, ((b.length : Int), (putF b has xl I c).2.1, (putF b has xl I c).2.2)) := by
  have hN : cntN b.length ≤ 200 := by unfold cntN; omega
  unfold snap_Basket_Put' putF
  by_cases h0 : I < 0
  · rw [decide_eq_true h0, if_neg (by omega)]; rfl
  rw [decide_eq_false h0]
  simp only [cond_false]
  by_cases h1 : I < (cntN b.length : Int)
  rotate_left
  · rw [decide_eq_true (by rw [g.xn]; omega), if_neg (by omega)]; rfl
  rw [decide_eq_false (by rw [g.xn]; omega)]
  simp only [cond_false]
  obtain ⟨i, rfl⟩ : ∃ i : Nat, I = (i : Int) := ⟨I.toNat, by omega⟩
  rw [Int.toNat_natCast]
  have hsz : 256 * i ≤ b.length := by unfold cntN at h1; omega
  have e1 : IntKind.wrap .i64 ((b.length : Int) - IntKind.wrap .i64 ((i : Int) * 256)) = ((b.length - 256 * i : Nat) : Int) := by
    rw [i64_in (n := (i : Int) * 256) (by omega) (by omega), i64_in (by omega) (by omega)]; omega
  have e2 : intMin 256 ((b.length - 256 * i : Nat) : Int) = ((min 256 (b.length - 256 * i) : Nat) : Int) := by unfold intMin; split <;> omega
  rw [e1, e2]
  by_cases hc : c.length = min 256 (b.length - 256 * i)
  rotate_left
  · rw [if_neg (by omega)]
    have : ((c.length : Int) != ((min 256 (b.length - 256 * i) : Nat) : Int)) = true := by rw [bne_iff_ne]; omega
    rw [this]; rfl
  rw [if_pos ⟨by omega, h1, hc⟩]
  have : ((c.length : Int) != ((min 256 (b.length - 256 * i) : Nat) : Int)) = false := by rw [hc]; simp
  rw [this]
  have hi1 : i < has.length := by rw [g.hl]; omega
  have hi2 : i < xl.length := by rw [g.xn]; omega
  have hclone : slices_Clone_byte_byte' c = some c := by
    unfold slices_Clone_byte_byte'
    rw [room_of (by simp; omega)]; simp
  rw [decide_eq_true (by omega : (0 : Int) ≤ (i : Int)), decide_eq_true (by omega : (i : Int) < (has.length : Int)), decide_eq_true (by omega : (i : Int) < (xl.length : Int)), get?_getD hi1 false, get?_getD hi2 [], hclone]
  simp only [cond_false, Bool.and_self, cond_true, Option.bind_some]
  by_cases hh : nth has i false = true
  · have hlen := g.full i (by omega) hh
    rw [hh, Equal_is (by rw [hlen]; omega)]
    simp only [cond_true, Option.bind_some]
    by_cases hq : nth xl i [] = c
    · rw [decide_eq_true hq, if_neg (by simp [hq])]; rfl
    · rw [decide_eq_false hq, if_pos ⟨trivial, hq⟩]; rfl
  · rw [if_neg (fun h => hh h.1)]
    have : nth has i false = false := by simpa using hh
    rw [this]; rfl
theorem nth_set {α : Type} {l : List α} {i j : Nat} (hi : i < l.length) (a d : α) : nth (l.set i a) j d = if i = j then a else nth l j d := by
  unfold nth
  rw [List.getD_eq_getElem?_getD, List.getD_eq_getElem?_getD, List.getElem?_set]
  by_cases h : i = j
  · subst h; simp [hi]
  · simp [h]
theorem putF_inv {b : List Int} {has : List Bool} {xl : List (List Int)} (g : GI b has xl) {I : Int} {c : List Int} (hc : ∀ x ∈ c, IsByte x) : GI b (putF b has xl I c).2.2 (putF b has xl I c).2.1 := by
  unfold putF
  split
  · rename_i h
    split
    · exact g
    · have hi1 : I.toNat < has.length := by rw [g.hl]; omega
      have hi2 : I.toNat < xl.length := by rw [g.xn]; omega
      refine ⟨by simp [g.hl], by simp [g.xn], fun j hj hh => ?_, fun j x hx => ?_, fun j => ?_⟩
      · rw [nth_set hi2]
        rw [nth_set hi1] at hh
        split
        · rename_i e; rw [← e]; exact h.2.2
        · rename_i e; rw [if_neg e] at hh; exact g.full j hj hh
      · rw [nth_set hi2] at hx
        split at hx
        · exact hc x hx
        · exact g.byt j x hx
      · rw [nth_set hi2]
        split
        · rw [h.2.2]; omega
        · exact g.le j
  · exact g
theorem map_toBytes_nth {xl : List (List Int)} (j : Nat) : nth (xl.map toBytes) j [] = toBytes (nth xl j []) := by
  unfold nth
  rw [List.getD_eq_getElem?_getD, List.getD_eq_getElem?_getD, List.getElem?_map]
  cases xl[j]? <;> rfl
def PutOk (p : Int × (List Int) × Bool) : Prop := (-9223372036854775808 ≤ p.1 ∧ p.1 ≤ 9223372036854775807) ∧ (∀ x ∈ p.2.1, IsByte x) ∧ p.2.1.length ≤ 1048576
def choose (b : List Int) (p : Int × (List Int) × Bool) : List Int := if p.2.2 = true ∧ 0 ≤ p.1 ∧ p.1 < (cntN b.length : Int) then piece b p.1.toNat else p.2.1
theorem piece_byte {b : List Int} (hb : ∀ x ∈ b, IsByte x) (j : Nat) : ∀ x ∈ piece b j, IsByte x := fun x hx => hb x (List.mem_of_mem_drop (List.mem_of_mem_take hx))
/-- One chunk that is put, in the law's own words. -/
theorem round_is {b : List Int} (hl : b.length ≤ 32768) (hb : ∀ x ∈ b, IsByte x) {has : List Bool} {xl : List (List Int)} (g : GI b has xl) {ps : List (Int × (List Int) × Bool)} {i : Nat} (hi : i < ps.length) (h3 : i < 300) (hp : PutOk ps[i]) :
    law08_SnapGathers_p30' ps (i : Int) (b.length : Int) (chunksF b) has (xl.map toBytes) xl has = law08_SnapGathers_p30' ps ((i + 1 : Nat) : Int) (b.length : Int) (chunksF b) (putF b has xl ps[i].1 (choose b ps[i])).2.2 ((putF b has xl ps[i].1 (choose b ps[i])).2.1.map toBytes) (putF b has xl ps[i].1 (choose b ps[i])).2.1 (putF b has xl ps[i].1 (choose b ps[i])).2.2 := by
  have hN : cntN b.length ≤ 200 := by unfold cntN; omega
  rw [law08_SnapGathers_p30_eq, decide_eq_true (by omega : (i : Int) < (ps.length : Int)), decide_eq_true (by omega : (i : Int) < 300), at?_lt hi]
  simp only [cond_true, Option.bind_some]
  generalize hpe : ps[i] = p at *
  obtain ⟨I, el, own⟩ := p
  obtain ⟨⟨hI0, hI1⟩, heb, hel⟩ := hp
  try dsimp only at *
  have e41 : law08_SnapGathers_p41' ps i i true b.length (chunksF b) has (xl.map toBytes) (I, el, own) xl has = some (ps, (i : Int), decide (0 ≤ I ∧ I < (cntN b.length : Int)), (i : Int), true, (b.length : Int), chunksF b, has, xl.map toBytes, (I, el, own), xl, has) := by
    unfold law08_SnapGathers_p41'
    by_cases h0 : I ≥ 0
    · rw [decide_eq_true h0, chunksF_len]
      simp only [cond_true]
      rw [show decide (I < (cntN b.length : Int)) = decide (0 ≤ I ∧ I < (cntN b.length : Int)) from decide_eq_decide.2 (by omega)]
    · rw [decide_eq_false h0, decide_eq_false (by omega : ¬ (0 ≤ I ∧ I < (cntN b.length : Int)))]; rfl
  rw [e41]
  simp only [Option.bind_some]
  have e45 : law08_SnapGathers_p45' ps i (decide (0 ≤ I ∧ I < (cntN b.length : Int))) el i true b.length (chunksF b) has (xl.map toBytes) (I, el, own) xl has = some (ps, (i : Int), decide (0 ≤ I ∧ I < (cntN b.length : Int)), choose b (I, el, own), (i : Int), true, (b.length : Int), chunksF b, has, xl.map toBytes, (I, el, own), xl, has) := by
    unfold law08_SnapGathers_p45' choose
    cases own with
    | false => simp
    | true =>
      by_cases hin : 0 ≤ I ∧ I < (cntN b.length : Int)
      · have hlt : I.toNat < (chunksF b).length := by rw [chunksF_len]; omega
        rw [decide_eq_true hin, if_pos ⟨rfl, hin⟩, decide_eq_true hin.1, decide_eq_true (by rw [chunksF_len]; exact hin.2), List.getElem?_eq_getElem hlt, chunksF_get hlt]
        rfl
      · rw [decide_eq_false hin, if_neg (fun h => hin h.2)]; rfl
  rw [e45]
  simp only [Option.bind_some]
  have hcb : ∀ x ∈ choose b (I, el, own), IsByte x := by
    unfold choose; split
    · exact piece_byte hb _
    · exact heb
  have hcl : (choose b (I, el, own)).length ≤ 1048576 := by
    unfold choose; split
    · rw [piece_len]; omega
    · exact hel
  generalize choose b (I, el, own) = c at *
  have e53 : law08_SnapGathers_p53' ps i (decide (0 ≤ I ∧ I < (cntN b.length : Int))) c 0 i true b.length (chunksF b) has (xl.map toBytes) (I, el, own) xl has = some (ps, (i : Int), c, (putF b has xl I c).1, (i : Int), true, (b.length : Int), chunksF b, (putF b has xl I c).2.2, (putF b has xl I c).2.1.map toBytes, (I, el, own), xl, has) := by
    unfold law08_SnapGathers_p53' putF
    by_cases hin : 0 ≤ I ∧ I < (cntN b.length : Int)
    rotate_left
    · rw [decide_eq_false hin, if_neg (fun h => hin ⟨h.1, h.2.1⟩)]; rfl
    · have hlt : I.toNat < (chunksF b).length := by rw [chunksF_len]; omega
      have hi1 : I.toNat < has.length := by rw [g.hl]; omega
      have hi2 : I.toNat < (xl.map toBytes).length := by rw [List.length_map, g.xn]; omega
      rw [decide_eq_true hin]
      simp only [decide_eq_true hin.1, decide_eq_true (show I < ((chunksF b).length : Int) by rw [chunksF_len]; exact hin.2), decide_eq_true (show I < (has.length : Int) by rw [g.hl]; exact hin.2), decide_eq_true (show I < ((xl.map toBytes).length : Int) by rw [List.length_map, g.xn]; exact hin.2), List.getElem?_eq_getElem hlt, chunksF_get hlt, get?_getD hi1 false, get?_getD hi2 [], Bool.and_self, cond_true, Option.bind_some, Bool.not_true, cond_false]
      rw [piece_len, map_toBytes_nth, gtoBytes_eq (g.byt _) hcb]
      by_cases hc : c.length = min 256 (b.length - 256 * I.toNat)
      · rw [if_pos ⟨hin.1, hin.2, hc⟩]
        have : ((c.length : Int) != ((min 256 (b.length - 256 * I.toNat) : Nat) : Int)) = false := by rw [hc]; simp
        rw [this]
        simp only [cond_false]
        by_cases hh : nth has I.toNat false = true
        · rw [hh]
          simp only [cond_true]
          by_cases hq : nth xl I.toNat [] = c
          · rw [decide_eq_true hq, if_neg (by simp [hq])]
            simp [List.map_set]
          · rw [decide_eq_false hq, if_pos ⟨trivial, hq⟩]; rfl
        · rw [if_neg (fun h => hh h.1)]
          have : nth has I.toNat false = false := by simpa using hh
          rw [this]
          simp [List.map_set]
      · rw [if_neg (fun h => hc h.2.2)]
        have : ((c.length : Int) != ((min 256 (b.length - 256 * I.toNat) : Nat) : Int)) = true := by rw [bne_iff_ne]; omega
        rw [this]; rfl
  rw [e53]
  simp only [Option.bind_some, List.nil_append]
  rw [room_of (by omega), Put_is hl g hI0 hI1]
  simp only [cond_true, Option.bind_some, bne_self_eq_false, cond_false]
  rw [wrap_succ (by omega)]
/-- All the puts. -/
theorem puts_is {b : List Int} (hl : b.length ≤ 32768) (hb : ∀ x ∈ b, IsByte x) (ps : List (Int × (List Int) × Bool)) (hp : ∀ p ∈ ps, PutOk p) {has : List Bool} {xl : List (List Int)} (g : GI b has xl) :
    ∃ has' xl', law08_SnapGathers_p30' ps 0 (b.length : Int) (chunksF b) has (xl.map toBytes) xl has = some (.inl ((b.length : Int), chunksF b, has', xl'.map toBytes, xl', has')) ∧ GI b has' xl' := by
  have key := loop_inv (S := List Bool × List (List Int)) (min ps.length 300) (fun i s => law08_SnapGathers_p30' ps (i : Int) (b.length : Int) (chunksF b) s.1 (s.2.map toBytes) s.2 s.1) (fun i s => GI b s.1 s.2)
    (fun r => ∃ has' xl', r = some (.inl ((b.length : Int), chunksF b, has', xl'.map toBytes, xl', has')) ∧ GI b has' xl')
    (fun i s hi hs => by
      try dsimp only
      have h1 : i < ps.length := by omega
      exact .inl ⟨((putF b s.1 s.2 ps[i].1 (choose b ps[i])).2.2, (putF b s.1 s.2 ps[i].1 (choose b ps[i])).2.1), round_is hl hb hs h1 (by omega) (hp _ (List.getElem_mem h1)), putF_inv hs (by
        unfold choose; split
        · exact piece_byte hb _
        · exact (hp _ (List.getElem_mem h1)).2.1)⟩)
    (fun s hs => by
      try dsimp only
      refine ⟨s.1, s.2, ?_, hs⟩
      rw [law08_SnapGathers_p30_eq]
      by_cases h : ps.length ≤ 300
      · rw [decide_eq_false (by omega : ¬ ((min ps.length 300 : Nat) : Int) < (ps.length : Int))]; rfl
      · rw [decide_eq_true (by omega : ((min ps.length 300 : Nat) : Int) < (ps.length : Int)), decide_eq_false (by omega : ¬ ((min ps.length 300 : Nat) : Int) < 300)]; rfl)
    0 (has, xl) (Nat.zero_le _) g
  exact key
def missB (has : List Bool) (i : Nat) : List Nat := (List.range i).filter fun j => !nth has j false
theorem missB_succ (has : List Bool) (i : Nat) : missB has (i + 1) = missB has i ++ (if nth has i false = true then [] else [i]) := by
  unfold missB
  rw [List.range_succ, List.filter_append]
  cases h : nth has i false <;> simp [h]
theorem missB_len (has : List Bool) (i : Nat) : (missB has i).length ≤ i := by
  unfold missB
  refine Nat.le_trans (List.length_filter_le _ _) ?_
  simp
def missL (has : List Bool) (i : Nat) : List Int := (missB has i).map fun (j : Nat) => (j : Int)
theorem Missing_is {s : Int} {xl : List (List Int)} {has : List Bool} (hl : has.length ≤ 1000) : snap_Basket_Missing' (s, xl, has) = some (missL has has.length) := by
  unfold snap_Basket_Missing'
  have key := loop_inv (S := Unit) has.length (fun i _ => snap_Basket_Missing_p11' has (has.length : Int) (i : Int) (missL has i)) (fun i _ => True) (fun r => r = some (missL has has.length))
    (fun i s hi hs => by
      try dsimp only
      left
      refine ⟨(), ?_, trivial⟩
      rw [snap_Basket_Missing_p11_eq, decide_eq_true (by omega : (i : Int) < (has.length : Int)), at?_getD hi false, wrap_succ (by omega)]
      simp only [cond_true, Option.bind_some]
      have hm := missB_len has i
      unfold missL
      rw [missB_succ]
      cases hh : nth has i false with
      | true => simp
      | false =>
        rw [room_of (by simp; omega)]
        simp)
    (fun s hs => by
      try dsimp only
      rw [snap_Basket_Missing_p11_eq, decide_eq_false (by omega : ¬ (has.length : Int) < (has.length : Int))]; rfl)
    0 () (Nat.zero_le _) trivial
  have key' : snap_Basket_Missing_p11' has (has.length : Int) 0 [] = some (missL has has.length) := key
  rw [key']; rfl
theorem missB_at {has : List Bool} {n i : Nat} (hi : i < n) (hh : nth has i false = false) : (missL has n)[(missB has i).length]? = some (i : Int) := by
  unfold missL
  rw [List.getElem?_map]
  have : (missB has n)[(missB has i).length]? = some i := by
    unfold missB
    obtain ⟨m, rfl⟩ : ∃ m, n = i + (m + 1) := ⟨n - i - 1, by omega⟩
    rw [List.range_add, List.filter_append, List.getElem?_append_right (Nat.le_refl _), Nat.sub_self, List.range_succ_eq_map, List.map_cons, List.filter_cons]
    simp [hh]
  rw [this]; rfl
def J (xl : List (List Int)) (i : Nat) : List Int := ((List.range i).map fun j => nth xl j []).flatten
theorem J_succ (xl : List (List Int)) (i : Nat) : J xl (i + 1) = J xl i ++ nth xl i [] := by
  unfold J
  rw [List.range_succ, List.map_append, List.flatten_append]
  simp
theorem toBytes_append (a b : List Int) : toBytes (a ++ b) = toBytes a ++ toBytes b := by simp [toBytes]
theorem all_is {b : List Int} (hl : b.length ≤ 32768) {has : List Bool} {xl : List (List Int)} (g : GI b has xl) (z : Int) (w : List (List Int)) (u : List Bool) :
    law08_SnapGathers_p82' 0 [] 0 z (chunksF b) has (xl.map toBytes) (missL has has.length) w u = some (.inl (((missL has has.length).length : Int), toBytes (J xl (cntN b.length)), z, missL has has.length, w, u)) := by
  have hN : cntN b.length ≤ 200 := by unfold cntN; omega
  have key := loop_inv (S := Unit) (cntN b.length) (fun i _ => law08_SnapGathers_p82' ((missB has i).length : Int) (toBytes (J xl i)) (i : Int) z (chunksF b) has (xl.map toBytes) (missL has has.length) w u) (fun i _ => (J xl i).length ≤ 256 * i) (fun r => r = some (.inl (((missL has has.length).length : Int), toBytes (J xl (cntN b.length)), z, missL has has.length, w, u)))
    (fun i s hi hs => by
      try dsimp only
      left
      have hxi := g.le i
      refine ⟨(), ?_, by rw [J_succ, List.length_append]; omega⟩
      have hi1 : i < has.length := by rw [g.hl]; omega
      have hi2 : i < (xl.map toBytes).length := by rw [List.length_map, g.xn]; omega
      have hm := missB_len has i
      rw [law08_SnapGathers_p82_eq]
      simp only [decide_eq_true (show (i : Int) < ((chunksF b).length : Int) by rw [chunksF_len]; omega), decide_eq_true (show (0 : Int) ≤ (i : Int) by omega), decide_eq_true (show (i : Int) < (has.length : Int) by omega), decide_eq_true (show (i : Int) < ((xl.map toBytes).length : Int) by omega), Bool.and_self, cond_true, Int.toNat_natCast, get?_getD hi1 false, get?_getD hi2 [], Option.bind_some]
      rw [map_toBytes_nth, ← toBytes_append, ← J_succ, missB_succ]
      have hble : Nat.ble ((toBytes (J xl i)).length + (toBytes (nth xl i [])).length) 9223372036854775807 = true := Nat.ble_eq_true_of_le (by rw [toBytes_len, toBytes_len]; omega)
      rw [hble]
      have ew := wrap_succ (i := i) (by omega)
      cases hh : nth has i false with
      | true => simp [ew]
      | false =>
        have hat := missB_at hi1 hh
        have hlt : (missB has i).length < (missL has has.length).length := by
          rcases Nat.lt_or_ge (missB has i).length (missL has has.length).length with h | h
          · exact h
          · rw [List.getElem?_eq_none h] at hat; cases hat
        rw [decide_eq_false (by omega : ¬ ((missB has i).length : Int) ≥ ((missL has has.length).length : Int)), decide_eq_true (by omega : (0 : Int) ≤ ((missB has i).length : Int)), decide_eq_true (by omega : ((missB has i).length : Int) < ((missL has has.length).length : Int)), hat, wrap_succ (i := (missB has i).length) (by omega)]
        simp [ew])
    (fun s hs => by
      try dsimp only
      rw [law08_SnapGathers_p82_eq, decide_eq_false (by rw [chunksF_len]; omega : ¬ (cntN b.length : Int) < ((chunksF b).length : Int))]
      simp only [cond_false]
      congr 3
      unfold missL
      rw [List.length_map, g.hl])
    0 () (Nat.zero_le _) (by simp [J])
  exact key
theorem J_len {b : List Int} {has : List Bool} {xl : List (List Int)} (g : GI b has xl) (hall : ∀ j, j < cntN b.length → nth has j false = true) : ∀ i, i ≤ cntN b.length → (J xl i).length = min b.length (256 * i)
  | 0, _ => by simp [J]
  | i + 1, hi => by
    rw [J_succ, List.length_append, J_len g hall i (by omega), g.full i (by omega) (hall i (by omega))]
    have : 256 * i ≤ b.length := by unfold cntN at hi; omega
    omega
theorem Bytes_is {b : List Int} (hl : b.length ≤ 32768) {has : List Bool} {xl : List (List Int)} (g : GI b has xl) (hall : ∀ j, j < cntN b.length → nth has j false = true) (h0 : (missL has has.length) = []) :
    snap_Basket_Bytes' ((b.length : Int), xl, has) = some (J xl (cntN b.length), true) := by
  have hN : cntN b.length ≤ 200 := by unfold cntN; omega
  have hN1 : 1 ≤ cntN b.length := by unfold cntN; omega
  unfold snap_Basket_Bytes'
  rw [Missing_is (by rw [g.hl]; omega), h0]
  have z0 : ((xl.length : Int) == 0) = false := by rw [beq_eq_false_iff_ne, g.xn]; omega
  simp only [z0, cond_false, Option.bind_some, Int.toNat_natCast]
  rw [decide_eq_false (by simp : ¬ (([] : List Int).length : Int) > 0), decide_eq_true (by omega : (0 : Int) ≤ (b.length : Int)), room_of (by omega)]
  simp only [BEq.rfl, Bool.and_self, cond_false, cond_true]
  have key := loop_inv (S := Unit) (cntN b.length) (fun i _ => snap_Basket_Bytes_p16' xl (xl.length : Int) (i : Int) (J xl i ++ List.replicate (b.length - (J xl i).length) 0)) (fun i _ => True) (fun r => r = some (J xl (cntN b.length)))
    (fun i s hi hs => by
      try dsimp only
      left
      refine ⟨(), ?_, trivial⟩
      have hi2 : i < xl.length := by rw [g.xn]; omega
      have hsz : 256 * i ≤ b.length := by unfold cntN at hi; omega
      have hJ : (J xl i).length = 256 * i := by rw [J_len g hall i (by omega)]; omega
      have hx : (nth xl i []).length = min 256 (b.length - 256 * i) := g.full i (by omega) (hall i (by omega))
      have ew : IntKind.wrap .i64 ((i : Int) * 256) = ((256 * i : Nat) : Int) := by rw [i64_in (by omega) (by omega)]; omega
      have hlen : (J xl i ++ List.replicate (b.length - (J xl i).length) (0 : Int)).length = b.length := by rw [List.length_append, List.length_replicate]; omega
      rw [snap_Basket_Bytes_p16_eq, decide_eq_true (by omega : (i : Int) < (xl.length : Int)), at?_getD hi2 [], ew, hlen, wrap_succ (by omega)]
      simp only [cond_true, Option.bind_some, Int.toNat_natCast]
      rw [decide_eq_true (by omega : (0 : Int) ≤ ((256 * i : Nat) : Int)), decide_eq_true (by omega : ((256 * i : Nat) : Int) ≤ (b.length : Int)), List.take_of_length_le (by omega : (nth xl i []).length ≤ b.length - 256 * i), Nat.ble_eq_true_of_le (by omega : (nth xl i []).length ≤ b.length - 256 * i), Nat.ble_eq_true_of_le (by omega : 256 * i + (b.length - 256 * i) ≤ b.length)]
      simp only [Bool.and_self, cond_true]
      congr 1
      unfold splice
      rw [List.take_left' hJ, J_succ, List.length_append, hJ, List.drop_append, hJ, List.drop_of_length_le (by omega : (J xl i).length ≤ 256 * i + (nth xl i []).length), List.nil_append, List.drop_replicate]
      congr 2
      omega)
    (fun s hs => by
      try dsimp only
      rw [snap_Basket_Bytes_p16_eq, decide_eq_false (by rw [g.xn]; omega : ¬ (cntN b.length : Int) < (xl.length : Int)), J_len g hall _ (Nat.le_refl _)]
      have : b.length - min b.length (256 * cntN b.length) = 0 := by unfold cntN; omega
      rw [this]; simp)
    0 () (Nat.zero_le _) trivial
  have key' : snap_Basket_Bytes_p16' xl (xl.length : Int) 0 (List.replicate b.length 0) = some (J xl (cntN b.length)) := by
    have h := key
    simpa [J] using h
  rw [key']; rfl
theorem Bytes_not {b : List Int} (hl : b.length ≤ 32768) {has : List Bool} {xl : List (List Int)} (g : GI b has xl) (h0 : 0 < (missL has has.length).length) :
    snap_Basket_Bytes' ((b.length : Int), xl, has) = some ([], false) := by
  have hN : cntN b.length ≤ 200 := by unfold cntN; omega
  have hN1 : 1 ≤ cntN b.length := by unfold cntN; omega
  unfold snap_Basket_Bytes'
  rw [Missing_is (by rw [g.hl]; omega)]
  have z0 : ((xl.length : Int) == 0) = false := by rw [beq_eq_false_iff_ne, g.xn]; omega
  simp only [z0, cond_false, Option.bind_some]
  rw [decide_eq_true (by omega : ((missL has has.length).length : Int) > 0)]
  rfl
theorem mem_bulk {t : T} : ∀ {l : List t.den} {x : t.den}, x ∈ l → t.bulk x + 1 ≤ (T.slice t).bulk l
  | [], _, h => by simp at h
  | y :: l, x, h => by
    have e : (T.slice t).bulk (y :: l) = t.bulk y + (T.slice t).bulk l := by simp [T.bulk]; omega
    have h1 := bulk_slice (t := t) l
    rcases List.mem_cons.1 h with h | h
    · subst h; omega
    · have := mem_bulk h; omega
abbrev putT : T := .pair (.int .i64) (.pair (.slice (.int .u8)) .bool)
theorem put_len {b : List putT.den} (h : (T.slice putT).bulk b ≤ 1048576) {p : putT.den} (hp : p ∈ b) : p.2.1.length ≤ 1048576 := by
  have h1 := mem_bulk (t := putT) (l := b) hp
  have h2 := bulk_slice (t := .int .u8) p.2.1
  have h4 : T.bulk putT p = 1 + ((T.slice (.int .u8)).bulk p.2.1 + 1) := rfl
  omega
theorem law_SnapGathers (b : List Int) (ps : List (Int × (List Int) × Bool)) (hlen : b.length ≤ 1048576) (hb : ∀ x ∈ b, IsByte x) (hp : ∀ p ∈ ps, PutOk p) : ∃ k, law08_SnapGathers k b ps = some true := by
  refine (law08_SnapGathers_lm b ps).fin ?_
  unfold law08_SnapGathers'
  by_cases h3 : b.length > 32768
  · have e : snap_Gather' (b.length : Int) = some (none, 1) := by
      unfold snap_Gather'
      rw [decide_eq_false (by omega : ¬ (b.length : Int) < 0), decide_eq_true (by omega : (b.length : Int) > 32768)]; rfl
    rw [e]
    simp only [Option.bind_some, Option.elim_none]
    rw [decide_eq_true (by omega : (b.length : Int) > 32768), gawake_is]; rfl
  have hl : b.length ≤ 32768 := by omega
  have hN : cntN b.length ≤ 200 := by unfold cntN; omega
  have hN1 : 1 ≤ cntN b.length := by unfold cntN; omega
  have e : snap_Gather' (b.length : Int) = some (some ((b.length : Int), (List.replicate (cntN b.length) []), (List.replicate (cntN b.length) false)), 0) := by
    unfold snap_Gather'
    rw [decide_eq_false (by omega : ¬ (b.length : Int) < 0), decide_eq_false (by omega : ¬ (b.length : Int) > 32768), Count_is (by omega)]
    simp only [cond_false, Option.bind_some, Int.toNat_natCast, BEq.rfl, Bool.true_and]
    rw [decide_eq_true (by omega : (0 : Int) ≤ (cntN b.length : Int)), room_of (by omega), room_of (by omega)]
    rfl
  rw [e]
  simp only [Option.bind_some, Option.elim_some]
  rw [decide_eq_false (by omega : ¬ (b.length : Int) > 32768), Chunks_is (by omega)]
  simp only [cond_false, bne_self_eq_false, Option.bind_some, chunksF_len, BEq.rfl, Bool.true_and, Int.toNat_natCast]
  rw [decide_eq_true (by omega : (0 : Int) ≤ (cntN b.length : Int)), room_of (by omega), room_of (by omega)]
  simp only [Bool.and_self, cond_true]
  have g0 : GI b (List.replicate (cntN b.length) false) (List.replicate (cntN b.length) []) := by
    have hz : ∀ j, nth (List.replicate (cntN b.length) ([] : List Int)) j [] = [] := by
      intro j
      unfold nth
      rw [List.getD_eq_getElem?_getD, List.getElem?_replicate]
      split <;> rfl
    refine ⟨by simp, by simp, fun j hj hh => ?_, fun j x hx => ?_, fun j => by rw [hz]; simp⟩
    · unfold nth at hh
      rw [List.getD_eq_getElem?_getD, List.getElem?_replicate, if_pos hj] at hh
      cases hh
    · rw [hz] at hx; cases hx
  obtain ⟨has, xl, ep, g⟩ := puts_is hl hb ps hp g0
  have em : (List.replicate (cntN b.length) ([] : List Int)).map toBytes = List.replicate (cntN b.length) [] := by simp [toBytes]
  rw [em] at ep
  rw [ep]
  simp only [Option.bind_some, Sum.elim_inl]
  rw [Missing_is (by rw [g.hl]; omega)]
  simp only [Option.bind_some]
  rw [all_is hl g]
  simp only [Option.bind_some, Sum.elim_inl]
  by_cases h0 : 0 < (missL has has.length).length
  · rw [Bytes_not hl g h0]
    simp only [Option.bind_some]
    have z0 : ((((missL has has.length).length : Nat) : Int) == 0) = false := by rw [beq_eq_false_iff_ne]; omega
    rw [z0, gawake_is]
    simp only [BEq.rfl, cond_true]
    rfl
  · have h1 : missL has has.length = [] := List.length_eq_zero_iff.1 (by omega)
    have hall : ∀ j, j < cntN b.length → nth has j false = true := by
      intro j hj
      cases hh : nth has j false with
      | true => rfl
      | false =>
        have := missB_at (has := has) (n := has.length) (i := j) (by rw [g.hl]; exact hj) hh
        rw [h1] at this
        cases this
    rw [Bytes_is hl g hall h1, h1]
    simp only [Option.bind_some]
    rw [gawake_is]
    simp only [BEq.rfl, cond_true, Bool.not_true, cond_false, List.length_nil]
    rfl
end Go.Proofs.YtcbmmkjlppjfoaaGreatDoor.gg
