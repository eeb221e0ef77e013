/- Nobody's disk and basket: the plain law. -/
import Derived.Test.YtcbmmkjlppjfoaaGreatDoorM
open Go Go.GG Go.Proofs
set_option linter.unusedVariables false
namespace Go.Proofs.YtcbmmkjlppjfoaaGreatDoor.gg
theorem nawake_is : law08_awake' = some true := law08_awake_lm.of_some 60 (by decide +kernel)
theorem sname_np {g : Int} (h0 : -9223372036854775808 ≤ g) (h1 : g ≤ 9223372036854775807) : ∃ s, snap_name_np' () g = some (s, false) := by
  unfold snap_name_np'
  rw [itoaF_is h0 h1]
  have hl := itoa_len h0 h1
  simp only [Option.bind_some]
  have hd : Nat.ble (([115, 110, 97, 112, 45] : List UInt8).length + (Lib.itoa g).length) 9223372036854775807 = true := Nat.ble_eq_true_of_le (by simp only [List.length_cons, List.length_nil]; omega)
  rw [show disk_Disk_Sync_np' () [] = some 1 from rfl]
  refine ⟨[115, 110, 97, 112, 45] ++ Lib.itoa g, ?_⟩
  exact (congrArg (fun b => bif b then _ else none) hd).trans rfl
theorem sname_zp {g : Int} (h0 : -9223372036854775808 ≤ g) (h1 : g ≤ 9223372036854775807) : ∃ s, snap_name_zp' () g = some (s, false) := by
  unfold snap_name_zp'
  rw [itoaF_is h0 h1]
  have hl := itoa_len h0 h1
  simp only [Option.bind_some]
  have hd : Nat.ble (([115, 110, 97, 112, 45] : List UInt8).length + (Lib.itoa g).length) 9223372036854775807 = true := Nat.ble_eq_true_of_le (by simp only [List.length_cons, List.length_nil]; omega)
  rw [show disk_Disk_Sync_zp' () [] = some 1 from rfl]
  refine ⟨[115, 110, 97, 112, 45] ++ Lib.itoa g, ?_⟩
  exact (congrArg (fun b => bif b then _ else none) hd).trans rfl
theorem count_is {s : Int} (h0 : 0 ≤ s) (h1 : s ≤ 32768) : ∃ n, snap_Count' s = some n ∧ 0 ≤ n ∧ n ≤ 200 := by
  unfold snap_Count'
  have e0 : decide (s < 0) = false := by simp; omega
  rw [e0]
  refine ⟨_, rfl, ?_⟩
  have d0 : 0 ≤ Int.tdiv s 256 := Int.tdiv_nonneg h0 (by decide)
  have d1 : Int.tdiv s 256 ≤ 128 := by rw [Int.tdiv_eq_ediv_of_nonneg h0]; omega
  have m0 : 0 ≤ Int.tmod s 256 := Int.tmod_nonneg _ h0
  have m1 : Int.tmod s 256 < 256 := Int.tmod_lt_of_pos _ (by decide)
  generalize Int.tdiv s 256 = q at *
  generalize Int.tmod s 256 = r at *
  have w1 : IntKind.wrap .i64 q = q := i64_in (by omega) (by omega)
  rw [w1]
  have i0 : 0 ≤ intMin 1 r ∧ intMin 1 r ≤ 1 := by unfold intMin; split <;> omega
  have w2 : IntKind.wrap .i64 (q + intMin 1 r) = q + intMin 1 r := i64_in (by omega) (by omega)
  rw [w2]
  unfold intMax
  split <;> omega
theorem law_SnapNobody (g s : Int) (h0 : -9223372036854775808 ≤ g) (h1 : g ≤ 9223372036854775807) : ∃ k, law08_SnapNobody k g s = some true := by
  refine (law08_SnapNobody_lm g s).fin ?_
  unfold law08_SnapNobody'
  obtain ⟨a, ea⟩ := sname_np h0 h1
  obtain ⟨t, et⟩ := sname_zp h0 h1
  have ln : snap_Load_np' () g = some (0, 0, [], 1) := by unfold snap_Load_np'; rw [ea]; rfl
  have lz : snap_Load_zp' () g = some (0, 0, [], 1) := by unfold snap_Load_zp'; rw [et]; rfl
  have sn : snap_Save_np' () g 1 1 [] = some 1 := by unfold snap_Save_np'; rw [ea]; rfl
  have sz : snap_Save_zp' () g 1 1 [] = some 1 := by unfold snap_Save_zp'; rw [et]; rfl
  have mz : snap_Basket_Missing' (0, ([], [])) = some ([], (0, ([], []))) := by
    unfold snap_Basket_Missing'; rw [snap_Basket_Missing_p11_eq]; rfl
  have p0 : law08_SnapNobody_p6' g s 0 = law08_SnapNobody_p6' g s 1 := by
    rw [law08_SnapNobody_p6_eq, ln, sn]; rfl
  have p1 : law08_SnapNobody_p6' g s 1 = law08_SnapNobody_p6' g s 2 := by
    rw [law08_SnapNobody_p6_eq, lz, sz]
    have e : snap_Basket_Bytes' (0, ([], [])) = some ([], false, (0, ([], []))) := rfl
    have f : snap_Basket_Put' (0, ([], [])) 0 [] = some (1, (0, ([], []))) := rfl
    rw [e]
    simp only [Option.bind_some]
    rw [f]
    simp only [Option.bind_some]
    rw [mz]
    rfl
  have p2 : law08_SnapNobody_p6' g s 2 = some (.inl s) := by
    rw [law08_SnapNobody_p6_eq]; rfl
  rw [p0, p1, p2]
  simp only [Option.bind_some, Sum.elim_inl]
  rw [nawake_is]
  by_cases hs : s < 0
  · have e : snap_Gather' s = some (none, 1) := by
      unfold snap_Gather'; rw [show decide (s < 0) = true from decide_eq_true hs]; rfl
    rw [e]
    have : decide (s ≥ 0) = false := by simp; omega
    simp only [Option.bind_some, Option.elim_none, this]
    rfl
  · by_cases hb : s > 32768
    · have e : snap_Gather' s = some (none, 1) := by
        unfold snap_Gather'; rw [show decide (s < 0) = false from decide_eq_false hs, show decide (s > 32768) = true from decide_eq_true hb]; rfl
      rw [e]
      have e1 : decide (s ≥ 0) = true := by simp; omega
      have e2 : decide (s ≤ 32768) = false := by simp; omega
      simp only [Option.bind_some, Option.elim_none, e1, e2]
      rfl
    · obtain ⟨n, en, n0, n1⟩ := count_is (s := s) (by omega) (by omega)
      have r24 : room (Int.toNat n) 24 = true := by unfold room; simp; omega
      have r1 : room (Int.toNat n) 1 = true := by unfold room; simp; omega
      have e : snap_Gather' s = some (some (s, ((List.replicate (Int.toNat n) []), (List.replicate (Int.toNat n) false))), 0) := by
        unfold snap_Gather'; rw [show decide (s < 0) = false from decide_eq_false hs, show decide (s > 32768) = false from decide_eq_false hb, en]
        simp only [Option.bind_some, r24, r1, decide_eq_true n0, BEq.rfl, Bool.true_and, cond_true, cond_false]
      rw [e]
      have e1 : decide (s ≥ 0) = true := by simp; omega
      have e2 : decide (s ≤ 32768) = true := by simp; omega
      simp only [Option.bind_some, Option.elim_some, e1, e2]
      rfl
end Go.Proofs.YtcbmmkjlppjfoaaGreatDoor.gg
