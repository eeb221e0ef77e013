/- Nobody's disk has no state: the plain law. -/
import Derived.Test.YthdkecdbodenkaaDoorHA
open Go Go.GG Go.Proofs
set_option linter.unusedVariables false
namespace Go.Proofs.YthdkecdbodenkaaDoor.gg
theorem name_np {g : Int} (h0 : -9223372036854775808 ≤ g) (h1 : g ≤ 9223372036854775807) : ∃ s, hard_name_np' () g = some (s, false) := by
  unfold hard_name_np'
  rw [itoaF_is h0 h1]
  have hl := itoa_len h0 h1
  simp only [Option.bind_some]
  have hd : Nat.ble (([104, 97, 114, 100, 45] : List UInt8).length + (Lib.itoa g).length) 9223372036854775807 = true := Nat.ble_eq_true_of_le (by simp only [List.length_cons, List.length_nil]; omega)
  rw [show disk_Disk_Sync_np' () [] = some 1 from rfl]
  refine ⟨[104, 97, 114, 100, 45] ++ Lib.itoa g, ?_⟩
  exact (congrArg (fun b => bif b then _ else none) hd).trans rfl
theorem name_zp {g : Int} (h0 : -9223372036854775808 ≤ g) (h1 : g ≤ 9223372036854775807) : ∃ s, hard_name_zp' () g = some (s, false) := by
  unfold hard_name_zp'
  rw [itoaF_is h0 h1]
  have hl := itoa_len h0 h1
  simp only [Option.bind_some]
  have hd : Nat.ble (([104, 97, 114, 100, 45] : List UInt8).length + (Lib.itoa g).length) 9223372036854775807 = true := Nat.ble_eq_true_of_le (by simp only [List.length_cons, List.length_nil]; omega)
  rw [show disk_Disk_Sync_zp' () [] = some 1 from rfl]
  refine ⟨[104, 97, 114, 100, 45] ++ Lib.itoa g, ?_⟩
  exact (congrArg (fun b => bif b then _ else none) hd).trans rfl
theorem law_HardNobody (g : Int) (h : HV) (h0 : -9223372036854775808 ≤ g) (h1 : g ≤ 9223372036854775807) (hk : HOk h) : ∃ k, law07_HardNobody k g h = some true := by
  refine (law07_HardNobody_lm g h).fin ?_
  unfold law07_HardNobody'
  obtain ⟨s, es⟩ := name_np h0 h1
  obtain ⟨t, et⟩ := name_zp h0 h1
  have ln : hard_Load_np' () g = some ((0, (0, 0)), 1) := by unfold hard_Load_np'; rw [es]; rfl
  have lz : hard_Load_zp' () g = some ((0, (0, 0)), 1) := by unfold hard_Load_zp'; rw [et]; rfl
  have sn : hard_Save_np' () g h = some 1 := by unfold hard_Save_np'; rw [es, Encode_is hk]; rfl
  have sz : hard_Save_zp' () g h = some 1 := by unfold hard_Save_zp'; rw [et, Encode_is hk]; rfl
  have p0 : law07_HardNobody_p6' g 0 h = law07_HardNobody_p6' g 1 h := by
    rw [law07_HardNobody_p6_eq, ln, sn]; rfl
  have p1 : law07_HardNobody_p6' g 1 h = law07_HardNobody_p6' g 2 h := by
    rw [law07_HardNobody_p6_eq, lz, sz]; rfl
  rw [p0, p1, law07_HardNobody_p6_eq]
  show (law07_awake'.bind fun r8 => some r8) = some true
  rw [hawake_is]; rfl
end Go.Proofs.YthdkecdbodenkaaDoor.gg
