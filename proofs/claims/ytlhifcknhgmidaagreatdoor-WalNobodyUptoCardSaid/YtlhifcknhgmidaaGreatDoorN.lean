/- A part of our own proof. -/
import Derived.Test.YtlhifcknhgmidaaGreatDoorM
open Go Go.GG Go.Proofs
set_option linter.unusedVariables false
namespace Go.Proofs.YtlhifcknhgmidaaGreatDoor.gg
theorem wawake_is : law06_awake' = some true := law06_awake_lm.of_some 60 (by decide +kernel)
theorem rread_nil : wal_Read' [] = some [] := (wal_Read_lm []).of_some 20 (by decide +kernel)
theorem law_WalNobody (x : Int × List Int) : ∃ k, law06_WalNobody k x = some true := by
  refine (law06_WalNobody_lm x).fin ?_
  unfold law06_WalNobody'
  have o1 : wal_Open_np' () = some ((), 1) := by
    unfold wal_Open_np'; rfl
  have o2 : wal_Open_zp' () = some ((), 1) := by
    unfold wal_Open_zp'; rfl
  have p0 : law06_WalNobody_p18' 0 x = law06_WalNobody_p18' 1 x := by
    rw [law06_WalNobody_p18_eq]; rfl
  have p1 : law06_WalNobody_p18' 1 x = law06_WalNobody_p18' 2 x := by
    rw [law06_WalNobody_p18_eq]; rfl
  have p2 : law06_WalNobody_p18' 2 x = some (.inl ()) := by
    rw [law06_WalNobody_p18_eq]; rfl
  rw [o1, o2]
  simp only [Option.bind_some]
  rw [rread_nil]
  simp only [Option.bind_some]
  rw [p0, p1, p2]
  simp only [Option.bind_some, Sum.elim_inl]
  rw [wawake_is]
  rfl
end Go.Proofs.YtlhifcknhgmidaaGreatDoor.gg
