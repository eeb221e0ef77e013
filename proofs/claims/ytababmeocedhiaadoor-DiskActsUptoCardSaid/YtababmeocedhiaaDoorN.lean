/- A disk that nobody made has nothing; and the question that every disk's law asks. The plain laws. -/
import Derived.Test.YtababmeocedhiaaDoorM
open Go Go.GG
set_option linter.unusedVariables false
namespace Go.Proofs.YtababmeocedhiaaDoor.gg
theorem awake_is : law05_awake' = some true := law05_awake_lm.of_some 40 (by decide +kernel)
theorem law_DiskNobody (x : Int × (List UInt8) × (List UInt8) × (List Int) × Int × List Int) : ∃ k, law05_DiskNobody k x = some true := by
  refine (law05_DiskNobody_lm x).fin ?_
  unfold law05_DiskNobody'
  have hz : ∀ v, law05_DiskNobody_p6' 1 v = law05_DiskNobody_p6' 2 v := by
    intro v
    rw [law05_DiskNobody_p6_eq]
    have c : disk_Disk_Crash_zp' () v.2.2.2.2.2 = some () := by
      unfold disk_Disk_Crash_zp'; rw [disk_Disk_Crash_zp_p3_eq]; rfl
    have f : disk_Disk_Files_zp' () = some () := by
      unfold disk_Disk_Files_zp'; rw [disk_Disk_Files_zp_p8_eq]; rfl
    have q : disk_Disk_Cut_zp' () v.2.1 v.2.2.2.2.1 = some 1 := by rfl
    rw [c, f, q]
    rfl
  have hn : ∀ v, law05_DiskNobody_p6' 0 v = law05_DiskNobody_p6' 1 v := by
    intro v
    rw [law05_DiskNobody_p6_eq]
    have c : disk_Disk_Crash_np' () v.2.2.2.2.2 = some () := by
      unfold disk_Disk_Crash_np'; rw [disk_Disk_Crash_np_p3_eq]; rfl
    have f : disk_Disk_Files_np' () = some () := by
      unfold disk_Disk_Files_np'; rw [disk_Disk_Files_np_p8_eq]; rfl
    have q : disk_Disk_Cut_np' () v.2.1 v.2.2.2.2.1 = some 1 := by rfl
    rw [c, f, q]
    rfl
  rw [hn, hz, law05_DiskNobody_p6_eq]
  show (law05_awake'.bind fun r20 => some r20) = some true
  rw [awake_is]; rfl
end Go.Proofs.YtababmeocedhiaaDoor.gg
