import Derived.Test.YtiegaebmhpdnmaaPlVnA
set_option linter.unusedVariables false
set_option linter.unusedSimpArgs false
set_option maxRecDepth 100000
set_option maxHeartbeats 4000000
namespace Go.Abs.GenW
open Go.Abs
def nb (n : ByteArray) : Bool := if (n.toList == (⟨#[]⟩ : ByteArray).toList) = true then false else decide ((n.size : Int) ≤ 64)
theorem named_eq (k : Nat) (n : ByteArray) : vdisk_named.f k n = some (nb n) := by
  simp only [vdisk_named.f, nb]
  split <;> rfl
theorem nobody_eq (k : Nat) (s : dossierplain_Step) : dossierlaw03_VdiskNobody.f k s = (dossierlaw03_awake.f k).bind fun r => some r := by
  have w : IntKind.i64.wrap 0 = 0 := by decide
  simp [w, dossierlaw03_VdiskNobody.f, named_eq, vdisk_Disk_none_nil0.f, vdisk_Disk_Read_nil0.f, vdisk_Disk_change_nil0.f, vdisk_Disk_Append_nil0.f, vdisk_Disk_Sync_nil0.f, vdisk_Disk_Rename_nil0.f, vdisk_Disk_Truncate_nil0.f, vdisk_Disk_Remove_nil0.f, vdisk_Disk_Fuse_nil0.f, vdisk_Disk_Room_nil0.f, vdisk_Disk_Crash_nil0.f, vdisk_Disk_Dead_nil0.f, vdisk_Disk_Names_nil0.f, vdisk_Disk_Used_nil0.f, vdisk_Disk_Copy_nil0.f,
    vdisk_Disk_none.f, vdisk_Disk_Read.f, vdisk_Disk_change.f, vdisk_Disk_Append.f, vdisk_Disk_Sync.f, vdisk_Disk_Rename.f, vdisk_Disk_Truncate.f, vdisk_Disk_Remove.f, vdisk_Disk_Fuse.f, vdisk_Disk_Room.f, vdisk_Disk_Crash.f, vdisk_Disk_Dead.f, vdisk_Disk_Names.f, vdisk_Disk_Used.f, vdisk_Disk_Copy.f]
theorem nobody_true (s : dossierplain_Step) : ∃ k, dossierlaw03_VdiskNobody.f k s = some true :=
  Evt.get (f := fun k => dossierlaw03_VdiskNobody.f k s) (Evt.congr (fun k => nobody_eq k s) awake_ev.map)
end Go.Abs.GenW
