import Derived.Test.YtgeieafnnlmfdaaGenJd
import Derived.Test.YtgeieafnnlmfdaaPlStr
set_option linter.unusedSimpArgs false
set_option maxRecDepth 100000
set_option maxHeartbeats 4000000
namespace Go.Abs.GenJ
open Go.Abs
theorem fr1 : journal_frame.f 60 [115] = some [0, 0, 0, 1, 27, 14, 207, 11, 115] := by rfl
theorem fr2 : journal_frame.f 60 [97] = some [0, 0, 0, 1, 232, 183, 190, 67, 97] := by rfl
theorem fr1b : journal_frame.f 59 [115] = some [0, 0, 0, 1, 27, 14, 207, 11, 115] := by rfl
def nm : ByteArray := ⟨#[106, 111, 117, 114, 110, 97, 108]⟩
def nn : ByteArray := ⟨#[106, 111, 117, 114, 110, 97, 108, 46, 110, 101, 119]⟩
def nb (n : ByteArray) : Bool := if (n.toList == (⟨#[]⟩ : ByteArray).toList) = true then false else decide ((n.size : Int) ≤ 64)
theorem named_eq (k : Nat) (n : ByteArray) : vdisk_named.f k n = some (nb n) := by
  simp only [vdisk_named.f, nb]
  split <;> rfl
theorem b1 : (nm.toList == (⟨#[]⟩ : ByteArray).toList) = false := by rw [toList_beq]; decide
theorem b2 : (nn.toList == (⟨#[]⟩ : ByteArray).toList) = false := by rw [toList_beq]; decide
theorem b3 : (nn.toList == nm.toList) = false := by rw [toList_beq]; decide
theorem b4 : (nm.toList == nn.toList) = false := by rw [toList_beq]; decide
theorem c1 : nm.toList ≠ [] := fun h => by have := b1; rw [h, toList_data] at this; simp at this
theorem c2 : nn.toList ≠ [] := fun h => by have := b2; rw [h, toList_data] at this; simp at this
theorem c3 : nn.toList ≠ nm.toList := fun h => by have := b3; rw [h] at this; simp at this
theorem c4 : nm.toList ≠ nn.toList := fun h => c3 h.symm
theorem s1 : nm.size = 7 := rfl
theorem s2 : nn.size = 11 := rfl
theorem open1 : journal_Open_12.f 60 ⟨[], 100, 0, (), false⟩ [115] = some (⟨(), [115], [], false⟩, 0, ⟨[(nm, ⟨[0, 0, 0, 1, 27, 14, 207, 11, 115], 9⟩)], 100, 9, (), false⟩) := by
  simp only [journal_Open_12.f]
  simp only [show (⟨#[106, 111, 117, 114, 110, 97, 108]⟩ : ByteArray) = nm from rfl, show (⟨#[106, 111, 117, 114, 110, 97, 108, 46, 110, 101, 119]⟩ : ByteArray) = nn from rfl]
  rw [show vdisk_Disk_Remove_31.f 60 ⟨[], 100, 0, (), false⟩ nn = some (33, ⟨[], 100, 0, (), false⟩) from rfl]
  simp only [Option.bind_some]
  rw [if_neg (by decide), journal_Open_12.j0]
  simp only [show (⟨#[106, 111, 117, 114, 110, 97, 108]⟩ : ByteArray) = nm from rfl, show (⟨#[106, 111, 117, 114, 110, 97, 108, 46, 110, 101, 119]⟩ : ByteArray) = nn from rfl]
  rw [show vdisk_Disk_Read_32.f 59 ⟨[], 100, 0, (), false⟩ nm = some ([], 33, ⟨[], 100, 0, (), false⟩) from rfl]
  have hr : journal_replace_29.f 59 ⟨[], 100, 0, (), false⟩ [115] = some (0, ⟨[(nm, ⟨[0, 0, 0, 1, 27, 14, 207, 11, 115], 9⟩)], 100, 9, (), false⟩) := by
    simp only [journal_replace_29.f, fr1b, Option.bind_some]
    simp only [show (⟨#[106, 111, 117, 114, 110, 97, 108]⟩ : ByteArray) = nm from rfl, show (⟨#[106, 111, 117, 114, 110, 97, 108, 46, 110, 101, 119]⟩ : ByteArray) = nn from rfl]
    have a1 : vdisk_Disk_Append_25.f 59 ⟨[], 100, 0, (), false⟩ nn [0, 0, 0, 1, 27, 14, 207, 11, 115] = some (0, ⟨[(nn, ⟨[0, 0, 0, 1, 27, 14, 207, 11, 115], 0⟩)], 100, 9, (), false⟩) := by
      simp only [vdisk_Disk_Append_25.f, vdisk_named.f, b2, s2, Option.bind_some]
      rfl
    rw [a1]
    have w : IntKind.i64.wrap (9 - 9) = 0 := by decide
    have w1 : IntKind.i64.wrap 9 = 9 := by decide
    have w2 : IntKind.i64.wrap 0 = 0 := by decide
    simp [vdisk_Disk_Sync_27.f, vdisk_Disk_change_55.f, vdisk_Disk_none_34.f, mget, vdisk_Disk_set.f, mset, vdisk_Disk_Rename_42.f, vdisk_named.f, c1, c2, c3, c4, s1, s2, vdisk_Disk_cut_59.f, mdel, w, w1, w2]
  simp only [Option.bind_some]
  simp [hr, slices_Clone_byte_byte.f]
theorem app1 : ∃ D, journal_Journal_Append_7.f 60 ⟨(), [115], [], false⟩ [97] ⟨[(nm, ⟨[0, 0, 0, 1, 27, 14, 207, 11, 115], 9⟩)], 100, 9, (), false⟩ = some (0, ⟨(), [115], [[97]], false⟩, D) := by
  refine ⟨⟨[(nm, ⟨[0, 0, 0, 1, 27, 14, 207, 11, 115, 0, 0, 0, 1, 232, 183, 190, 67, 97], 18⟩)], 100, 18, (), false⟩, ?_⟩
  simp only [journal_Journal_Append_7.f, fr2, Option.bind_some]
  simp only [show (⟨#[106, 111, 117, 114, 110, 97, 108]⟩ : ByteArray) = nm from rfl]
  have w1 : IntKind.i64.wrap 91 = 91 := by decide
  have w2 : IntKind.i64.wrap 9 = 9 := by decide
  have w3 : IntKind.i64.wrap 18 = 18 := by decide
  have w4 : IntKind.i64.wrap 0 = 0 := by decide
  have hc : slices_Concat_byte_byte.f 60 [[0, 0, 0, 1, 27, 14, 207, 11, 115], [0, 0, 0, 1, 232, 183, 190, 67, 97]] = some [0, 0, 0, 1, 27, 14, 207, 11, 115, 0, 0, 0, 1, 232, 183, 190, 67, 97] := by rfl
  simp [journal_Journal_may_24.f, journal_Journal_none_30.f, vdisk_Disk_Append_25.f, vdisk_Disk_change_55.f, vdisk_Disk_none_34.f, mget, vdisk_Disk_set.f, mset, vdisk_named.f, c1, s1, w1, w2, w3, w4, hc, vdisk_Disk_Sync_27.f, journal_Journal_Append_7.j0, slices_Clone_byte_byte.f]
theorem awake60 : dossierlaw04_awake.f 60 = some true := by
  obtain ⟨D, ha⟩ := app1
  simp only [dossierlaw04_awake.f]
  rw [show vdisk_New.f 60 100 = some (⟨[], 100, 0, (), false⟩, 0) from rfl]
  simp only [Option.bind_some]
  rw [if_neg (by decide), open1]
  simp only [Option.bind_some]
  rw [if_pos (by decide), ha]
  simp only [Option.bind_some]
  rw [if_pos (by decide)]
  have hb : ((ofNums [115]).toList == (⟨#[115]⟩ : ByteArray).toList) = true := by rw [toList_beq]; decide
  have h1 : journal_Journal_Records_10.f 60 ⟨(), [115], [[97]], false⟩ D = some ([[97]], ⟨(), [115], [[97]], false⟩, D) := rfl
  have h2 : journal_Journal_Snapshot_9.f 60 ⟨(), [115], [[97]], false⟩ D = some ([115], ⟨(), [115], [[97]], false⟩, D) := rfl
  rw [h1]
  simp only [Option.bind_some]
  rw [if_pos (by decide), h2]
  simp only [Option.bind_some]
  rw [hb]
theorem nobody_true (b : List Int) : ∃ k, dossierlaw04_JournalNobody.f k b = some true := by
  refine ⟨60, ?_⟩
  have w : IntKind.i64.wrap 0 = 0 := by decide
  have hnm : nb nm = true := by simp [nb, c1, s1]
  simp [w, dossierlaw04_JournalNobody.f, journal_Journal_Append_nil0.f, journal_Journal_may_nil0.f, journal_Journal_none_nil0.f, journal_Journal_Compact_nil0.f, journal_Journal_Snapshot_nil0.f, journal_Journal_Records_nil0.f, journal_Journal_Stopped_nil0.f,
    journal_Journal_Append.f, journal_Journal_may.f, journal_Journal_none.f, journal_Journal_Compact.f, journal_Journal_Snapshot.f, journal_Journal_Records.f, journal_Journal_Stopped.f,
    journal_Open_nil0.f, vdisk_Disk_Remove_nil0.f, vdisk_Disk_change_nil0.f, vdisk_Disk_none_nil0.f, journal_Open.f, vdisk_Disk_Remove.f, vdisk_Disk_change.f, vdisk_Disk_none.f, journal_Open.j0, awake60]
end Go.Abs.GenJ
