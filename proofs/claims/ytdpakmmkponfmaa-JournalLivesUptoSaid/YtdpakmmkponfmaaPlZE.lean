import Derived.Test.YtdpakmmkponfmaaPlZD
set_option linter.unusedVariables false
set_option linter.unusedSimpArgs false
set_option maxRecDepth 100000
set_option maxHeartbeats 4000000
namespace Go.Abs.GenZ
open Go.Abs

theorem concat_ev (x y : List Int) (hx : x.length ≤ 1099511627776) (hy : y.length ≤ 1099511627776) : Evt (fun k => slices_Concat_byte_byte_69.f k x y) (x ++ y) := by
 simp only [slices_Concat_byte_byte_69.f, slices_Grow_byte_byte_nil0.f]
 have h1 : IntKind.i64.wrap (0 + (x.length : Int)) = (x.length : Int) := by rw [wrap_i64 (by omega) (by omega)]; omega
 have h2 : IntKind.i64.wrap ((x.length : Int) + (y.length : Int)) = (x.length : Int) + (y.length : Int) := wrap_i64 (by omega) (by omega)
 have h3 : IntKind.i64.wrap ((x.length : Int) + (y.length : Int) - 0) = (x.length : Int) + (y.length : Int) := by rw [wrap_i64 (by omega) (by omega)]; omega
 rw [h1, h2, h3]
 refine Evt.neg (by rw [decide_eq_true_eq]; omega) (Evt.neg (by rw [decide_eq_true_eq]; omega) ?_)
 refine Evt.bind (a := ([] : List Int)) ?_ ?_
 ·refine Evt.neg (by rw [decide_eq_true_eq]; omega) ?_
  by_cases hz : (x.length : Int) + (y.length : Int) > 0
  ·exact Evt.pos (by simpa using hz) (Evt.pos (by rw [decide_eq_true_eq]; omega) (.pure _))
  ·exact Evt.neg (by simpa using hz) (.pure _)
 ·refine Evt.pos (by simp; omega) (Evt.pos (by simp; omega) ?_)
  simpa using Evt.pure (x ++ y)
theorem tailP {D : VD} {may : Bool} {n : ByteArray} {fresh : Bool} {g0 : Int} {g : VD → VD} {X : Nat → Int × VD → Option (Int × VD)} (hX : (chg D may n fresh g0).1 = 0 → ∀ D1, D1.files = D.files → Evt (fun k => X k (0, D1)) (0, g D1)) :
  Evt (fun k => (vdisk_Disk_change.f k D may n fresh g0).bind fun r => if (r.1 == 0) = true then X k r else some (r.1, r.2)) (aftP (chg D may n fresh g0) g) := by
 refine Evt.bind (chg_ev D may n fresh g0) ?_
 have hf : (chg D may n fresh g0).2.files = D.files := by
  unfold chg brP
  split <;> (try split) <;> (try split) <;> (try split) <;> (try split) <;> (try split) <;> rfl
 unfold aftP
 by_cases h : (chg D may n fresh g0).1 = 0
 ·rw [if_pos h]
  have := hX h _ hf
  refine Evt.pos (by simpa using h) ?_
  have e : chg D may n fresh g0 = (0, (chg D may n fresh g0).2) := by rw [← h]
  rw [e]; exact this
 ·rw [if_neg h]
  exact Evt.neg (by simpa using h) (.pure _)
theorem setP_ev (D : VD) (n : ByteArray) (f : vdisk_file) : Evt (fun k => vdisk_Disk_set.f k D n f) (setD D n f) := .pure _
theorem cutP_ev (D : VD) (n : ByteArray) : Evt (fun k => vdisk_Disk_cut.f k D n) (cutD D n) := .pure _
theorem chg_may {D : VD} {may : Bool} {n : ByteArray} {fresh : Bool} {g0 : Int} (h : (chg D may n fresh g0).1 = 0) : may = true := by
 unfold chg at h
 by_cases hm : may = true
 ·exact hm
 ·rw [if_neg hm] at h; cases h
theorem appendP (D : VD) (n : ByteArray) (b : List Int) (h1 : (lk n D.files).b.length ≤ 1099511627776) (h2 : b.length ≤ 1099511627776) : Evt (fun k => vdisk_Disk_Append.f k D n b) (pAppend D n b) := by
 simp only [vdisk_Disk_Append.f]
 refine Evt.bind (named_ev n) (tailP (X := fun k r => (slices_Concat_byte_byte_69.f k ((lk_vdisk_file n r.2.files).b) b).bind fun r4 => (vdisk_Disk_set.f k r.2 n (⟨r4, (lk_vdisk_file n r.2.files).sure⟩ : vdisk_file)).bind fun r5 => some (r.1, r5)) fun _ D1 hf => ?_)
 exact Evt.bind (concat_ev _ _ (by show (lk n D1.files).b.length ≤ _; rw [hf]; exact h1) h2) (Evt.bind (setP_ev _ _ _) (.pure _))
theorem syncP (D : VD) (n : ByteArray) : Evt (fun k => vdisk_Disk_Sync.f k D n) (pSync D n) := by
 simp only [vdisk_Disk_Sync.f]
 exact tailP (X := fun k r => (vdisk_Disk_set.f k r.2 n (⟨(lk_vdisk_file n r.2.files).b, (((lk_vdisk_file n r.2.files).b).length : Int)⟩ : vdisk_file)).bind fun r3 => some (r.1, r3)) fun _ D1 hf => Evt.bind (setP_ev _ _ _) (.pure _)
theorem renP (D : VD) (n m : ByteArray) : Evt (fun k => vdisk_Disk_Rename.f k D n m) (pRename D n m) := by
 simp only [vdisk_Disk_Rename.f]
 refine Evt.bind (named_ev m) (tailP (X := fun k r => if (n.toList == m.toList) = true then some (r.1, r.2) else ((vdisk_Disk_cut.f k r.2 n).bind fun r5 => (vdisk_Disk_set.f k r5 m (lk_vdisk_file n r.2.files)).bind fun r6 => some (r.1, r6))) fun _ D1 hf => ?_)
 rw [beq_eq]
 by_cases h : n = m
 ·rw [if_pos h]; exact Evt.pos (by simpa using h) (.pure _)
 ·rw [if_neg h]; exact Evt.neg (by simpa using h) (Evt.bind (cutP_ev _ _) (Evt.bind (setP_ev _ _ _) (.pure _)))
theorem truncP (D : VD) (n : ByteArray) (m : Int) : Evt (fun k => vdisk_Disk_Truncate.f k D n m) (pTruncate D n m) := by
 simp only [vdisk_Disk_Truncate.f]
 refine tailP (X := fun k r => if (decide (0 ≤ mn (lk_vdisk_file n r.2.files).b m ∧ mn (lk_vdisk_file n r.2.files).b m ≤ (((lk_vdisk_file n r.2.files).b).length : Int))) = true then ((vdisk_Disk_set.f k r.2 n (⟨sub ((lk_vdisk_file n r.2.files).b) 0 (mn (lk_vdisk_file n r.2.files).b m), (if ((lk_vdisk_file n r.2.files).sure) < mn (lk_vdisk_file n r.2.files).b m then ((lk_vdisk_file n r.2.files).sure) else mn (lk_vdisk_file n r.2.files).b m)⟩ : vdisk_file)).bind fun r4 => some (r.1, r4)) else none) fun hc D1 hf => ?_
 have hm : m ≥ 0 := by simpa using chg_may hc
 refine Evt.pos ?_ (Evt.bind (setP_ev _ _ _) (.pure _))
 rw [decide_eq_true_eq]; unfold mn; split <;> omega
theorem remP (D : VD) (n : ByteArray) : Evt (fun k => vdisk_Disk_Remove.f k D n) (pRemove D n) := by
 simp only [vdisk_Disk_Remove.f]
 exact tailP (X := fun k r => (vdisk_Disk_cut.f k r.2 n).bind fun r3 => some (r.1, r3)) fun _ D1 hf => Evt.bind (cutP_ev _ _) (.pure _)
theorem fuseP (D : VD) (m : Int) : Evt (fun k => vdisk_Disk_Fuse.f k D m) (pFuse D m) := by
 simp only [vdisk_Disk_Fuse.f, vdisk_Disk_none.f, pFuse, Option.bind_some]
 by_cases h : m < 0
 ·rw [if_pos h]; exact Evt.pos (by simpa using h) (.pure _)
 ·rw [if_neg h]; exact Evt.neg (by simpa using h) (.pure _)
theorem roomP (D : VD) (m : Int) : Evt (fun k => vdisk_Disk_Room.f k D m) (pRoom D m) := by
 simp only [vdisk_Disk_Room.f, vdisk_Disk_none.f, pRoom, Option.bind_some]
 by_cases h : m < 0 <;> by_cases h2 : m > 4194304 <;> simp [h, h2, Evt.pure]
end Go.Abs.GenZ
