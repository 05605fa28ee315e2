import Derived.Test.YtgeieafnnlmfdaaPlOD
set_option linter.unusedVariables false
set_option linter.unusedSimpArgs false
set_option maxRecDepth 100000
set_option maxHeartbeats 4000000
namespace Go.Abs.GenO
open Go.Abs

theorem concat_ev (x y : List Int) (hx : x.length ≤ 1099511627776) (hy : y.length ≤ 1099511627776) : Evt (fun k => slices_Concat_byte_byte.f k x y) (x ++ y) := by
 simp only [slices_Concat_byte_byte.f, slices_Grow_byte_byte_nil0.f]
 have h1 : IntKind.i64.wrap (0 + (x.length : Int)) = (x.length : Int) := by rw [wrap_i64 (by omega) (by omega)]; omega
 have h2 : IntKind.i64.wrap ((x.length : Int) + (y.length : Int)) = (x.length : Int) + (y.length : Int) := wrap_i64 (by omega) (by omega)
 have h3 : IntKind.i64.wrap ((x.length : Int) + (y.length : Int) - 0) = (x.length : Int) + (y.length : Int) := by rw [wrap_i64 (by omega) (by omega)]; omega
 rw [h1, h2, h3]
 refine Evt.neg (by rw [decide_eq_true_eq]; omega) (Evt.neg (by rw [decide_eq_true_eq]; omega) ?_)
 refine Evt.bind (a := ([] : List Int)) ?_ ?_
 ·refine Evt.neg (by rw [decide_eq_true_eq]; omega) ?_
  by_cases hz : (x.length : Int) + (y.length : Int) > 0
  ·exact Evt.pos (by simpa using hz) (Evt.pos (by rw [decide_eq_true_eq]; omega) (.pure _))
  ·exact Evt.neg (by simpa using hz) (.pure _)
 ·refine Evt.pos (by simp; omega) (Evt.pos (by simp; omega) ?_)
  simpa using Evt.pure (x ++ y)
theorem spoil_tot (p1 : List Int) (h : p1.length < 9223372036854775807) : ∀ n i x1, p1.length - i = n → i ≤ p1.length → x1.length = p1.length → Tot (fun k => dossierplain_Spoil.l0 k x1 (i : Int) p1)
 | 0, i, x1, hn, hi, hx => Tot.succ (fun k => by rw [dossierplain_Spoil.l0]) (Evt.tot (Evt.neg (by rw [decide_eq_true_eq]; omega) (.pure _)))
 | n + 1, i, x1, hn, hi, hx => by
  have hl : i < x1.length := by omega
  have ih := spoil_tot p1 h n (i + 1) (x1.set i (Go.bits .xor .u8 x1[i] 255)) (by omega) (by omega) (by simpa using hx)
  obtain ⟨r, hr⟩ := ih
  refine ⟨r, Evt.succ (fun k => by rw [dossierplain_Spoil.l0]) (Evt.pos (by rw [decide_eq_true_eq]; omega) (Evt.some_bind (rd_lt hl) (Evt.some_bind (rd_lt hl) ?_)))⟩
  rw [wrap_nat (by omega), Int.toNat_natCast]
  exact hr

/-! ### of a disk without a fuse -/
theorem tail0 {D : VD} {may : Bool} {n : ByteArray} {fresh : Bool} {g0 : Int} {g : VD → VD} {X : Nat → Int → Option (Int × VD)} (hX : (chg D none may n fresh g0).1 = 0 → Evt (fun k => X k 0) (0, g D)) :
  Evt (fun k => (vdisk_Disk_change.f k D may n fresh g0).bind fun r => if (r == 0) = true then X k r else some (r, D)) ((aftP (chg D none may n fresh g0) g).1, (aftP (chg D none may n fresh g0) g).2.1) ∧ (aftP (chg D none may n fresh g0) g).2.2 = none := by
 obtain ⟨h1, h2⟩ := chg_ev0 D may n fresh g0
 unfold aftP
 by_cases h : (chg D none may n fresh g0).1 = 0
 ·rw [if_pos h]
  refine ⟨Evt.bind h1 (Evt.pos (by simpa using h) ?_), by rw [h2]⟩
  have := hX h
  rw [h, h2]; exact this
 ·rw [if_neg h]
  refine ⟨Evt.bind h1 (Evt.neg (by simpa using h) ?_), by rw [h2]⟩
  rw [h2]; exact .pure _
theorem setP0 (D : VD) (n : ByteArray) (f : vdisk_file) : Evt (fun k => vdisk_Disk_set.f k D n f) (setD D n f) := .pure _
theorem cutP0 (D : VD) (n : ByteArray) : Evt (fun k => vdisk_Disk_cut.f k D n) (cutD D n) := .pure _
def Two (p : Int × VD × Option Int) : Int × VD := (p.1, p.2.1)
theorem appendP0 (D : VD) (n : ByteArray) (b : List Int) (h1 : (lk n D.files).b.length ≤ 1099511627776) (h2 : b.length ≤ 1099511627776) : Evt (fun k => vdisk_Disk_Append.f k D n b) (Two (pAppend D none n b)) ∧ (pAppend D none n b).2.2 = none := by
 have := tail0 (D := D) (may := nb n) (n := n) (fresh := true) (g0 := (b.length : Int)) (g := fun D1 => setD D1 n ⟨(lk n D1.files).b ++ b, (lk n D1.files).sure⟩)
  (X := fun k r => (slices_Concat_byte_byte.f k ((lk_vdisk_file n D.files).b) b).bind fun r4 => (vdisk_Disk_set.f k D n (⟨r4, (lk_vdisk_file n D.files).sure⟩ : vdisk_file)).bind fun r5 => some (r, r5))
  (fun _ => Evt.bind (concat_ev _ _ h1 h2) (Evt.bind (setP0 _ _ _) (.pure _)))
 exact ⟨by simp only [vdisk_Disk_Append.f]; exact Evt.bind (named_ev n) this.1, this.2⟩
theorem syncP0 (D : VD) (n : ByteArray) : Evt (fun k => vdisk_Disk_Sync.f k D n) (Two (pSync D none n)) ∧ (pSync D none n).2.2 = none := by
 have := tail0 (D := D) (may := true) (n := n) (fresh := false) (g0 := 0) (g := fun D1 => setD D1 n ⟨(lk n D1.files).b, ((lk n D1.files).b.length : Int)⟩)
  (X := fun k r => (vdisk_Disk_set.f k D n (⟨(lk_vdisk_file n D.files).b, (((lk_vdisk_file n D.files).b).length : Int)⟩ : vdisk_file)).bind fun r3 => some (r, r3))
  (fun _ => Evt.bind (setP0 _ _ _) (.pure _))
 exact ⟨by simp only [vdisk_Disk_Sync.f]; exact this.1, this.2⟩
theorem renP0 (D : VD) (n m : ByteArray) : Evt (fun k => vdisk_Disk_Rename.f k D n m) (Two (pRename D none n m)) ∧ (pRename D none n m).2.2 = none := by
 have := tail0 (D := D) (may := nb m) (n := n) (fresh := false) (g0 := 0) (g := fun D1 => if n = m then D1 else setD (cutD D1 n) m (lk n D1.files))
  (X := fun k r => if (n.toList == m.toList) = true then some (r, D) else ((vdisk_Disk_cut.f k D n).bind fun r5 => (vdisk_Disk_set.f k r5 m (lk_vdisk_file n D.files)).bind fun r6 => some (r, r6)))
  (fun _ => by
   rw [beq_eq]
   by_cases h : n = m
   ·rw [if_pos h]; exact Evt.pos (by simpa using h) (.pure _)
   ·rw [if_neg h]; exact Evt.neg (by simpa using h) (Evt.bind (cutP0 _ _) (Evt.bind (setP0 _ _ _) (.pure _))))
 exact ⟨by simp only [vdisk_Disk_Rename.f]; exact Evt.bind (named_ev m) this.1, this.2⟩
theorem chg_may {D : VD} {fu : Option Int} {may : Bool} {n : ByteArray} {fresh : Bool} {g0 : Int} (h : (chg D fu may n fresh g0).1 = 0) : may = true := by
 unfold chg at h
 by_cases hm : may = true
 ·exact hm
 ·rw [if_neg hm] at h; cases h
theorem truncP0 (D : VD) (n : ByteArray) (m : Int) : Evt (fun k => vdisk_Disk_Truncate.f k D n m) (Two (pTruncate D none n m)) ∧ (pTruncate D none n m).2.2 = none := by
 have := tail0 (D := D) (may := decide (m ≥ 0)) (n := n) (fresh := false) (g0 := 0) (g := fun D1 => setD D1 n ⟨sub (lk n D1.files).b 0 (mn (lk n D1.files).b m), if (lk n D1.files).sure < mn (lk n D1.files).b m then (lk n D1.files).sure else mn (lk n D1.files).b m⟩)
  (X := fun k r => if (decide (0 ≤ mn (lk_vdisk_file n D.files).b m ∧ mn (lk_vdisk_file n D.files).b m ≤ (((lk_vdisk_file n D.files).b).length : Int))) = true then ((vdisk_Disk_set.f k D n (⟨sub ((lk_vdisk_file n D.files).b) 0 (mn (lk_vdisk_file n D.files).b m), (if ((lk_vdisk_file n D.files).sure) < mn (lk_vdisk_file n D.files).b m then ((lk_vdisk_file n D.files).sure) else mn (lk_vdisk_file n D.files).b m)⟩ : vdisk_file)).bind fun r4 => some (r, r4)) else none)
  (fun hc => by
   have hm : m ≥ 0 := by simpa using chg_may hc
   refine Evt.pos ?_ (Evt.bind (setP0 _ _ _) (.pure _))
   rw [decide_eq_true_eq]; unfold mn; split <;> omega)
 exact ⟨by simp only [vdisk_Disk_Truncate.f]; exact this.1, this.2⟩
theorem remP0 (D : VD) (n : ByteArray) : Evt (fun k => vdisk_Disk_Remove.f k D n) (Two (pRemove D none n)) ∧ (pRemove D none n).2.2 = none := by
 have := tail0 (D := D) (may := true) (n := n) (fresh := false) (g0 := 0) (g := fun D1 => cutD D1 n)
  (X := fun k r => (vdisk_Disk_cut.f k D n).bind fun r3 => some (r, r3)) (fun _ => Evt.bind (cutP0 _ _) (.pure _))
 exact ⟨by simp only [vdisk_Disk_Remove.f]; exact this.1, this.2⟩
/-! ### of a disk with a fuse -/
end Go.Abs.GenO
