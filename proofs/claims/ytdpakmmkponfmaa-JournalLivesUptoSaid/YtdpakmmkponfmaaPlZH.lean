import Derived.Test.YtdpakmmkponfmaaGenZf
import Derived.Test.YtdpakmmkponfmaaPlZG
set_option linter.unusedVariables false
set_option linter.unusedSimpArgs false
set_option maxRecDepth 100000
set_option maxHeartbeats 4000000
namespace Go.Abs.GenZ
open Go.Abs

/-! ### the disks are the same -/
theorem equal_suf (l : List ByteArray) (hl : l.length < 9223372036854775807) : ∀ suf pre, l = pre ++ suf → Evt (fun k => slices_Equal_string_string.l0 k (pre.length : Int) l l) true
 | [], pre, h => Evt.succ (fun k => by rw [slices_Equal_string_string.l0]) (Evt.neg (by rw [h]; simp) (.pure _))
 | g :: t, pre, h => by
  have hv : l[pre.length]? = some g := by rw [h]; simp
  have hlt : pre.length < l.length := by rw [h]; simp
  refine Evt.succ (fun k => by rw [slices_Equal_string_string.l0]) ?_
  refine Evt.pos (by simpa using hlt) (Evt.some_bind (by rw [rd_nat]; exact hv) (Evt.some_bind (by rw [rd_nat]; exact hv) (Evt.pos (by simp) ?_)))
  rw [wrap_nat (by omega)]
  have := equal_suf l hl t (pre ++ [g]) (by rw [h]; simp)
  rw [List.length_append] at this
  exact this
theorem equal_ev (l : List ByteArray) (hl : l.length < 9223372036854775807) : Evt (fun k => slices_Equal_string_string.f k l l) true := by
 simp only [slices_Equal_string_string.f]
 exact Evt.neg (by simp) (equal_suf l hl l [] rfl)
theorem bytesEq_ev (l : List Int) : Evt (fun k => bytes_Equal.f k l l) true := by
 simp only [bytes_Equal.f]
 have : ((ofNums l).toList == (ofNums l).toList) = true := by simp
 rw [this]; exact .pure _
theorem bclone_ev (b : List Int) (h : b.length ≤ 1099511627776) : Evt (fun k => slices_Clone_byte_byte.f k b) b := by
 simp only [slices_Clone_byte_byte.f]
 exact Evt.pos (by simp; omega) (.pure _)
def rdP (D : VD) (n : ByteArray) : List Int × Int := if D.dead = true then ([], 70) else if (mget n D.files).isSome = true then ((lk n D.files).b, 0) else ([], 33)
theorem readP {N : Nat} {D : VD} {Y : RD} (h : Rel N D Y) (n : ByteArray) : Evt (fun k => vdisk_Disk_Read.f k D n) (rdP D n) := by
 simp only [vdisk_Disk_Read.f, vdisk_Disk_none.f, rdP, Option.bind_some]
 have hl := lk_le h n
 by_cases h1 : D.dead = true
 ·simp only [if_pos h1]; exact .pure _
 ·simp only [if_neg h1]
  by_cases h2 : (mget n D.files).isSome = true
  ·simp only [if_pos h2]; exact Evt.bind (bclone_ev _ hl) (.pure _)
  ·simp only [if_neg h2]; exact .pure _
def rdR (Y : RD) (n : ByteArray) : List Int × Int := if (thr Y n).2 ≠ 0 then ([], (thr Y n).2) else ((thr Y n).1.B, 0)
theorem rd_eq {N : Nat} {D : VD} {Y : RD} (h : Rel N D Y) (n : ByteArray) : rdP D n = rdR Y n := by
 unfold rdP rdR thr
 have hd := h.dead
 by_cases h1 : Y.Off = true
 ·rw [if_pos (by rw [hd]; exact h1)]; simp [h1]
 ·rw [if_neg (by rw [hd]; exact h1)]
  have ha := agree_some h.ag n
  have hk := agree_lk h.ag n
  cases hq : fnd n Y.L with
  | none => rw [hq] at ha; rw [if_neg (by rw [ha]; decide)]; simp [h1]
  | some f => rw [hq] at ha hk; rw [if_pos (by rw [ha]; rfl), hk]; simp [h1, vf]
theorem sameP {N : Nat} {D : VD} {Y : RD} (h : Rel N D Y) (hN : N ≤ 1000000000) : Evt (fun k => dossierplain_Same.f k D Y) true := by
 obtain ⟨n1, n2⟩ := names_eq h hN
 have hok := h.ok (by omega)
 have hl := h.len
 have hu := h.us
 simp only [dossierplain_Same.f, vdisk_Disk_Names.f, vdisk_Disk_Used.f, vdisk_Disk_Dead.f, vdisk_Disk_none.f, Option.bind_some]
 refine Evt.bind (a := Y.L.map (·.Name)) (by rw [← n2]; exact Evt.pos n1 (.pure _)) (Evt.bind (namesR_ev Y hok) (Evt.bind (equal_ev _ (by simp; omega)) ?_))
 refine Evt.pos rfl (Evt.bind (usedR_ev Y (by omega) (by omega)) (Evt.neg (by rw [h.used]; simp) (Evt.pos (by rw [h.dead]; simp) ?_)))
 have key : ∀ suf pre, Y.L = pre ++ suf → Evt (fun k => dossierplain_Same.l0 k (pre.length : Int) D Y) true := by
  intro suf
  induction suf with
  | nil => intro pre he; exact Evt.succ (fun k => by rw [dossierplain_Same.l0]) (Evt.neg (by rw [he]; simp) (.pure _))
  | cons g t ih =>
   intro pre he
   have hv : Y.L[pre.length]? = some g := by rw [he]; simp
   have hlt : pre.length < Y.L.length := by rw [he]; simp
   refine Evt.succ (fun k => by rw [dossierplain_Same.l0]) ?_
   refine Evt.pos (by simpa using hlt) (Evt.some_bind (by rw [rd_nat]; exact hv) (Evt.bind (readP h g.Name) (Evt.bind (readR_ev Y hok g.Name) ?_)))
   rw [show (if (thr Y g.Name).2 ≠ 0 then ([], (thr Y g.Name).2) else ((thr Y g.Name).1.B, 0)) = rdR Y g.Name from rfl, ← rd_eq h]
   refine Evt.neg (by simp) (Evt.bind (bytesEq_ev _) (Evt.pos rfl ?_))
   rw [wrap_nat (by omega)]
   have := ih (pre ++ [g]) (by rw [he]; simp)
   rw [List.length_append] at this
   exact this
 exact key Y.L [] rfl
/-! ### awake -/
theorem rel_new (room : Int) (h : 0 ≤ room ∧ room ≤ 4194304) : Rel 0 (⟨[], room, 0, none, false⟩ : VD) (⟨[], room, -1, false⟩ : RD) :=
 ⟨by simp [Srt], ⟨by simp [keys], fun n => rfl⟩, rfl, by simp [usum], Nat.le_refl _, rfl, h, rfl, rfl, fun f hf => by simp at hf, fun f hf => by simp at hf⟩
end Go.Abs.GenZ
