import Derived.Test.YtiegaebmhpdnmaaPlRmG
set_option linter.unusedVariables false
set_option linter.unusedSimpArgs false
set_option maxRecDepth 100000
set_option maxHeartbeats 4000000
namespace Go.Abs.GenRm
open Go.Abs

/-! ### the disks are the same -/
theorem bclone_ev (b : List Int) (h : b.length ≤ 1099511627776) : Evt (fun k => slices_Clone_byte_byte.f k b) b := by
 simp only [slices_Clone_byte_byte.f]
 exact Evt.pos (by simp; omega) (.pure _)
def rdP (D : VD) (n : ByteArray) : List Int × Int := if D.dead = true then ([], 70) else if (mget n D.files).isSome = true then ((lk n D.files).b, 0) else ([], 33)
theorem readP0 {N : Nat} {D : VD} {fu : Option Int} {Y : RD} (h : Rel N D fu Y) (n : ByteArray) : Evt (fun k => vdisk_Disk_Read.f k D n) (rdP D n) := by
 simp only [vdisk_Disk_Read.f, vdisk_Disk_none.f, rdP, Option.bind_some]
 have hl := lk_le h n
 by_cases h1 : D.dead = true
 ·simp only [if_pos h1]; exact .pure _
 ·simp only [if_neg h1]
  by_cases h2 : (mget n D.files).isSome = true
  ·simp only [if_pos h2]; exact Evt.bind (bclone_ev _ hl) (.pure _)
  ·simp only [if_neg h2]; exact .pure _
def rdR (Y : RD) (n : ByteArray) : List Int × Int := if (thr Y n).2 ≠ 0 then ([], (thr Y n).2) else ((thr Y n).1.B, 0)
theorem rd_eq {N : Nat} {D : VD} {fu : Option Int} {Y : RD} (h : Rel N D fu Y) (n : ByteArray) : rdP D n = rdR Y n := by
 unfold rdP rdR thr
 have hd := h.dead
 by_cases h1 : Y.Off = true
 ·rw [if_pos (by rw [hd]; exact h1)]; simp [h1]
 ·rw [if_neg (by rw [hd]; exact h1)]
  have ha := agree_some h.ag n
  have hk := agree_lk h.ag n
  cases hq : fnd n Y.L with
  | none => rw [hq] at ha; rw [if_neg (by rw [ha]; decide)]; simp [h1]
  | some f => rw [hq] at ha hk; rw [if_pos (by rw [ha]; rfl), hk]; simp [h1, vf]
/-! ### awake -/
theorem rel_new (room : Int) (h : 0 ≤ room ∧ room ≤ 4194304) : Rel 0 (⟨[], room, 0, (), false⟩ : VD) none (⟨[], room, -1, false⟩ : RD) :=
 ⟨by simp [Srt], ⟨by simp [keys], fun n => rfl⟩, rfl, by simp [usum], Nat.le_refl _, rfl, h, rfl, rfl, fun f hf => by simp at hf, fun f hf => by simp at hf⟩
theorem concatL_ev (x y : List Int) (hx : x.length ≤ 1099511627776) (hy : y.length ≤ 1099511627776) : Evt (fun k => slices_Concat_byte_byte_34.f k ([x, y] : List (List Int))) (x ++ y) := by
 simp only [slices_Concat_byte_byte_34.f]
 have h1 : IntKind.i64.wrap (0 + (x.length : Int)) = (x.length : Int) := by rw [wrap_i64 (by omega) (by omega)]; omega
 have h2 : IntKind.i64.wrap ((x.length : Int) + (y.length : Int)) = (x.length : Int) + (y.length : Int) := wrap_i64 (by omega) (by omega)
 have w1 : IntKind.i64.wrap (0 + 1) = 1 := by decide
 have w2 : IntKind.i64.wrap (1 + 1) = 2 := by decide
 refine Evt.succ (fun k => by rw [slices_Concat_byte_byte_34.l0]) ?_
 refine Evt.pos rfl ?_
 refine Evt.some_bind (a := x) rfl ?_
 rw [h1, w1]
 refine Evt.neg (by simp) ?_
 refine Evt.succ (fun k => by rw [slices_Concat_byte_byte_34.l0]) ?_
 refine Evt.pos rfl ?_
 refine Evt.some_bind (a := y) rfl ?_
 rw [h2, w2]
 refine Evt.neg (by simp; omega) ?_
 refine Evt.succ (fun k => by rw [slices_Concat_byte_byte_34.l0]) ?_
 refine Evt.neg (by simp) ?_
 refine Evt.bind (a := ([] : List Int)) ?_ ?_
 ·have w3 : IntKind.i64.wrap ((x.length : Int) + (y.length : Int) - 0) = (x.length : Int) + (y.length : Int) := by rw [wrap_i64 (by omega) (by omega)]; omega
  simp only [slices_Grow_byte_byte_nil0.f]
  rw [w3]
  refine Evt.neg (by simp; omega) ?_
  by_cases hz : (x.length : Int) + (y.length : Int) > 0
  ·exact Evt.pos (by simpa using hz) (Evt.pos (by rw [decide_eq_true_eq]; omega) (.pure _))
  ·exact Evt.neg (by simpa using hz) (.pure _)
 ·refine Evt.succ (fun k => by rw [slices_Concat_byte_byte_34.l1]) ?_
  refine Evt.pos rfl ?_
  refine Evt.some_bind (a := x) rfl ?_
  rw [w1]
  refine Evt.pos (by simp; omega) ?_
  refine Evt.succ (fun k => by rw [slices_Concat_byte_byte_34.l1]) ?_
  refine Evt.pos rfl ?_
  refine Evt.some_bind (a := y) rfl ?_
  rw [w2]
  refine Evt.pos (by simp; omega) ?_
  refine Evt.succ (fun k => by rw [slices_Concat_byte_byte_34.l1]) ?_
  refine Evt.neg (by simp) ?_
  simpa using Evt.pure (x ++ y)
theorem appendL0 (D : VD) (n : ByteArray) (b : List Int) (h1 : (lk n D.files).b.length ≤ 1099511627776) (h2 : b.length ≤ 1099511627776) : Evt (fun k => vdisk_Disk_Append_9x.f k D n b) (Two (pAppend D none n b)) ∧ (pAppend D none n b).2.2 = none := by
 have := tail0 (D := D) (may := nb n) (n := n) (fresh := true) (g0 := (b.length : Int)) (g := fun D1 => setD D1 n ⟨(lk n D1.files).b ++ b, (lk n D1.files).sure⟩)
  (X := fun k r => (slices_Concat_byte_byte_34.f k ([(lk_vdisk_file n D.files).b, b] : List (List Int))).bind fun r4 => (vdisk_Disk_set.f k D n (⟨r4, (lk_vdisk_file n D.files).sure⟩ : vdisk_file)).bind fun r5 => some (r, r5))
  (fun _ => Evt.bind (concatL_ev _ _ h1 h2) (Evt.bind (setP0 _ _ _) (.pure _)))
 exact ⟨by simp only [vdisk_Disk_Append_9x.f]; exact Evt.bind (named_ev n) this.1, this.2⟩
def nA : ByteArray := ⟨#[97]⟩
theorem awake_some {D : VD} {Y : RD} (hD : Rel 0 D none Y) (hY : Y = ⟨[], 9, -1, false⟩) : Evt (fun k => (vdisk_Disk_Append_9x.f k D (⟨#[97]⟩ : ByteArray) ([97, 98, 99] : List Int)).bind fun r7 => if (r7.1 != 0) = true then (some false) else ((vdisk_Disk_Crash.f k r7.2 ([2] : List Int)).bind fun r9 => if (r9.1 != 0) = true then (some false) else ((vdisk_Disk_Read.f k r9.2 (⟨#[97]⟩ : ByteArray)).bind fun r11 => if (r11.2 == 0) = true then (some ((ofNums r11.1).toList == (⟨#[97, 98]⟩ : ByteArray).toList)) else (some false)))) true := by
 subst hY
 obtain ⟨p1, p2⟩ := append_rel hD nA [97, 98, 99]
 obtain ⟨p3, p4⟩ := appendL0 D nA [97, 98, 99] (lk_le hD _) (by decide)
 have hr : rAppend ⟨[], 9, -1, false⟩ nA [97, 98, 99] = (0, ⟨[⟨nA, [97, 98, 99], 0⟩], 9, -1, false⟩) := by rfl
 rw [hr] at p1 p2
 rw [p4] at p2
 obtain ⟨D', q1, q2⟩ := crashP0 p2 (by decide) [2] (by decide)
 have hc : crs [2] 0 [⟨nA, [97, 98, 99], 0⟩] = [⟨nA, [97, 98], 2⟩] := by rfl
 rw [hc] at q2
 have hrd := rd_eq q2 nA
 have : rdR ⟨[⟨nA, [97, 98], 2⟩], 9, -1, false⟩ nA = ([97, 98], 0) := by
  unfold rdR thr
  rw [show fnd nA [⟨nA, [97, 98], 2⟩] = some ⟨nA, [97, 98], 2⟩ by rw [fnd_cons, if_pos rfl]]
  simp
 rw [this] at hrd
 refine Evt.bind p3 (Evt.neg (by show ¬ ((pAppend D none nA [97, 98, 99]).1 != 0) = true; rw [p1]; decide) (Evt.bind q1 (Evt.neg (by simp) (Evt.bind (readP0 q2 nA) ?_))))
 rw [hrd]
 refine Evt.pos rfl ?_
 have e : ((ofNums [97, 98]).toList == (⟨#[97, 98]⟩ : ByteArray).toList) = true := by rw [toList_beq]; decide
 rw [e]; exact .pure _
theorem awake_ev : Evt (fun k => dossierlaw03_awake.f k) true := by
 simp only [dossierlaw03_awake.f]
 exact Evt.bind (a := (⟨[], 9, 0, (), false⟩, 0)) ⟨0, fun _ _ => rfl⟩ (Evt.neg (by decide) (awake_some (rel_new 9 (by decide)) rfl))

/-! ### the room -/
def rm (a0 : Int) : Int := IntKind.i64.wrap (Int.tmod (IntKind.u64.wrap a0) 200)
theorem rm_lt (a0 : Int) : 0 ≤ rm a0 ∧ rm a0 < 200 := by
 unfold rm
 rw [wrap_u64]
 have h : 0 ≤ a0 % 18446744073709551616 := by omega
 have e : Int.tmod (a0 % 18446744073709551616) 200 = (a0 % 18446744073709551616) % 200 := Int.tmod_eq_emod_of_nonneg h
 rw [e, wrap_i64 (by omega) (by omega)]
 omega
theorem room_loop (a0 : Int) (l : List Stp) (hl : l.length ≤ 1000000000) (hs : ∀ s ∈ l, SOk s) : ∀ suf pre, l = pre ++ suf →
  (∀ (D : VD) (Y : RD), Rel pre.length D none Y → Y.Most = rm a0 → (usum Y.L : Int) ≤ Y.Most → Evt (fun k => dossierlaw03_VdiskRoom.l0 k D.room D.used D.dead Y.Most Y.Burns Y.Off D.files Y.L (pre.length : Int) a0 l) true) ∧
  (∀ (D : VD) (p : Int) (Y : RD), Rel pre.length D (some p) Y → Y.Most = rm a0 → (usum Y.L : Int) ≤ Y.Most → Evt (fun k => dossierlaw03_VdiskRoom.l1 k D.room D.used D.dead Y.Most Y.Burns Y.Off D.files p Y.L (pre.length : Int) a0 l) true) := by
 intro suf
 induction suf with
 | nil =>
  intro pre he
  exact ⟨fun D Y _ _ _ => Evt.succ (fun k => by rw [dossierlaw03_VdiskRoom.l0]) (Evt.neg (by rw [he]; simp) awake_ev.map), fun D p Y _ _ _ => Evt.succ (fun k => by rw [dossierlaw03_VdiskRoom.l1]) (Evt.neg (by rw [he]; simp) awake_ev.map)⟩
 | cons s t ih =>
  intro pre he
  obtain ⟨ih0, ih1⟩ := ih (pre ++ [s]) (by rw [he]; simp)
  have hv : l[pre.length]? = some s := by rw [he]; simp
  have hlt : pre.length < l.length := by rw [he]; simp
  have hsm : s ∈ l := by rw [he]; simp
  have el : (pre ++ [s]).length = pre.length + 1 := by simp
  rw [el] at ih0 ih1
  have go : ∀ {F : Nat → Option (Bool × VD × RD × Option Int)} {Y : RD}, Y.Most = rm a0 → (usum Y.L : Int) ≤ Y.Most → StepTo pre.length Y F →
    Evt (fun k => (F k).bind fun r27 => optE r27.2.2.2 (if r27.1 = true then ((vdisk_Disk_Used.f k r27.2.1).bind fun r31 => if (decide (r31 > (IntKind.i64.wrap (Int.tmod (IntKind.u64.wrap a0) 200)))) = true then (some false) else (dossierlaw03_VdiskRoom.l0 k r27.2.1.room r27.2.1.used r27.2.1.dead r27.2.2.1.Most r27.2.2.1.Burns r27.2.2.1.Off r27.2.1.files r27.2.2.1.L (IntKind.i64.wrap ((pre.length : Int) + 1)) a0 l)) else (some false))
     (fun y29 => if r27.1 = true then ((vdisk_Disk_Used_17.f k r27.2.1 y29).bind fun r34 => if (decide (r34 > (IntKind.i64.wrap (Int.tmod (IntKind.u64.wrap a0) 200)))) = true then (some false) else (dossierlaw03_VdiskRoom.l1 k r27.2.1.room r27.2.1.used r27.2.1.dead r27.2.2.1.Most r27.2.2.1.Burns r27.2.2.1.Off r27.2.1.files y29 r27.2.2.1.L (IntKind.i64.wrap ((pre.length : Int) + 1)) a0 l)) else (some false))) true := by
   rintro F Y hm hu ⟨D', fu', Y', h1, h2, h3⟩
   have h4 := h3.us hu
   have h5 := h3.most
   have h6 : D'.used = usum Y'.L := h2.used
   have h7 : ¬ (D'.used > IntKind.i64.wrap (Int.tmod (IntKind.u64.wrap a0) 200)) := by
    show ¬ (D'.used > rm a0); omega
   refine Evt.bind h1 ?_
   rw [wrap_nat (by omega)]
   cases fu' with
   | none => exact Evt.pos rfl (Evt.bind (a := D'.used) (.pure _) (Evt.neg (by simpa using h7) (ih0 D' Y' h2 (h5.trans hm) (by rw [h5]; exact h4))))
   | some q => exact Evt.pos rfl (Evt.bind (a := D'.used) (.pure _) (Evt.neg (by simpa using h7) (ih1 D' q Y' h2 (h5.trans hm) (by rw [h5]; exact h4))))
  constructor
  ·intro D Y h hm hu
   refine Evt.succ (fun k => by rw [dossierlaw03_VdiskRoom.l0]) ?_
   refine Evt.pos (by simpa using hlt) (Evt.some_bind (by rw [rd_nat]; exact hv) ?_)
   have skip : Evt (fun k => dossierlaw03_VdiskRoom.l0 k D.room D.used D.dead Y.Most Y.Burns Y.Off D.files Y.L (IntKind.i64.wrap ((pre.length : Int) + 1)) a0 l) true := by
    rw [wrap_nat (by omega)]; exact ih0 D Y (h.mono (by omega)) hm hu
   by_cases h40 : (pre.length : Int) < 40
   ·refine Evt.pos (by simpa using h40) ?_
    by_cases h8 : opn s = 8
    ·exact Evt.neg (by unfold opn at h8; simpa using h8) skip
    ·exact Evt.pos (by unfold opn at h8; simpa using h8) (go hm hu (do0 h (by omega) s (hs s hsm) h8))
   ·exact Evt.neg (by simpa using h40) skip
  ·intro D p Y h hm hu
   refine Evt.succ (fun k => by rw [dossierlaw03_VdiskRoom.l1]) ?_
   refine Evt.pos (by simpa using hlt) (Evt.some_bind (by rw [rd_nat]; exact hv) ?_)
   have skip : Evt (fun k => dossierlaw03_VdiskRoom.l1 k D.room D.used D.dead Y.Most Y.Burns Y.Off D.files p Y.L (IntKind.i64.wrap ((pre.length : Int) + 1)) a0 l) true := by
    rw [wrap_nat (by omega)]; exact ih1 D p Y (h.mono (by omega)) hm hu
   by_cases h40 : (pre.length : Int) < 40
   ·refine Evt.pos (by simpa using h40) ?_
    by_cases h8 : opn s = 8
    ·exact Evt.neg (by unfold opn at h8; simpa using h8) skip
    ·exact Evt.pos (by unfold opn at h8; simpa using h8) (go hm hu (do1 h (by omega) s (hs s hsm) h8))
   ·exact Evt.neg (by simpa using h40) skip
theorem room_ev (a0 : Int) (l : List Stp) (hl : l.length ≤ 1000000000) (hs : ∀ s ∈ l, SOk s) : Evt (fun k => dossierlaw03_VdiskRoom.f k a0 l) true := by
 obtain ⟨r1, r2⟩ := rm_lt a0
 have e1 : ¬ decide (rm a0 < 0) = true := by simpa using r1
 have e2 : ¬ decide (rm a0 > 4194304) = true := by rw [decide_eq_true_eq]; omega
 unfold rm at e1 e2
 simp only [dossierlaw03_VdiskRoom.f, vdisk_New.f, dossierref03_New.f, if_neg e1, if_neg e2, Option.bind_some]
 exact Evt.neg (by decide) ((room_loop a0 l hl hs l [] rfl).1 _ _ (rel_new (rm a0) (by omega)) rfl (by show ((usum [] : Nat) : Int) ≤ rm a0; simp [usum]; omega))
theorem room_true (a0 : Int) (l : List Stp) (hl : l.length ≤ 1000000000) (hs : ∀ s ∈ l, SOk s) : ∃ k, dossierlaw03_VdiskRoom.f k a0 l = some true := (room_ev a0 l hl hs).get
end Go.Abs.GenRm
