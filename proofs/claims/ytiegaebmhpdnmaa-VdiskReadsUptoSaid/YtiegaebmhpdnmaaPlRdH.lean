import Derived.Test.YtiegaebmhpdnmaaPlRdG
set_option linter.unusedVariables false
set_option linter.unusedSimpArgs false
set_option maxRecDepth 100000
set_option maxHeartbeats 4000000
namespace Go.Abs.GenRd
open Go.Abs

/-! ### the disks are the same -/
theorem equal_suf (l : List ByteArray) (hl : l.length < 9223372036854775807) : ∀ suf pre, l = pre ++ suf → Evt (fun k => slices_Equal_string_string.l0 k (pre.length : Int) l l) true
 | [], pre, h => Evt.succ (fun k => by rw [slices_Equal_string_string.l0]) (Evt.neg (by rw [h]; simp) (.pure _))
 | g :: t, pre, h => by
  have hv : l[pre.length]? = some g := by rw [h]; simp
  have hlt : pre.length < l.length := by rw [h]; simp
  refine Evt.succ (fun k => by rw [slices_Equal_string_string.l0]) ?_
  refine Evt.pos (by simpa using hlt) (Evt.some_bind (by rw [rd_nat]; exact hv) (Evt.some_bind (by rw [rd_nat]; exact hv) (Evt.pos (by simp) ?_)))
  rw [wrap_nat (by omega)]
  have := equal_suf l hl t (pre ++ [g]) (by rw [h]; simp)
  rw [List.length_append] at this
  exact this
theorem equal_ev (l : List ByteArray) (hl : l.length < 9223372036854775807) : Evt (fun k => slices_Equal_string_string.f k l l) true := by
 simp only [slices_Equal_string_string.f]
 exact Evt.neg (by simp) (equal_suf l hl l [] rfl)
theorem bytesEq_ev (l : List Int) : Evt (fun k => bytes_Equal.f k l l) true := by
 simp only [bytes_Equal.f]
 have : ((ofNums l).toList == (ofNums l).toList) = true := by simp
 rw [this]; exact .pure _
theorem bclone_ev (b : List Int) (h : b.length ≤ 1099511627776) : Evt (fun k => slices_Clone_byte_byte.f k b) b := by
 simp only [slices_Clone_byte_byte.f]
 exact Evt.pos (by simp; omega) (.pure _)
def rdP (D : VD) (n : ByteArray) : List Int × Int := if D.dead = true then ([], 70) else if (mget n D.files).isSome = true then ((lk n D.files).b, 0) else ([], 33)
theorem readP0 {N : Nat} {D : VD} {fu : Option Int} {Y : RD} (h : Rel N D fu Y) (n : ByteArray) : Evt (fun k => vdisk_Disk_Read.f k D n) (rdP D n) := by
 simp only [vdisk_Disk_Read.f, vdisk_Disk_none.f, rdP, Option.bind_some]
 have hl := lk_le h n
 by_cases h1 : D.dead = true
 ·simp only [if_pos h1]; exact .pure _
 ·simp only [if_neg h1]
  by_cases h2 : (mget n D.files).isSome = true
  ·simp only [if_pos h2]; exact Evt.bind (bclone_ev _ hl) (.pure _)
  ·simp only [if_neg h2]; exact .pure _
theorem readP1 {N : Nat} {D : VD} {fu : Option Int} {Y : RD} (h : Rel N D fu Y) (n : ByteArray) (p : Int) : Evt (fun k => vdisk_Disk_Read_12.f k D n p) (rdP D n) := by
 simp only [vdisk_Disk_Read_12.f, vdisk_Disk_none_35.f, rdP, Option.bind_some]
 have hl := lk_le h n
 by_cases h1 : D.dead = true
 ·simp only [if_pos h1]; exact .pure _
 ·simp only [if_neg h1]
  by_cases h2 : (mget n D.files).isSome = true
  ·simp only [if_pos h2]; exact Evt.bind (bclone_ev _ hl) (.pure _)
  ·simp only [if_neg h2]; exact .pure _
def rdR (Y : RD) (n : ByteArray) : List Int × Int := if (thr Y n).2 ≠ 0 then ([], (thr Y n).2) else ((thr Y n).1.B, 0)
theorem rd_eq {N : Nat} {D : VD} {fu : Option Int} {Y : RD} (h : Rel N D fu Y) (n : ByteArray) : rdP D n = rdR Y n := by
 unfold rdP rdR thr
 have hd := h.dead
 by_cases h1 : Y.Off = true
 ·rw [if_pos (by rw [hd]; exact h1)]; simp [h1]
 ·rw [if_neg (by rw [hd]; exact h1)]
  have ha := agree_some h.ag n
  have hk := agree_lk h.ag n
  cases hq : fnd n Y.L with
  | none => rw [hq] at ha; rw [if_neg (by rw [ha]; decide)]; simp [h1]
  | some f => rw [hq] at ha hk; rw [if_pos (by rw [ha]; rfl), hk]; simp [h1, vf]
theorem same0 {N : Nat} {D : VD} {fu : Option Int} {Y : RD} (h : Rel N D fu Y) (hN : N ≤ 1000000000) : Evt (fun k => dossierplain_Same.f k D Y) true := by
 obtain ⟨n1, n2⟩ := names_eq h hN
 have hok := h.ok (by omega)
 have hl := h.len
 have hu := h.us
 simp only [dossierplain_Same.f, vdisk_Disk_Names.f, vdisk_Disk_Used.f, vdisk_Disk_Dead.f, vdisk_Disk_none.f, Option.bind_some]
 refine Evt.bind (a := Y.L.map (·.Name)) (by rw [← n2]; exact Evt.pos n1 (.pure _)) (Evt.bind (namesR_ev Y hok) (Evt.bind (equal_ev _ (by simp; omega)) ?_))
 refine Evt.pos rfl (Evt.bind (usedR_ev Y (by omega) (by omega)) (Evt.neg (by rw [h.used]; simp) (Evt.pos (by rw [h.dead]; simp) ?_)))
 have key : ∀ suf pre, Y.L = pre ++ suf → Evt (fun k => dossierplain_Same.l0 k (pre.length : Int) D Y) true := by
  intro suf
  induction suf with
  | nil => intro pre he; exact Evt.succ (fun k => by rw [dossierplain_Same.l0]) (Evt.neg (by rw [he]; simp) (.pure _))
  | cons g t ih =>
   intro pre he
   have hv : Y.L[pre.length]? = some g := by rw [he]; simp
   have hlt : pre.length < Y.L.length := by rw [he]; simp
   refine Evt.succ (fun k => by rw [dossierplain_Same.l0]) ?_
   refine Evt.pos (by simpa using hlt) (Evt.some_bind (by rw [rd_nat]; exact hv) (Evt.bind (readP0 h g.Name) (Evt.bind (readR_ev Y hok g.Name) ?_)))
   rw [show (if (thr Y g.Name).2 ≠ 0 then ([], (thr Y g.Name).2) else ((thr Y g.Name).1.B, 0)) = rdR Y g.Name from rfl, ← rd_eq h]
   refine Evt.neg (by simp) (Evt.bind (bytesEq_ev _) (Evt.pos rfl ?_))
   rw [wrap_nat (by omega)]
   have := ih (pre ++ [g]) (by rw [he]; simp)
   rw [List.length_append] at this
   exact this
 exact key Y.L [] rfl
theorem same1 {N : Nat} {D : VD} {fu : Option Int} {Y : RD} (h : Rel N D fu Y) (hN : N ≤ 1000000000) (p : Int) : Evt (fun k => dossierplain_Same_26.f k D Y p) true := by
 obtain ⟨n1, n2⟩ := names_eq h hN
 have hok := h.ok (by omega)
 have hl := h.len
 have hu := h.us
 simp only [dossierplain_Same_26.f, vdisk_Disk_Names_24.f, vdisk_Disk_Used_17.f, vdisk_Disk_Dead_23.f, vdisk_Disk_none_35.f, Option.bind_some]
 refine Evt.bind (a := Y.L.map (·.Name)) (by rw [← n2]; exact Evt.pos n1 (.pure _)) (Evt.bind (namesR_ev Y hok) (Evt.bind (equal_ev _ (by simp; omega)) ?_))
 refine Evt.pos rfl (Evt.bind (usedR_ev Y (by omega) (by omega)) (Evt.neg (by rw [h.used]; simp) (Evt.pos (by rw [h.dead]; simp) ?_)))
 have key : ∀ suf pre, Y.L = pre ++ suf → Evt (fun k => dossierplain_Same_26.l0 k (pre.length : Int) D Y p) true := by
  intro suf
  induction suf with
  | nil => intro pre he; exact Evt.succ (fun k => by rw [dossierplain_Same_26.l0]) (Evt.neg (by rw [he]; simp) (.pure _))
  | cons g t ih =>
   intro pre he
   have hv : Y.L[pre.length]? = some g := by rw [he]; simp
   have hlt : pre.length < Y.L.length := by rw [he]; simp
   refine Evt.succ (fun k => by rw [dossierplain_Same_26.l0]) ?_
   refine Evt.pos (by simpa using hlt) (Evt.some_bind (by rw [rd_nat]; exact hv) (Evt.bind (readP1 h g.Name p) (Evt.bind (readR_ev Y hok g.Name) ?_)))
   rw [show (if (thr Y g.Name).2 ≠ 0 then ([], (thr Y g.Name).2) else ((thr Y g.Name).1.B, 0)) = rdR Y g.Name from rfl, ← rd_eq h]
   refine Evt.neg (by simp) (Evt.bind (bytesEq_ev _) (Evt.pos rfl ?_))
   rw [wrap_nat (by omega)]
   have := ih (pre ++ [g]) (by rw [he]; simp)
   rw [List.length_append] at this
   exact this
 exact key Y.L [] rfl

/-! ### awake -/
theorem rel_new (room : Int) (h : 0 ≤ room ∧ room ≤ 4194304) : Rel 0 (⟨[], room, 0, (), false⟩ : VD) none (⟨[], room, -1, false⟩ : RD) :=
 ⟨by simp [Srt], ⟨by simp [keys], fun n => rfl⟩, rfl, by simp [usum], Nat.le_refl _, rfl, h, rfl, rfl, fun f hf => by simp at hf, fun f hf => by simp at hf⟩
theorem concatL_ev (x y : List Int) (hx : x.length ≤ 1099511627776) (hy : y.length ≤ 1099511627776) : Evt (fun k => slices_Concat_byte_byte_34.f k ([x, y] : List (List Int))) (x ++ y) := by
 simp only [slices_Concat_byte_byte_34.f]
 have h1 : IntKind.i64.wrap (0 + (x.length : Int)) = (x.length : Int) := by rw [wrap_i64 (by omega) (by omega)]; omega
 have h2 : IntKind.i64.wrap ((x.length : Int) + (y.length : Int)) = (x.length : Int) + (y.length : Int) := wrap_i64 (by omega) (by omega)
 have w1 : IntKind.i64.wrap (0 + 1) = 1 := by decide
 have w2 : IntKind.i64.wrap (1 + 1) = 2 := by decide
 refine Evt.succ (fun k => by rw [slices_Concat_byte_byte_34.l0]) ?_
 refine Evt.pos rfl ?_
 refine Evt.some_bind (a := x) rfl ?_
 rw [h1, w1]
 refine Evt.neg (by simp) ?_
 refine Evt.succ (fun k => by rw [slices_Concat_byte_byte_34.l0]) ?_
 refine Evt.pos rfl ?_
 refine Evt.some_bind (a := y) rfl ?_
 rw [h2, w2]
 refine Evt.neg (by simp; omega) ?_
 refine Evt.succ (fun k => by rw [slices_Concat_byte_byte_34.l0]) ?_
 refine Evt.neg (by simp) ?_
 refine Evt.bind (a := ([] : List Int)) ?_ ?_
 ·have w3 : IntKind.i64.wrap ((x.length : Int) + (y.length : Int) - 0) = (x.length : Int) + (y.length : Int) := by rw [wrap_i64 (by omega) (by omega)]; omega
  simp only [slices_Grow_byte_byte_nil0.f]
  rw [w3]
  refine Evt.neg (by simp; omega) ?_
  by_cases hz : (x.length : Int) + (y.length : Int) > 0
  ·exact Evt.pos (by simpa using hz) (Evt.pos (by rw [decide_eq_true_eq]; omega) (.pure _))
  ·exact Evt.neg (by simpa using hz) (.pure _)
 ·refine Evt.succ (fun k => by rw [slices_Concat_byte_byte_34.l1]) ?_
  refine Evt.pos rfl ?_
  refine Evt.some_bind (a := x) rfl ?_
  rw [w1]
  refine Evt.pos (by simp; omega) ?_
  refine Evt.succ (fun k => by rw [slices_Concat_byte_byte_34.l1]) ?_
  refine Evt.pos rfl ?_
  refine Evt.some_bind (a := y) rfl ?_
  rw [w2]
  refine Evt.pos (by simp; omega) ?_
  refine Evt.succ (fun k => by rw [slices_Concat_byte_byte_34.l1]) ?_
  refine Evt.neg (by simp) ?_
  simpa using Evt.pure (x ++ y)
theorem appendL0 (D : VD) (n : ByteArray) (b : List Int) (h1 : (lk n D.files).b.length ≤ 1099511627776) (h2 : b.length ≤ 1099511627776) : Evt (fun k => vdisk_Disk_Append_9x.f k D n b) (Two (pAppend D none n b)) ∧ (pAppend D none n b).2.2 = none := by
 have := tail0 (D := D) (may := nb n) (n := n) (fresh := true) (g0 := (b.length : Int)) (g := fun D1 => setD D1 n ⟨(lk n D1.files).b ++ b, (lk n D1.files).sure⟩)
  (X := fun k r => (slices_Concat_byte_byte_34.f k ([(lk_vdisk_file n D.files).b, b] : List (List Int))).bind fun r4 => (vdisk_Disk_set.f k D n (⟨r4, (lk_vdisk_file n D.files).sure⟩ : vdisk_file)).bind fun r5 => some (r, r5))
  (fun _ => Evt.bind (concatL_ev _ _ h1 h2) (Evt.bind (setP0 _ _ _) (.pure _)))
 exact ⟨by simp only [vdisk_Disk_Append_9x.f]; exact Evt.bind (named_ev n) this.1, this.2⟩
def nA : ByteArray := ⟨#[97]⟩
theorem awake_some {D : VD} {Y : RD} (hD : Rel 0 D none Y) (hY : Y = ⟨[], 9, -1, false⟩) : Evt (fun k => (vdisk_Disk_Append_9x.f k D (⟨#[97]⟩ : ByteArray) ([97, 98, 99] : List Int)).bind fun r7 => if (r7.1 != 0) = true then (some false) else ((vdisk_Disk_Crash.f k r7.2 ([2] : List Int)).bind fun r9 => if (r9.1 != 0) = true then (some false) else ((vdisk_Disk_Read.f k r9.2 (⟨#[97]⟩ : ByteArray)).bind fun r11 => if (r11.2 == 0) = true then (some ((ofNums r11.1).toList == (⟨#[97, 98]⟩ : ByteArray).toList)) else (some false)))) true := by
 subst hY
 obtain ⟨p1, p2⟩ := append_rel hD nA [97, 98, 99]
 obtain ⟨p3, p4⟩ := appendL0 D nA [97, 98, 99] (lk_le hD _) (by decide)
 have hr : rAppend ⟨[], 9, -1, false⟩ nA [97, 98, 99] = (0, ⟨[⟨nA, [97, 98, 99], 0⟩], 9, -1, false⟩) := by rfl
 rw [hr] at p1 p2
 rw [p4] at p2
 obtain ⟨D', q1, q2⟩ := crashP0 p2 (by decide) [2] (by decide)
 have hc : crs [2] 0 [⟨nA, [97, 98, 99], 0⟩] = [⟨nA, [97, 98], 2⟩] := by rfl
 rw [hc] at q2
 have hrd := rd_eq q2 nA
 have : rdR ⟨[⟨nA, [97, 98], 2⟩], 9, -1, false⟩ nA = ([97, 98], 0) := by
  unfold rdR thr
  rw [show fnd nA [⟨nA, [97, 98], 2⟩] = some ⟨nA, [97, 98], 2⟩ by rw [fnd_cons, if_pos rfl]]
  simp
 rw [this] at hrd
 refine Evt.bind p3 (Evt.neg (by show ¬ ((pAppend D none nA [97, 98, 99]).1 != 0) = true; rw [p1]; decide) (Evt.bind q1 (Evt.neg (by simp) (Evt.bind (readP0 q2 nA) ?_))))
 rw [hrd]
 refine Evt.pos rfl ?_
 have e : ((ofNums [97, 98]).toList == (⟨#[97, 98]⟩ : ByteArray).toList) = true := by rw [toList_beq]; decide
 rw [e]; exact .pure _
theorem awake_ev : Evt (fun k => dossierlaw03_awake.f k) true := by
 simp only [dossierlaw03_awake.f]
 exact Evt.bind (a := (⟨[], 9, 0, (), false⟩, 0)) ⟨0, fun _ _ => rfl⟩ (Evt.neg (by decide) (awake_some (rel_new 9 (by decide)) rfl))

/-! ### a copy goes its own way -/
theorem in0 (l : List Stp) (hl : l.length ≤ 400000000) (hs : ∀ s ∈ l, SOk s) (M : Nat) (hM : M ≤ 400000000) (D0 : VD) (Y0 : RD) (h0 : Rel M D0 none Y0) : ∀ suf pre, l = pre ++ suf →
  (∀ (D : VD) (Y : RD), Rel (M + pre.length) D none Y → Evt (fun k => dossierlaw03_VdiskReads.l2 k D.room D.used D.dead Y.Most Y.Burns Y.Off D.files Y.L (pre.length : Int) l D0.room D0.used D0.dead Y0.Most Y0.Burns Y0.Off D0.files Y0.L) true) ∧
  (∀ (D : VD) (p : Int) (Y : RD), Rel (M + pre.length) D (some p) Y → Evt (fun k => dossierlaw03_VdiskReads.l3 k D.room D.used D.dead Y.Most Y.Burns Y.Off D.files p Y.L (pre.length : Int) l D0.room D0.used D0.dead Y0.Most Y0.Burns Y0.Off D0.files Y0.L) true) := by
 intro suf
 induction suf with
 | nil =>
  intro pre he
  have e : pre.length ≤ l.length := by rw [he]; simp
  refine ⟨fun D Y h => Evt.succ (fun k => by rw [dossierlaw03_VdiskReads.l2]) ?_, fun D p Y h => Evt.succ (fun k => by rw [dossierlaw03_VdiskReads.l3]) ?_⟩
  ·exact Evt.neg (by rw [he]; simp) (Evt.bind (same0 h0 (by omega)) (Evt.pos rfl (Evt.bind (same0 h (by omega)) (Evt.pos rfl awake_ev.map))))
  ·exact Evt.neg (by rw [he]; simp) (Evt.bind (same0 h0 (by omega)) (Evt.pos rfl (Evt.bind (same1 h (by omega) p) (Evt.pos rfl awake_ev.map))))
 | cons s t ih =>
  intro pre he
  obtain ⟨ih0, ih1⟩ := ih (pre ++ [s]) (by rw [he]; simp)
  have hv : l[pre.length]? = some s := by rw [he]; simp
  have hlt : pre.length < l.length := by rw [he]; simp
  have hsm : s ∈ l := by rw [he]; simp
  have el : (pre ++ [s]).length = pre.length + 1 := by simp
  rw [el] at ih0 ih1
  have go : ∀ {F : Nat → Option (Bool × VD × RD × Option Int)}, StepTo (M + pre.length) F →
    Evt (fun k => (F k).bind fun r61 => optE r61.2.2.2 (if r61.1 = true then (dossierlaw03_VdiskReads.l2 k r61.2.1.room r61.2.1.used r61.2.1.dead r61.2.2.1.Most r61.2.2.1.Burns r61.2.2.1.Off r61.2.1.files r61.2.2.1.L (IntKind.i64.wrap ((pre.length : Int) + 1)) l D0.room D0.used D0.dead Y0.Most Y0.Burns Y0.Off D0.files Y0.L) else (some false))
     (fun y63 => if r61.1 = true then (dossierlaw03_VdiskReads.l3 k r61.2.1.room r61.2.1.used r61.2.1.dead r61.2.2.1.Most r61.2.2.1.Burns r61.2.2.1.Off r61.2.1.files y63 r61.2.2.1.L (IntKind.i64.wrap ((pre.length : Int) + 1)) l D0.room D0.used D0.dead Y0.Most Y0.Burns Y0.Off D0.files Y0.L) else (some false))) true := by
   rintro F ⟨D', fu', Y', h1, h2⟩
   refine Evt.bind h1 ?_
   rw [wrap_nat (by omega)]
   cases fu' with
   | none => exact Evt.pos rfl (ih0 D' Y' h2)
   | some q => exact Evt.pos rfl (ih1 D' q Y' h2)
  constructor
  ·intro D Y h
   refine Evt.succ (fun k => by rw [dossierlaw03_VdiskReads.l2]) ?_
   refine Evt.pos (by simpa using hlt) (Evt.some_bind (by rw [rd_nat]; exact hv) ?_)
   by_cases h20 : (pre.length : Int) < 20
   ·exact Evt.pos (by simpa using h20) (go (do0 h (by omega) s (hs s hsm)))
   ·refine Evt.neg (by simpa using h20) ?_
    rw [wrap_nat (by omega)]
    exact ih0 D Y (h.mono (by omega))
  ·intro D p Y h
   refine Evt.succ (fun k => by rw [dossierlaw03_VdiskReads.l3]) ?_
   refine Evt.pos (by simpa using hlt) (Evt.some_bind (by rw [rd_nat]; exact hv) ?_)
   by_cases h20 : (pre.length : Int) < 20
   ·exact Evt.pos (by simpa using h20) (go (do1 h (by omega) s (hs s hsm)))
   ·refine Evt.neg (by simpa using h20) ?_
    rw [wrap_nat (by omega)]
    exact ih1 D p Y (h.mono (by omega))
theorem in1 (l : List Stp) (hl : l.length ≤ 400000000) (hs : ∀ s ∈ l, SOk s) (M : Nat) (hM : M ≤ 400000000) (D0 : VD) (p0 : Int) (Y0 : RD) (h0 : Rel M D0 (some p0) Y0) : ∀ suf pre, l = pre ++ suf →
  (∀ (D : VD) (Y : RD), Rel (M + pre.length) D none Y → Evt (fun k => dossierlaw03_VdiskReads.l5 k D.room D.used D.dead Y.Most Y.Burns Y.Off D.files Y.L (pre.length : Int) l D0.room D0.used D0.dead Y0.Most Y0.Burns Y0.Off D0.files p0 Y0.L) true) ∧
  (∀ (D : VD) (p : Int) (Y : RD), Rel (M + pre.length) D (some p) Y → Evt (fun k => dossierlaw03_VdiskReads.l4 k D.room D.used D.dead Y.Most Y.Burns Y.Off D.files p Y.L (pre.length : Int) l D0.room D0.used D0.dead Y0.Most Y0.Burns Y0.Off D0.files p0 Y0.L) true) := by
 intro suf
 induction suf with
 | nil =>
  intro pre he
  have e : pre.length ≤ l.length := by rw [he]; simp
  refine ⟨fun D Y h => Evt.succ (fun k => by rw [dossierlaw03_VdiskReads.l5]) ?_, fun D p Y h => Evt.succ (fun k => by rw [dossierlaw03_VdiskReads.l4]) ?_⟩
  ·exact Evt.neg (by rw [he]; simp) (Evt.bind (same1 h0 (by omega) p0) (Evt.pos rfl (Evt.bind (same0 h (by omega)) (Evt.pos rfl awake_ev.map))))
  ·exact Evt.neg (by rw [he]; simp) (Evt.bind (same1 h0 (by omega) p0) (Evt.pos rfl (Evt.bind (same1 h (by omega) p) (Evt.pos rfl awake_ev.map))))
 | cons s t ih =>
  intro pre he
  obtain ⟨ih0, ih1⟩ := ih (pre ++ [s]) (by rw [he]; simp)
  have hv : l[pre.length]? = some s := by rw [he]; simp
  have hlt : pre.length < l.length := by rw [he]; simp
  have hsm : s ∈ l := by rw [he]; simp
  have el : (pre ++ [s]).length = pre.length + 1 := by simp
  rw [el] at ih0 ih1
  have go : ∀ {F : Nat → Option (Bool × VD × RD × Option Int)}, StepTo (M + pre.length) F →
    Evt (fun k => (F k).bind fun r61 => optE r61.2.2.2 (if r61.1 = true then (dossierlaw03_VdiskReads.l5 k r61.2.1.room r61.2.1.used r61.2.1.dead r61.2.2.1.Most r61.2.2.1.Burns r61.2.2.1.Off r61.2.1.files r61.2.2.1.L (IntKind.i64.wrap ((pre.length : Int) + 1)) l D0.room D0.used D0.dead Y0.Most Y0.Burns Y0.Off D0.files p0 Y0.L) else (some false))
     (fun y63 => if r61.1 = true then (dossierlaw03_VdiskReads.l4 k r61.2.1.room r61.2.1.used r61.2.1.dead r61.2.2.1.Most r61.2.2.1.Burns r61.2.2.1.Off r61.2.1.files y63 r61.2.2.1.L (IntKind.i64.wrap ((pre.length : Int) + 1)) l D0.room D0.used D0.dead Y0.Most Y0.Burns Y0.Off D0.files p0 Y0.L) else (some false))) true := by
   rintro F ⟨D', fu', Y', h1, h2⟩
   refine Evt.bind h1 ?_
   rw [wrap_nat (by omega)]
   cases fu' with
   | none => exact Evt.pos rfl (ih0 D' Y' h2)
   | some q => exact Evt.pos rfl (ih1 D' q Y' h2)
  constructor
  ·intro D Y h
   refine Evt.succ (fun k => by rw [dossierlaw03_VdiskReads.l5]) ?_
   refine Evt.pos (by simpa using hlt) (Evt.some_bind (by rw [rd_nat]; exact hv) ?_)
   by_cases h20 : (pre.length : Int) < 20
   ·exact Evt.pos (by simpa using h20) (go (do0 h (by omega) s (hs s hsm)))
   ·refine Evt.neg (by simpa using h20) ?_
    rw [wrap_nat (by omega)]
    exact ih0 D Y (h.mono (by omega))
  ·intro D p Y h
   refine Evt.succ (fun k => by rw [dossierlaw03_VdiskReads.l4]) ?_
   refine Evt.pos (by simpa using hlt) (Evt.some_bind (by rw [rd_nat]; exact hv) ?_)
   by_cases h20 : (pre.length : Int) < 20
   ·exact Evt.pos (by simpa using h20) (go (do1 h (by omega) s (hs s hsm)))
   ·refine Evt.neg (by simpa using h20) ?_
    rw [wrap_nat (by omega)]
    exact ih1 D p Y (h.mono (by omega))
theorem copyR_ev (Y : RD) (h : Y.L.length < 1000000000000) : Evt (fun k => dossierref03_Disk_Copy.f k Y) Y := by
 simp only [dossierref03_Disk_Copy.f]
 exact Evt.pos (by simp; omega) (.pure _)
theorem rdP_len {N : Nat} {D : VD} {fu : Option Int} {Y : RD} (h : Rel N D fu Y) (n : ByteArray) : (rdP D n).1.length < 9223372036854775807 := by
 have := lk_le h n
 unfold rdP
 split
 ·simp
 ·split
  ·simp only; omega
  ·simp
theorem reads_loop (l m : List Stp) (n : ByteArray) (hl : l.length ≤ 400000000) (hm : m.length ≤ 400000000) (hs : ∀ s ∈ l, SOk s) (ht : ∀ s ∈ m, SOk s) : ∀ suf pre, l = pre ++ suf →
  (∀ (D : VD) (Y : RD), Rel pre.length D none Y → Evt (fun k => dossierlaw03_VdiskReads.l0 k D.room D.used D.dead Y.Most Y.Burns Y.Off D.files Y.L (pre.length : Int) l m n) true) ∧
  (∀ (D : VD) (p : Int) (Y : RD), Rel pre.length D (some p) Y → Evt (fun k => dossierlaw03_VdiskReads.l1 k D.room D.used D.dead Y.Most Y.Burns Y.Off D.files p Y.L (pre.length : Int) l m n) true) := by
 intro suf
 induction suf with
 | nil =>
  intro pre he
  have e : pre.length ≤ l.length := by rw [he]; simp
  refine ⟨fun D Y h => Evt.succ (fun k => by rw [dossierlaw03_VdiskReads.l0]) ?_, fun D p Y h => Evt.succ (fun k => by rw [dossierlaw03_VdiskReads.l1]) ?_⟩
  ·have hok := h.ok (by omega)
   have hlen := h.len
   obtain ⟨r, hr⟩ := spoil_ev (rdP D n).1 (rdP_len h n)
   refine Evt.neg (by rw [he]; simp) (Evt.bind (readP0 h n) (Evt.bind (readR_ev Y hok n) ?_))
   rw [show (if (thr Y n).2 ≠ 0 then ([], (thr Y n).2) else ((thr Y n).1.B, 0)) = rdR Y n from rfl, ← rd_eq h]
   refine Evt.bind (bytesEq_ev _) (Evt.pos rfl (Evt.neg (by simp) (Evt.bind hr ?_)))
   refine Evt.bind (a := D) (.pure _) (Evt.bind (copyR_ev Y (by omega)) ?_)
   exact (in0 m hm ht pre.length (by omega) D Y h m [] rfl).1 D Y h
  ·have hok := h.ok (by omega)
   have hlen := h.len
   obtain ⟨r, hr⟩ := spoil_ev (rdP D n).1 (rdP_len h n)
   refine Evt.neg (by rw [he]; simp) (Evt.bind (readP1 h n p) (Evt.bind (readR_ev Y hok n) ?_))
   rw [show (if (thr Y n).2 ≠ 0 then ([], (thr Y n).2) else ((thr Y n).1.B, 0)) = rdR Y n from rfl, ← rd_eq h]
   refine Evt.bind (bytesEq_ev _) (Evt.pos rfl (Evt.neg (by simp) (Evt.bind hr ?_)))
   refine Evt.bind (a := (D, p)) (.pure _) (Evt.bind (copyR_ev Y (by omega)) ?_)
   exact (in1 m hm ht pre.length (by omega) D p Y h m [] rfl).2 D p Y h
 | cons s t ih =>
  intro pre he
  obtain ⟨ih0, ih1⟩ := ih (pre ++ [s]) (by rw [he]; simp)
  have hv : l[pre.length]? = some s := by rw [he]; simp
  have hlt : pre.length < l.length := by rw [he]; simp
  have hsm : s ∈ l := by rw [he]; simp
  have el : (pre ++ [s]).length = pre.length + 1 := by simp
  rw [el] at ih0 ih1
  have go : ∀ {F : Nat → Option (Bool × VD × RD × Option Int)}, StepTo pre.length F →
    Evt (fun k => (F k).bind fun r26 => optE r26.2.2.2 (if r26.1 = true then (dossierlaw03_VdiskReads.l0 k r26.2.1.room r26.2.1.used r26.2.1.dead r26.2.2.1.Most r26.2.2.1.Burns r26.2.2.1.Off r26.2.1.files r26.2.2.1.L (IntKind.i64.wrap ((pre.length : Int) + 1)) l m n) else (some false))
     (fun y28 => if r26.1 = true then (dossierlaw03_VdiskReads.l1 k r26.2.1.room r26.2.1.used r26.2.1.dead r26.2.2.1.Most r26.2.2.1.Burns r26.2.2.1.Off r26.2.1.files y28 r26.2.2.1.L (IntKind.i64.wrap ((pre.length : Int) + 1)) l m n) else (some false))) true := by
   rintro F ⟨D', fu', Y', h1, h2⟩
   refine Evt.bind h1 ?_
   rw [wrap_nat (by omega)]
   cases fu' with
   | none => exact Evt.pos rfl (ih0 D' Y' h2)
   | some q => exact Evt.pos rfl (ih1 D' q Y' h2)
  constructor
  ·intro D Y h
   refine Evt.succ (fun k => by rw [dossierlaw03_VdiskReads.l0]) ?_
   refine Evt.pos (by simpa using hlt) (Evt.some_bind (by rw [rd_nat]; exact hv) ?_)
   by_cases h20 : (pre.length : Int) < 20
   ·exact Evt.pos (by simpa using h20) (go (do0 h (by omega) s (hs s hsm)))
   ·refine Evt.neg (by simpa using h20) ?_
    rw [wrap_nat (by omega)]
    exact ih0 D Y (h.mono (by omega))
  ·intro D p Y h
   refine Evt.succ (fun k => by rw [dossierlaw03_VdiskReads.l1]) ?_
   refine Evt.pos (by simpa using hlt) (Evt.some_bind (by rw [rd_nat]; exact hv) ?_)
   by_cases h20 : (pre.length : Int) < 20
   ·exact Evt.pos (by simpa using h20) (go (do1 h (by omega) s (hs s hsm)))
   ·refine Evt.neg (by simpa using h20) ?_
    rw [wrap_nat (by omega)]
    exact ih1 D p Y (h.mono (by omega))
theorem reads_true (l m : List Stp) (n : ByteArray) (hl : l.length ≤ 400000000) (hm : m.length ≤ 400000000) (hs : ∀ s ∈ l, SOk s) (ht : ∀ s ∈ m, SOk s) : ∃ k, dossierlaw03_VdiskReads.f k l m n = some true := by
 refine Evt.get (f := fun k => dossierlaw03_VdiskReads.f k l m n) ?_
 simp only [dossierlaw03_VdiskReads.f]
 refine Evt.bind (a := (⟨[], 1000, 0, (), false⟩, 0)) ⟨0, fun _ _ => rfl⟩ (Evt.bind (a := (⟨[], 1000, -1, false⟩, 0)) ⟨0, fun _ _ => rfl⟩ (Evt.neg (by decide) ?_))
 exact (reads_loop l m n hl hm hs ht l [] rfl).1 _ _ (rel_new 1000 (by decide))
end Go.Abs.GenRd
