import Derived.Test.YtgeieafnnlmfdaaGenKe
import Derived.Test.YtgeieafnnlmfdaaPlStr
set_option linter.unusedVariables false
set_option linter.unusedSimpArgs false
set_option maxRecDepth 100000
set_option maxHeartbeats 4000000
namespace Go.Abs.GenK
open Go.Abs
open Go
abbrev key (n : ByteArray) : List UInt8 := n.data.toList
theorem key_inj {a b : ByteArray} (h : key a = key b) : a = b := by
 cases a; cases b; simp [key] at h; subst h; rfl
theorem beq_eq (a b : ByteArray) : (a.toList == b.toList) = decide (a = b) := by
 by_cases h : a = b
 ·rw [(toList_iff _ _).mpr h]; simp [h]
 ·have : ¬ (a.toList == b.toList) = true := fun e => h ((toList_iff _ _).mp e)
  simp [h]; simpa using this
theorem sub_take {α : Type} (l : List α) (n : Nat) : sub l 0 (n : Int) = l.take n := by simp [sub]
theorem sub_drop {α : Type} (l : List α) (n : Nat) : sub l (n : Int) (l.length : Int) = l.drop n := by
 simp only [sub, Int.toNat_natCast]
 rw [List.take_of_length_le (by simp)]
def nb (n : ByteArray) : Bool := decide (1 ≤ n.size ∧ n.size ≤ 64)
theorem named_ev (n : ByteArray) : Evt (fun k => vdisk_named.f k n) (nb n) := by
 simp only [vdisk_named.f, nb]
 rw [beq_eq]
 by_cases h : n = ⟨#[]⟩
 ·subst h
  exact Evt.pos (by simp) (.pure _)
 ·refine Evt.neg (by simpa using h) ?_
  have h1 : n.size ≠ 0 := fun e => h (by cases n with | mk d => have : d = #[] := Array.eq_empty_of_size_eq_zero e; rw [this])
  have : decide ((n.size : Int) ≤ 64) = decide (1 ≤ n.size ∧ n.size ≤ 64) := by rw [decide_eq_decide]; omega
  rw [this]; exact .pure _

abbrev VD := vdisk_Disk
abbrev lk (n : ByteArray) (m : List (ByteArray × vdisk_file)) : vdisk_file := lk_vdisk_file n m
def brP (D : VD) : Option Int → Int × VD × Option Int
 | none => (0, D, none)
 | some p => if p = 0 then (70, ⟨D.files, D.room, D.used, (), true⟩, some p) else (0, D, some (IntKind.i64.wrap (p - 1)))
def chg (D : VD) (fu : Option Int) (may : Bool) (n : ByteArray) (fresh : Bool) (g : Int) : Int × VD × Option Int :=
 if may = true then if D.dead = true then (70, D, fu) else if (mget n D.files).isSome = true ∨ fresh = true then
  if g > 0 ∧ g > IntKind.i64.wrap (D.room - D.used) then (71, D, fu) else brP D fu else (33, D, fu) else (1, D, fu)
theorem chg_ev0 (D : VD) (may : Bool) (n : ByteArray) (fresh : Bool) (g : Int) : Evt (fun k => vdisk_Disk_change.f k D may n fresh g) (chg D none may n fresh g).1 ∧ (chg D none may n fresh g).2 = (D, none) := by
 simp only [vdisk_Disk_change.f, vdisk_Disk_none.f, chg, brP, Option.bind_some]
 by_cases h1 : may = true <;> by_cases h2 : D.dead = true <;> by_cases h3 : (mget n D.files).isSome = true <;> by_cases h4 : fresh = true <;> by_cases h5 : g > 0 <;> by_cases h6 : g > IntKind.i64.wrap (D.room - D.used) <;>
  simp [h1, h2, h3, h4, h5, h6, Evt.pure]
def fu1 : Option Int → Int
 | none => 0
 | some p => p
theorem chg_ev1 (D : VD) (p : Int) (may : Bool) (n : ByteArray) (fresh : Bool) (g : Int) : Evt (fun k => vdisk_Disk_change_55.f k D may n fresh g p) ((chg D (some p) may n fresh g).1, (chg D (some p) may n fresh g).2.1, fu1 (chg D (some p) may n fresh g).2.2) ∧
  (chg D (some p) may n fresh g).2.2 = some (fu1 (chg D (some p) may n fresh g).2.2) := by
 simp only [vdisk_Disk_change_55.f, vdisk_Disk_none_34.f, chg, brP, Option.bind_some]
 by_cases h1 : may = true <;> by_cases h2 : D.dead = true <;> by_cases h3 : (mget n D.files).isSome = true <;> by_cases h4 : fresh = true <;> by_cases h5 : g > 0 <;> by_cases h6 : g > IntKind.i64.wrap (D.room - D.used) <;> by_cases h7 : p = 0 <;>
  simp [h1, h2, h3, h4, h5, h6, h7, Evt.pure, fu1]

def aftP (c : Int × VD × Option Int) (g : VD → VD) : Int × VD × Option Int := if c.1 = 0 then (0, g c.2.1, c.2.2) else c
def setD (D : VD) (n : ByteArray) (f : vdisk_file) : VD := ⟨mset n f D.files, D.room, IntKind.i64.wrap (D.used + IntKind.i64.wrap ((f.b.length : Int) - ((lk n D.files).b.length : Int))), (), D.dead⟩
def cutD (D : VD) (n : ByteArray) : VD := ⟨mdel n D.files, D.room, IntKind.i64.wrap (D.used - ((lk n D.files).b.length : Int)), (), D.dead⟩
def pAppend (D : VD) (fu : Option Int) (n : ByteArray) (b : List Int) : Int × VD × Option Int := aftP (chg D fu (nb n) n true (b.length : Int)) fun D1 => setD D1 n ⟨(lk n D1.files).b ++ b, (lk n D1.files).sure⟩
def pSync (D : VD) (fu : Option Int) (n : ByteArray) : Int × VD × Option Int := aftP (chg D fu true n false 0) fun D1 => setD D1 n ⟨(lk n D1.files).b, ((lk n D1.files).b.length : Int)⟩
def mn (b : List Int) (m : Int) : Int := if (b.length : Int) < m then (b.length : Int) else m
def pTruncate (D : VD) (fu : Option Int) (n : ByteArray) (m : Int) : Int × VD × Option Int := aftP (chg D fu (decide (m ≥ 0)) n false 0) fun D1 =>
 setD D1 n ⟨sub (lk n D1.files).b 0 (mn (lk n D1.files).b m), if (lk n D1.files).sure < mn (lk n D1.files).b m then (lk n D1.files).sure else mn (lk n D1.files).b m⟩
def pRename (D : VD) (fu : Option Int) (n m : ByteArray) : Int × VD × Option Int := aftP (chg D fu (nb m) n false 0) fun D1 => if n = m then D1 else setD (cutD D1 n) m (lk n D1.files)
def pRemove (D : VD) (fu : Option Int) (n : ByteArray) : Int × VD × Option Int := aftP (chg D fu true n false 0) fun D1 => cutD D1 n
theorem concat_ev (x y : List Int) (hx : x.length ≤ 1099511627776) (hy : y.length ≤ 1099511627776) : Evt (fun k => slices_Concat_byte_byte_57.f k x y) (x ++ y) := by
 simp only [slices_Concat_byte_byte_57.f, slices_Grow_byte_byte_nil0.f]
 have h1 : IntKind.i64.wrap (0 + (x.length : Int)) = (x.length : Int) := by rw [wrap_i64 (by omega) (by omega)]; omega
 have h2 : IntKind.i64.wrap ((x.length : Int) + (y.length : Int)) = (x.length : Int) + (y.length : Int) := wrap_i64 (by omega) (by omega)
 have h3 : IntKind.i64.wrap ((x.length : Int) + (y.length : Int) - 0) = (x.length : Int) + (y.length : Int) := by rw [wrap_i64 (by omega) (by omega)]; omega
 rw [h1, h2, h3]
 refine Evt.neg (by rw [decide_eq_true_eq]; omega) (Evt.neg (by rw [decide_eq_true_eq]; omega) ?_)
 refine Evt.bind (a := ([] : List Int)) ?_ ?_
 ·refine Evt.neg (by rw [decide_eq_true_eq]; omega) ?_
  by_cases hz : (x.length : Int) + (y.length : Int) > 0
  ·exact Evt.pos (by simpa using hz) (Evt.pos (by rw [decide_eq_true_eq]; omega) (.pure _))
  ·exact Evt.neg (by simpa using hz) (.pure _)
 ·refine Evt.pos (by simp; omega) (Evt.pos (by simp; omega) ?_)
  simpa using Evt.pure (x ++ y)
theorem tail0 {D : VD} {may : Bool} {n : ByteArray} {fresh : Bool} {g0 : Int} {g : VD → VD} {X : Nat → Int → Option (Int × VD)} (hX : (chg D none may n fresh g0).1 = 0 → Evt (fun k => X k 0) (0, g D)) :
  Evt (fun k => (vdisk_Disk_change.f k D may n fresh g0).bind fun r => if (r == 0) = true then X k r else some (r, D)) ((aftP (chg D none may n fresh g0) g).1, (aftP (chg D none may n fresh g0) g).2.1) ∧ (aftP (chg D none may n fresh g0) g).2.2 = none := by
 obtain ⟨h1, h2⟩ := chg_ev0 D may n fresh g0
 unfold aftP
 by_cases h : (chg D none may n fresh g0).1 = 0
 ·rw [if_pos h]
  refine ⟨Evt.bind h1 (Evt.pos (by simpa using h) ?_), by rw [h2]⟩
  have := hX h
  rw [h, h2]; exact this
 ·rw [if_neg h]
  refine ⟨Evt.bind h1 (Evt.neg (by simpa using h) ?_), by rw [h2]⟩
  rw [h2]; exact .pure _
theorem setP0 (D : VD) (n : ByteArray) (f : vdisk_file) : Evt (fun k => vdisk_Disk_set.f k D n f) (setD D n f) := .pure _
theorem cutP0 (D : VD) (n : ByteArray) : Evt (fun k => vdisk_Disk_cut.f k D n) (cutD D n) := .pure _
def Two (p : Int × VD × Option Int) : Int × VD := (p.1, p.2.1)
theorem appendP0 (D : VD) (n : ByteArray) (b : List Int) (h1 : (lk n D.files).b.length ≤ 1099511627776) (h2 : b.length ≤ 1099511627776) : Evt (fun k => vdisk_Disk_Append.f k D n b) (Two (pAppend D none n b)) ∧ (pAppend D none n b).2.2 = none := by
 have := tail0 (D := D) (may := nb n) (n := n) (fresh := true) (g0 := (b.length : Int)) (g := fun D1 => setD D1 n ⟨(lk n D1.files).b ++ b, (lk n D1.files).sure⟩)
  (X := fun k r => (slices_Concat_byte_byte_57.f k ((lk_vdisk_file n D.files).b) b).bind fun r4 => (vdisk_Disk_set.f k D n (⟨r4, (lk_vdisk_file n D.files).sure⟩ : vdisk_file)).bind fun r5 => some (r, r5))
  (fun _ => Evt.bind (concat_ev _ _ h1 h2) (Evt.bind (setP0 _ _ _) (.pure _)))
 exact ⟨by simp only [vdisk_Disk_Append.f]; exact Evt.bind (named_ev n) this.1, this.2⟩
theorem syncP0 (D : VD) (n : ByteArray) : Evt (fun k => vdisk_Disk_Sync.f k D n) (Two (pSync D none n)) ∧ (pSync D none n).2.2 = none := by
 have := tail0 (D := D) (may := true) (n := n) (fresh := false) (g0 := 0) (g := fun D1 => setD D1 n ⟨(lk n D1.files).b, ((lk n D1.files).b.length : Int)⟩)
  (X := fun k r => (vdisk_Disk_set.f k D n (⟨(lk_vdisk_file n D.files).b, (((lk_vdisk_file n D.files).b).length : Int)⟩ : vdisk_file)).bind fun r3 => some (r, r3))
  (fun _ => Evt.bind (setP0 _ _ _) (.pure _))
 exact ⟨by simp only [vdisk_Disk_Sync.f]; exact this.1, this.2⟩
theorem renP0 (D : VD) (n m : ByteArray) : Evt (fun k => vdisk_Disk_Rename.f k D n m) (Two (pRename D none n m)) ∧ (pRename D none n m).2.2 = none := by
 have := tail0 (D := D) (may := nb m) (n := n) (fresh := false) (g0 := 0) (g := fun D1 => if n = m then D1 else setD (cutD D1 n) m (lk n D1.files))
  (X := fun k r => if (n.toList == m.toList) = true then some (r, D) else ((vdisk_Disk_cut.f k D n).bind fun r5 => (vdisk_Disk_set.f k r5 m (lk_vdisk_file n D.files)).bind fun r6 => some (r, r6)))
  (fun _ => by
   rw [beq_eq]
   by_cases h : n = m
   ·rw [if_pos h]; exact Evt.pos (by simpa using h) (.pure _)
   ·rw [if_neg h]; exact Evt.neg (by simpa using h) (Evt.bind (cutP0 _ _) (Evt.bind (setP0 _ _ _) (.pure _))))
 exact ⟨by simp only [vdisk_Disk_Rename.f]; exact Evt.bind (named_ev m) this.1, this.2⟩
theorem chg_may {D : VD} {fu : Option Int} {may : Bool} {n : ByteArray} {fresh : Bool} {g0 : Int} (h : (chg D fu may n fresh g0).1 = 0) : may = true := by
 unfold chg at h
 by_cases hm : may = true
 ·exact hm
 ·rw [if_neg hm] at h; cases h
theorem truncP0 (D : VD) (n : ByteArray) (m : Int) : Evt (fun k => vdisk_Disk_Truncate_44.f k D n m) (Two (pTruncate D none n m)) ∧ (pTruncate D none n m).2.2 = none := by
 have := tail0 (D := D) (may := decide (m ≥ 0)) (n := n) (fresh := false) (g0 := 0) (g := fun D1 => setD D1 n ⟨sub (lk n D1.files).b 0 (mn (lk n D1.files).b m), if (lk n D1.files).sure < mn (lk n D1.files).b m then (lk n D1.files).sure else mn (lk n D1.files).b m⟩)
  (X := fun k r => if (decide (0 ≤ mn (lk_vdisk_file n D.files).b m ∧ mn (lk_vdisk_file n D.files).b m ≤ (((lk_vdisk_file n D.files).b).length : Int))) = true then ((vdisk_Disk_set.f k D n (⟨sub ((lk_vdisk_file n D.files).b) 0 (mn (lk_vdisk_file n D.files).b m), (if ((lk_vdisk_file n D.files).sure) < mn (lk_vdisk_file n D.files).b m then ((lk_vdisk_file n D.files).sure) else mn (lk_vdisk_file n D.files).b m)⟩ : vdisk_file)).bind fun r4 => some (r, r4)) else none)
  (fun hc => by
   have hm : m ≥ 0 := by simpa using chg_may hc
   refine Evt.pos ?_ (Evt.bind (setP0 _ _ _) (.pure _))
   rw [decide_eq_true_eq]; unfold mn; split <;> omega)
 exact ⟨by simp only [vdisk_Disk_Truncate_44.f]; exact this.1, this.2⟩
theorem remP0 (D : VD) (n : ByteArray) : Evt (fun k => vdisk_Disk_Remove.f k D n) (Two (pRemove D none n)) ∧ (pRemove D none n).2.2 = none := by
 have := tail0 (D := D) (may := true) (n := n) (fresh := false) (g0 := 0) (g := fun D1 => cutD D1 n)
  (X := fun k r => (vdisk_Disk_cut.f k D n).bind fun r3 => some (r, r3)) (fun _ => Evt.bind (cutP0 _ _) (.pure _))
 exact ⟨by simp only [vdisk_Disk_Remove.f]; exact this.1, this.2⟩
theorem tail1 {D : VD} {p : Int} {may : Bool} {n : ByteArray} {fresh : Bool} {g0 : Int} {g : VD → VD} {X : Nat → Int × VD × Int → Option (Int × VD × Int)} (hX : (chg D (some p) may n fresh g0).1 = 0 → ∀ D1 q, Evt (fun k => X k (0, D1, q)) (0, g D1, q)) :
  Evt (fun k => (vdisk_Disk_change_55.f k D may n fresh g0 p).bind fun r => if (r.1 == 0) = true then X k r else some (r.1, r.2.1, r.2.2)) ((aftP (chg D (some p) may n fresh g0) g).1, (aftP (chg D (some p) may n fresh g0) g).2.1, fu1 (aftP (chg D (some p) may n fresh g0) g).2.2) ∧
  (aftP (chg D (some p) may n fresh g0) g).2.2 = some (fu1 (aftP (chg D (some p) may n fresh g0) g).2.2) := by
 obtain ⟨h1, h2⟩ := chg_ev1 D p may n fresh g0
 unfold aftP
 by_cases h : (chg D (some p) may n fresh g0).1 = 0
 ·rw [if_pos h]
  refine ⟨Evt.bind h1 (Evt.pos (by simpa using h) ?_), h2⟩
  rw [h]; exact hX h _ _
 ·rw [if_neg h]
  exact ⟨Evt.bind h1 (Evt.neg (by simpa using h) (.pure _)), h2⟩
theorem setP1 (D : VD) (n : ByteArray) (f : vdisk_file) (q : Int) : Evt (fun k => vdisk_Disk_set_36.f k D n f q) (setD D n f) := .pure _
theorem cutP1 (D : VD) (n : ByteArray) (q : Int) : Evt (fun k => vdisk_Disk_cut_59.f k D n q) (cutD D n) := .pure _
def Thr (p : Int × VD × Option Int) : Int × VD × Int := (p.1, p.2.1, fu1 p.2.2)
theorem chg_files (D : VD) (fu : Option Int) (may : Bool) (n : ByteArray) (fresh : Bool) (g0 : Int) : (chg D fu may n fresh g0).2.1.files = D.files := by
 unfold chg brP; split
 ·split
  ·rfl
  ·split
   ·split
    ·rfl
    ·cases fu with
     | none => rfl
     | some p => simp only; split <;> rfl
   ·rfl
 ·rfl
theorem appendP1 (D : VD) (p : Int) (n : ByteArray) (b : List Int) (h1 : (lk n D.files).b.length ≤ 1099511627776) (h2 : b.length ≤ 1099511627776) : Evt (fun k => vdisk_Disk_Append_25.f k D n b p) (Thr (pAppend D (some p) n b)) ∧ (pAppend D (some p) n b).2.2 = some (fu1 (pAppend D (some p) n b).2.2) := by
 obtain ⟨c1, c2⟩ := chg_ev1 D p (nb n) n true (b.length : Int)
 have hf := chg_files D (some p) (nb n) n true (b.length : Int)
 simp only [vdisk_Disk_Append_25.f]
 unfold pAppend aftP Thr
 by_cases h : (chg D (some p) (nb n) n true (b.length : Int)).1 = 0
 ·rw [if_pos h]
  refine ⟨Evt.bind (named_ev n) (Evt.bind c1 (Evt.pos (by simpa using h) (Evt.bind (concat_ev _ _ (by rw [hf]; exact h1) h2) (Evt.bind (setP1 _ _ _ _) ?_)))), c2⟩
  rw [h]; exact .pure _
 ·rw [if_neg h]
  exact ⟨Evt.bind (named_ev n) (Evt.bind c1 (Evt.neg (by simpa using h) (.pure _))), c2⟩
theorem syncP1 (D : VD) (p : Int) (n : ByteArray) : Evt (fun k => vdisk_Disk_Sync_27.f k D n p) (Thr (pSync D (some p) n)) ∧ (pSync D (some p) n).2.2 = some (fu1 (pSync D (some p) n).2.2) := by
 have := tail1 (D := D) (p := p) (may := true) (n := n) (fresh := false) (g0 := 0) (g := fun D1 => setD D1 n ⟨(lk n D1.files).b, ((lk n D1.files).b.length : Int)⟩)
  (X := fun k r => (vdisk_Disk_set_36.f k r.2.1 n (⟨(lk_vdisk_file n r.2.1.files).b, (((lk_vdisk_file n r.2.1.files).b).length : Int)⟩ : vdisk_file) r.2.2).bind fun r3 => some (r.1, r3, r.2.2))
  (fun _ _ _ => Evt.bind (setP1 _ _ _ _) (.pure _))
 exact ⟨by simp only [vdisk_Disk_Sync_27.f]; exact this.1, this.2⟩
theorem renP1 (D : VD) (p : Int) (n m : ByteArray) : Evt (fun k => vdisk_Disk_Rename_42.f k D n m p) (Thr (pRename D (some p) n m)) ∧ (pRename D (some p) n m).2.2 = some (fu1 (pRename D (some p) n m).2.2) := by
 have := tail1 (D := D) (p := p) (may := nb m) (n := n) (fresh := false) (g0 := 0) (g := fun D1 => if n = m then D1 else setD (cutD D1 n) m (lk n D1.files))
  (X := fun k r => if (n.toList == m.toList) = true then some (r.1, r.2.1, r.2.2) else ((vdisk_Disk_cut_59.f k r.2.1 n r.2.2).bind fun r5 => (vdisk_Disk_set_36.f k r5 m (lk_vdisk_file n r.2.1.files) r.2.2).bind fun r6 => some (r.1, r6, r.2.2)))
  (fun _ D1 q => by
   rw [beq_eq]
   by_cases h : n = m
   ·rw [if_pos h]; exact Evt.pos (by simpa using h) (.pure _)
   ·rw [if_neg h]; exact Evt.neg (by simpa using h) (Evt.bind (cutP1 _ _ _) (Evt.bind (setP1 _ _ _ _) (.pure _))))
 exact ⟨by simp only [vdisk_Disk_Rename_42.f]; exact Evt.bind (named_ev m) this.1, this.2⟩
theorem truncP1 (D : VD) (p : Int) (n : ByteArray) (m : Int) : Evt (fun k => vdisk_Disk_Truncate.f k D n m p) (Thr (pTruncate D (some p) n m)) ∧ (pTruncate D (some p) n m).2.2 = some (fu1 (pTruncate D (some p) n m).2.2) := by
 have := tail1 (D := D) (p := p) (may := decide (m ≥ 0)) (n := n) (fresh := false) (g0 := 0) (g := fun D1 => setD D1 n ⟨sub (lk n D1.files).b 0 (mn (lk n D1.files).b m), if (lk n D1.files).sure < mn (lk n D1.files).b m then (lk n D1.files).sure else mn (lk n D1.files).b m⟩)
  (X := fun k r => if (decide (0 ≤ mn (lk_vdisk_file n r.2.1.files).b m ∧ mn (lk_vdisk_file n r.2.1.files).b m ≤ (((lk_vdisk_file n r.2.1.files).b).length : Int))) = true then ((vdisk_Disk_set_36.f k r.2.1 n (⟨sub ((lk_vdisk_file n r.2.1.files).b) 0 (mn (lk_vdisk_file n r.2.1.files).b m), (if ((lk_vdisk_file n r.2.1.files).sure) < mn (lk_vdisk_file n r.2.1.files).b m then ((lk_vdisk_file n r.2.1.files).sure) else mn (lk_vdisk_file n r.2.1.files).b m)⟩ : vdisk_file) r.2.2).bind fun r4 => some (r.1, r4, r.2.2)) else none)
  (fun hc D1 q => by
   have hm : m ≥ 0 := by simpa using chg_may hc
   refine Evt.pos ?_ (Evt.bind (setP1 _ _ _ _) (.pure _))
   rw [decide_eq_true_eq]; unfold mn; split <;> omega)
 exact ⟨by simp only [vdisk_Disk_Truncate.f]; exact this.1, this.2⟩
theorem remP1 (D : VD) (p : Int) (n : ByteArray) : Evt (fun k => vdisk_Disk_Remove_31.f k D n p) (Thr (pRemove D (some p) n)) ∧ (pRemove D (some p) n).2.2 = some (fu1 (pRemove D (some p) n).2.2) := by
 have := tail1 (D := D) (p := p) (may := true) (n := n) (fresh := false) (g0 := 0) (g := fun D1 => cutD D1 n)
  (X := fun k r => (vdisk_Disk_cut_59.f k r.2.1 n r.2.2).bind fun r3 => some (r.1, r3, r.2.2)) (fun _ _ _ => Evt.bind (cutP1 _ _ _) (.pure _))
 exact ⟨by simp only [vdisk_Disk_Remove_31.f]; exact this.1, this.2⟩
end Go.Abs.GenK
