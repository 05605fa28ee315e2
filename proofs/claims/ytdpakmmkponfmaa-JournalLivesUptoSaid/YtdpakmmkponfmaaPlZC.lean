import Derived.Test.YtdpakmmkponfmaaPlZB
set_option linter.unusedVariables false
set_option linter.unusedSimpArgs false
set_option maxRecDepth 100000
set_option maxHeartbeats 4000000
namespace Go.Abs.GenZ
open Go.Abs

/-- a change of a file that is there: its answer, the disk behind it. -/
def chR (Y : RD) (n : ByteArray) : Int × RD := if (thr Y n).2 = 0 then brn Y else ((thr Y n).2, Y)
theorem chR_L (Y : RD) (n : ByteArray) : (chR Y n).2.L = Y.L ∧ (chR Y n).2.Most = Y.Most := by
 unfold chR; split
 ·exact brn_L Y
 ·exact ⟨rfl, rfl⟩
theorem chR_fnd {Y : RD} {n : ByteArray} (h : (chR Y n).1 = 0) : ∃ f, fnd n Y.L = some f ∧ thr Y n = (f, 0) := by
 unfold chR at h
 split at h
 ·rename_i h1
  unfold thr at h1 ⊢
  split at h1
  ·cases h1
  ·rename_i h2
   rw [if_neg h2]
   cases hq : fnd n Y.L with
   | none => rw [hq] at h1; cases h1
   | some f => exact ⟨f, rfl, rfl⟩
 ·rename_i h1; exact absurd h h1
theorem thr_then {Y : RD} {n : ByteArray} (hs : Ok Y) {α : Type} {G : Nat → Fl × Int → Option α} {r : α} (h : Evt (fun k => G k (thr Y n)) r) : Evt (fun k => (dossierref03_Disk_there.f k Y n).bind (G k)) r :=
 Evt.bind (thr_ev Y n (by have := hs.len; omega) hs.srt) h
/-- what stands behind it. -/
def aft (c : Int × RD) (g : RD → RD) : Int × RD := if c.1 = 0 then (0, g c.2) else c
theorem ch_tail {Y : RD} {n : ByteArray} {g : RD → RD} {J : Nat → Int → Int → Bool → List Fl → Int → Option (Int × RD)}
  (h0 : ∀ Y', Y'.L = Y.L → (∃ f, fnd n Y.L = some f ∧ thr Y n = (f, 0)) → Evt (fun k => J k Y'.Most Y'.Burns Y'.Off Y'.L 0) (0, g Y'))
  (h1 : ∀ Y' e, e ≠ 0 → Evt (fun k => J k Y'.Most Y'.Burns Y'.Off Y'.L e) (e, Y')) :
  Evt (fun k => if ((thr Y n).2 == 0) = true then ((dossierref03_Disk_burn.f k Y).bind fun r3 => J k r3.2.Most r3.2.Burns r3.2.Off r3.2.L r3.1) else J k Y.Most Y.Burns Y.Off Y.L (thr Y n).2) (aft (chR Y n) g) := by
 have hf := @chR_fnd Y n
 unfold aft
 unfold chR at hf ⊢
 by_cases h : (thr Y n).2 = 0
 ·rw [if_pos h] at hf ⊢
  refine Evt.pos (by simpa using h) (Evt.bind (brn_ev Y) ?_)
  by_cases h2 : (brn Y).1 = 0
  ·rw [if_pos h2]
   have := h0 (brn Y).2 (brn_L Y).1 (hf h2)
   rw [← h2] at this; rw [h2] at this ⊢; exact this
  ·rw [if_neg h2]
   exact h1 (brn Y).2 _ h2
 ·rw [if_neg h, if_neg h]
  exact Evt.neg (by simpa using h) (h1 Y _ h)
def rSync (Y : RD) (n : ByteArray) : Int × RD := aft (chR Y n) fun Y1 => ⟨ins ⟨n, (old Y n).B, ((old Y n).B.length : Int)⟩ Y.L, Y1.Most, Y1.Burns, Y1.Off⟩
theorem old_eq {Y : RD} {n : ByteArray} {f : Fl} (h : fnd n Y.L = some f) : old Y n = f ∧ f.Name = n := ⟨by rw [old, h]; rfl, (fnd_mem h).2⟩
theorem syncR_ev (Y : RD) (h : Ok Y) (n : ByteArray) : Evt (fun k => dossierref03_Disk_Sync_38.f k Y n) (rSync Y n) := by
 simp only [dossierref03_Disk_Sync_38.f]
 have hl := h.len
 refine thr_then h (ch_tail (J := fun k a b c d e => dossierref03_Disk_Sync_38.j0 k a b c d e (thr Y n)) ?_ ?_)
 ·rintro Y' e ⟨f, h1, h2⟩
  refine Evt.succ (fun k => by rw [dossierref03_Disk_Sync_38.j0]) (Evt.pos (by rfl) ?_)
  rw [h2]
  obtain ⟨h3, h4⟩ := old_eq h1
  refine Evt.bind (setR_ev _ _ (by show Y'.L.length < _; rw [e]; omega)) ?_
  rw [h3, ← h4, ← e]
  exact .pure _
 ·intro Y' e he
  exact Evt.succ (fun k => by rw [dossierref03_Disk_Sync_38.j0]) (Evt.neg (by simpa using he) (.pure _))
def rTruncate (Y : RD) (n : ByteArray) (m : Int) : Int × RD := if m < 0 then (1, Y) else
 aft (chR Y n) fun Y1 => ⟨ins ⟨n, (old Y n).B.take m.toNat, if (((old Y n).B.take m.toNat).length : Int) < (old Y n).Sure then (((old Y n).B.take m.toNat).length : Int) else (old Y n).Sure⟩ Y.L, Y1.Most, Y1.Burns, Y1.Off⟩
theorem sub_min {b : List Int} {m : Int} (hm : 0 ≤ m) : sub b 0 (if (b.length : Int) < m then (b.length : Int) else m) = b.take m.toNat := by
 simp only [sub]
 split
 ·simp; rw [List.take_of_length_le (by omega)]
 ·simp
theorem truncR_ev (Y : RD) (h : Ok Y) (n : ByteArray) (m : Int) : Evt (fun k => dossierref03_Disk_Truncate_32.f k Y n m) (rTruncate Y n m) := by
 simp only [dossierref03_Disk_Truncate_32.f, rTruncate]
 have hl := h.len
 by_cases hm : m < 0
 ·rw [if_pos hm]; exact Evt.pos (by simpa using hm) (.pure _)
 ·rw [if_neg hm]
  refine Evt.neg (by simpa using hm) (thr_then h (ch_tail (J := fun k a b c d e => dossierref03_Disk_Truncate_32.j0 k a b c d e m (thr Y n)) ?_ ?_))
  ·rintro Y' e ⟨f, h1, h2⟩
   refine Evt.succ (fun k => by rw [dossierref03_Disk_Truncate_32.j0]) (Evt.pos (by rfl) ?_)
   rw [h2]
   obtain ⟨h3, h4⟩ := old_eq h1
   have hb := mem_usum (fnd_mem h1).1
   have hu := h.us
   rw [sub_min (by omega)]
   refine Evt.pos ?_ (Evt.pos (by simp; omega) (Evt.bind (setR_ev _ _ (by show Y'.L.length < _; rw [e]; omega)) ?_))
   ·rw [decide_eq_true_eq]; refine ⟨by omega, ?_, ?_⟩ <;> split <;> omega
   ·rw [h3, ← h4, ← e]; exact .pure _
  ·intro Y' e he
   exact Evt.succ (fun k => by rw [dossierref03_Disk_Truncate_32.j0]) (Evt.neg (by simpa using he) (.pure _))
def rRename (Y : RD) (n m : ByteArray) : Int × RD := if nb m = true then
 aft (chR Y n) fun Y1 => ⟨ins ⟨m, (old Y n).B, (old Y n).Sure⟩ (del n Y.L), Y1.Most, Y1.Burns, Y1.Off⟩ else (1, Y)
theorem renR_ev (Y : RD) (h : Ok Y) (n m : ByteArray) : Evt (fun k => dossierref03_Disk_Rename_40.f k Y n m) (rRename Y n m) := by
 simp only [dossierref03_Disk_Rename_40.f, rRename]
 have hl := h.len
 refine Evt.bind (namedR_ev m) ?_
 by_cases hm : nb m = true
 ·rw [if_pos hm]
  refine Evt.pos hm (thr_then h (ch_tail (J := fun k a b c d e => dossierref03_Disk_Rename_40.j0 k a b c d e n m (thr Y n)) ?_ ?_))
  ·rintro Y' e ⟨f, h1, h2⟩
   refine Evt.succ (fun k => by rw [dossierref03_Disk_Rename_40.j0]) (Evt.pos (by rfl) ?_)
   rw [h2]
   obtain ⟨h3, h4⟩ := old_eq h1
   have hh : hit n Y.L = true := by rw [hit_fnd n Y.L h.srt, h1]; rfl
   refine Evt.bind (cutR_ev ⟨Y'.L, Y'.Most, Y'.Burns, Y'.Off⟩ n (by show Y'.L.length < _; rw [e]; omega) (by show hit n Y'.L = true; rw [e]; exact hh)) ?_
   have hd := del_len n Y'.L
   rw [e] at hd
   refine Evt.bind (setR_ev _ _ (by show (del n Y'.L).length < _; rw [e]; omega)) ?_
   rw [h3, ← e]; exact .pure _
  ·intro Y' e he
   exact Evt.succ (fun k => by rw [dossierref03_Disk_Rename_40.j0]) (Evt.neg (by simpa using he) (.pure _))
 ·rw [if_neg hm]; exact Evt.neg hm (.pure _)
def rRemove (Y : RD) (n : ByteArray) : Int × RD := aft (chR Y n) fun Y1 => ⟨del n Y.L, Y1.Most, Y1.Burns, Y1.Off⟩
theorem remR_ev (Y : RD) (h : Ok Y) (n : ByteArray) : Evt (fun k => dossierref03_Disk_Remove_29.f k Y n) (rRemove Y n) := by
 simp only [dossierref03_Disk_Remove_29.f, rRemove]
 have hl := h.len
 have hf := @chR_fnd Y n
 refine thr_then h ?_
 unfold aft
 unfold chR at hf ⊢
 by_cases h1 : (thr Y n).2 = 0
 ·rw [if_pos h1] at hf ⊢
  refine Evt.pos (by simpa using h1) (Evt.bind (brn_ev Y) ?_)
  by_cases h2 : (brn Y).1 = 0
  ·rw [if_pos h2]
   obtain ⟨f, h3, _⟩ := hf h2
   have e := (brn_L Y).1
   refine Evt.pos (by simpa using h2) (Evt.bind (cutR_ev (brn Y).2 n (by rw [e]; omega) (by rw [e, hit_fnd n Y.L h.srt, h3]; rfl)) ?_)
   rw [h2, e]; exact .pure _
  ·rw [if_neg h2]
   exact Evt.neg (by simpa using h2) (.pure _)
 ·rw [if_neg h1, if_neg h1]
  exact Evt.neg (by simpa using h1) (.pure _)
def rFuse (Y : RD) (m : Int) : Int × RD := if m < 0 then (1, Y) else (0, ⟨Y.L, Y.Most, m, Y.Off⟩)
theorem fuseR_ev (Y : RD) (m : Int) : Evt (fun k => dossierref03_Disk_Fuse.f k Y m) (rFuse Y m) := by
 simp only [dossierref03_Disk_Fuse.f, rFuse]
 by_cases h : m < 0
 ·rw [if_pos h]; exact Evt.pos (by simpa using h) (.pure _)
 ·rw [if_neg h]; exact Evt.neg (by simpa using h) (.pure _)
def rRoom (Y : RD) (m : Int) : Int × RD := if m < 0 then (1, Y) else if m > 4194304 then (1, Y) else (0, ⟨Y.L, m, Y.Burns, Y.Off⟩)
theorem roomR_ev (Y : RD) (m : Int) : Evt (fun k => dossierref03_Disk_Room.f k Y m) (rRoom Y m) := by
 simp only [dossierref03_Disk_Room.f, rRoom]
 by_cases h : m < 0
 ·rw [if_pos h]; exact Evt.pos (by simpa using h) (.pure _)
 ·rw [if_neg h]
  refine Evt.neg (by simpa using h) ?_
  by_cases h2 : m > 4194304
  ·rw [if_pos h2]; exact Evt.pos (by simpa using h2) (.pure _)
  ·rw [if_neg h2]; exact Evt.neg (by simpa using h2) (.pure _)
/-- how much stays. -/
def more (keeps : List Int) (k : Nat) (f : Fl) : Int := match keeps[k]? with | none => 0 | some v => max 0 (min v ((f.B.length : Int) - f.Sure))
def crF (keeps : List Int) (k : Nat) (f : Fl) : Fl := ⟨f.Name, f.B.take (f.Sure + more keeps k f).toNat, f.Sure + more keeps k f⟩
def crs (keeps : List Int) : Nat → List Fl → List Fl
 | _, [] => []
 | k, f :: t => crF keeps k f :: crs keeps (k + 1) t
def Sur (L : List Fl) : Prop := ∀ f ∈ L, 0 ≤ f.Sure ∧ f.Sure ≤ f.B.length
theorem more_le (keeps : List Int) (k : Nat) (f : Fl) (h : 0 ≤ f.Sure ∧ f.Sure ≤ f.B.length) : 0 ≤ more keeps k f ∧ f.Sure + more keeps k f ≤ f.B.length := by
 unfold more
 split
 ·omega
 ·constructor <;> omega
theorem crashR_suf (Y : RD) (h : Ok Y) (keeps : List Int) (hk : keeps.length < 9223372036854775807) (hs : Sur Y.L) : ∀ suf pre out, Y.L = pre ++ suf → out.length = pre.length →
  Evt (fun k => dossierref03_Disk_Crash_44.l0 k out (pre.length : Int) Y keeps) ⟨out ++ crs keeps pre.length suf, Y.Most, -1, false⟩
 | [], pre, out, he, ho => by
  refine Evt.succ (fun k => by rw [dossierref03_Disk_Crash_44.l0]) (Evt.neg (by rw [he]; simp) ?_)
  rw [crs, List.append_nil]; exact .pure _
 | g :: t, pre, out, he, ho => by
  have hl := h.len
  have hu := h.us
  have hv : Y.L[pre.length]? = some g := by rw [he]; simp
  have hlt : pre.length < Y.L.length := by rw [he]; simp
  have hg : g ∈ Y.L := List.mem_of_getElem? hv
  have hgb := mem_usum hg
  obtain ⟨s1, s2⟩ := hs g hg
  obtain ⟨m1, m2⟩ := more_le keeps pre.length g ⟨s1, s2⟩
  refine Evt.succ (fun k => by rw [dossierref03_Disk_Crash_44.l0]) (Evt.pos (by simpa using hlt) (Evt.some_bind (by rw [rd_nat]; exact hv) ?_))
  have tail : Evt (fun k => dossierref03_Disk_Crash_44.j1 k (more keeps pre.length g) Y keeps out (pre.length : Int) g) ⟨out ++ crs keeps pre.length (g :: t), Y.Most, -1, false⟩ := by
   refine Evt.succ (fun k => by rw [dossierref03_Disk_Crash_44.j1]) ?_
   rw [wrap_i64 (by omega) (by omega)]
   have e1 : sub g.B 0 (g.Sure + more keeps pre.length g) = g.B.take (g.Sure + more keeps pre.length g).toNat := by simp [sub]
   have e2 : ((g.B.take (g.Sure + more keeps pre.length g).toNat).length : Int) = g.Sure + more keeps pre.length g := by simp; omega
   rw [e1, e2]
   refine Evt.pos (by rw [decide_eq_true_eq]; omega) (Evt.pos (by simp; omega) (Evt.pos (by simp; omega) ?_))
   rw [wrap_nat (by omega)]
   have := crashR_suf Y h keeps hk hs t (pre ++ [g]) (out ++ [crF keeps pre.length g]) (by rw [he]; simp) (by simp [ho])
   rw [List.length_append] at this
   simp only [List.length_cons, List.length_nil, Nat.zero_add, List.append_assoc, List.singleton_append] at this
   rw [crs]
   exact this
  by_cases hc : pre.length < keeps.length
  ·refine Evt.pos (by simpa using hc) (Evt.some_bind (rd_lt hc) ?_)
   have e : (if (if (IntKind.i64.wrap ((g.B.length : Int) - g.Sure)) < keeps[pre.length] then (IntKind.i64.wrap ((g.B.length : Int) - g.Sure)) else keeps[pre.length]) > 0 then (if (IntKind.i64.wrap ((g.B.length : Int) - g.Sure)) < keeps[pre.length] then (IntKind.i64.wrap ((g.B.length : Int) - g.Sure)) else keeps[pre.length]) else 0) = more keeps pre.length g := by
    rw [wrap_i64 (by omega) (by omega), more, List.getElem?_eq_getElem hc]
    show _ = max 0 (min keeps[pre.length] ((g.B.length : Int) - g.Sure))
    omega
   rw [e]; exact tail
  ·have e : more keeps pre.length g = 0 := by rw [more, List.getElem?_eq_none (by omega)]
   rw [e] at tail
   exact Evt.neg (by simpa using hc) tail
theorem crashR_ev (Y : RD) (h : Ok Y) (keeps : List Int) (hk : keeps.length < 9223372036854775807) (hs : Sur Y.L) : Evt (fun k => dossierref03_Disk_Crash_44.f k Y keeps) ⟨crs keeps 0 Y.L, Y.Most, -1, false⟩ := by
 have := crashR_suf Y h keeps hk hs Y.L [] [] rfl rfl
 simpa [dossierref03_Disk_Crash_44.f] using this
theorem namesR_suf (Y : RD) (h : Ok Y) : ∀ suf pre, Y.L = pre ++ suf → Evt (fun k => dossierref03_Disk_Names.l0 k (pre.map (·.Name)) (pre.length : Int) Y) (Y.L.map (·.Name))
 | [], pre, he => by
  refine Evt.succ (fun k => by rw [dossierref03_Disk_Names.l0]) (Evt.neg (by rw [he]; simp) ?_)
  rw [he]; simp only [List.append_nil]; exact .pure _
 | g :: t, pre, he => by
  have hl := h.len
  have hv : Y.L[pre.length]? = some g := by rw [he]; simp
  have hlt : pre.length < Y.L.length := by rw [he]; simp
  refine Evt.succ (fun k => by rw [dossierref03_Disk_Names.l0]) ?_
  refine Evt.pos (by simpa using hlt) ?_
  refine Evt.some_bind (by rw [rd_nat]; exact hv) ?_
  refine Evt.pos (by simp; omega) ?_
  rw [wrap_nat (by omega)]
  have := namesR_suf Y h t (pre ++ [g]) (by rw [he]; simp)
  simpa using this
theorem namesR_ev (Y : RD) (h : Ok Y) : Evt (fun k => dossierref03_Disk_Names.f k Y) (Y.L.map (·.Name)) := namesR_suf Y h Y.L [] rfl
theorem readR_ev (Y : RD) (h : Ok Y) (n : ByteArray) : Evt (fun k => dossierref03_Disk_Read.f k Y n) (if (thr Y n).2 ≠ 0 then ([], (thr Y n).2) else ((thr Y n).1.B, 0)) := by
 simp only [dossierref03_Disk_Read.f]
 refine thr_then h ?_
 by_cases h1 : (thr Y n).2 = 0
 ·rw [if_neg (fun e => e h1 : ¬ (thr Y n).2 ≠ 0)]
  refine Evt.neg (by simpa using h1) (Evt.pos ?_ (.pure _))
  have : (thr Y n).1.B.length ≤ 4194304 := by
   unfold thr at h1 ⊢
   split
   ·simp [zF]
   ·cases hq : fnd n Y.L with
    | none => simp [zF]
    | some f => have := mem_usum (fnd_mem hq).1; have := h.us; simp; omega
  simp; omega
 ·rw [if_pos h1]
  exact Evt.pos (by simpa using h1) (.pure _)
end Go.Abs.GenZ
