import Derived.Test.YtdpakmmkponfmaaPlZA
set_option linter.unusedVariables false
set_option linter.unusedSimpArgs false
set_option maxRecDepth 100000
set_option maxHeartbeats 4000000
namespace Go.Abs.GenZ
open Go.Abs

/-! ### the reference's disk -/
abbrev RD := dossierref03_Disk
def idx (n : ByteArray) : List Fl → Nat
 | [] => 0
 | g :: t => if kl g.Name n then idx n t + 1 else 0
def hit (n : ByteArray) : List Fl → Bool
 | [] => false
 | g :: t => if kl g.Name n then hit n t else decide (g.Name = n)
theorem idx_le (n : ByteArray) : ∀ L, idx n L ≤ L.length
 | [] => by simp [idx]
 | g :: t => by have := idx_le n t; rw [idx]; split <;> simp; omega
theorem idx_hit (n : ByteArray) : ∀ L, hit n L = true → ∃ f, L[idx n L]? = some f ∧ f.Name = n ∧ fnd n L = some f
 | [], h => by simp [hit] at h
 | g :: t, h => by
  rw [hit] at h
  rw [idx]
  split at h
  ·rename_i h1
   obtain ⟨f, h2, h3, h4⟩ := idx_hit n t h
   rw [if_pos h1, fnd_cons, if_neg (kl_ne h1)]
   exact ⟨f, by simpa using h2, h3, h4⟩
  ·rename_i h1
   have h2 : g.Name = n := by simpa using h
   rw [if_neg h1, fnd_cons, if_pos h2]
   exact ⟨g, rfl, h2, rfl⟩
theorem hit_fnd (n : ByteArray) : ∀ L, Srt L → hit n L = (fnd n L).isSome
 | [], _ => rfl
 | g :: t, hs => by
  have hs' := List.pairwise_cons.mp hs
  rw [hit, fnd_cons]
  split
  ·rename_i h1; rw [if_neg (kl_ne h1), hit_fnd n t hs'.2]
  ·rename_i h1
   by_cases h2 : g.Name = n
   ·simp [h2]
   ·rw [if_neg h2, fnd_none fun f hf => kl_trans (kl_tri h1 h2) (hs'.1 f hf)]; simp [h2]
theorem set_hit (f : Fl) : ∀ L, hit f.Name L = true → L.set (idx f.Name L) f = ins f L
 | [], h => by simp [hit] at h
 | g :: t, h => by
  rw [hit] at h
  rw [idx, ins]
  split at h
  ·rename_i h1; rw [if_pos h1, if_pos h1, List.set_cons_succ, set_hit f t h]
  ·rename_i h1
   have h2 : g.Name = f.Name := by simpa using h
   rw [if_neg h1, if_neg h1, if_pos h2]; rfl
theorem ins_miss (f : Fl) : ∀ L, hit f.Name L = false → L.take (idx f.Name L) ++ f :: L.drop (idx f.Name L) = ins f L
 | [], h => by simp [idx, ins]
 | g :: t, h => by
  rw [hit] at h
  rw [idx, ins]
  split at h
  ·rename_i h1; rw [if_pos h1, if_pos h1, List.take_succ_cons, List.drop_succ_cons, List.cons_append, ins_miss f t h]
  ·rename_i h1
   have h2 : ¬ g.Name = f.Name := by simpa using h
   rw [if_neg h1, if_neg h1, if_neg h2]; rfl
theorem del_hit (n : ByteArray) : ∀ L, hit n L = true → L.take (idx n L) ++ L.drop (idx n L + 1) = del n L
 | [], h => by simp [hit] at h
 | g :: t, h => by
  rw [hit] at h
  rw [idx, del]
  split at h
  ·rename_i h1; rw [if_pos h1, if_pos h1, List.take_succ_cons, List.drop_succ_cons, List.cons_append, del_hit n t h]
  ·rename_i h1; rw [if_neg h1, if_neg h1]; rfl

theorem place_suf (Y : RD) (n : ByteArray) (hL : Y.L.length < 9223372036854775807) : ∀ suf pre, Y.L = pre ++ suf → Evt (fun k => dossierref03_Disk_place.l0 k (pre.length : Int) Y n) (((pre.length + idx n suf : Nat) : Int), hit n suf)
 | [], pre, h => by
  refine Evt.succ (fun k => by rw [dossierref03_Disk_place.l0]) (Evt.neg (by rw [h]; simp) ?_)
  exact .pure _
 | g :: t, pre, h => by
  have hv : Y.L[pre.length]? = some g := by rw [h]; simp
  have hlt : pre.length < Y.L.length := by rw [h]; simp
  refine Evt.succ (fun k => by rw [dossierref03_Disk_place.l0]) (Evt.pos (by simpa using hlt) (Evt.some_bind (by rw [rd_nat]; exact hv) ?_))
  rw [less_kl, idx, hit]
  by_cases h1 : kl g.Name n
  ·rw [if_pos h1, if_pos h1]
   refine Evt.pos (by simpa using h1) ?_
   rw [wrap_nat (by omega)]
   have := place_suf Y n hL t (pre ++ [g]) (by rw [h]; simp)
   rw [List.length_append] at this
   simp only [List.length_cons, List.length_nil] at this
   rw [show pre.length + (idx n t + 1) = pre.length + (0 + 1) + idx n t by omega]
   exact this
  ·rw [if_neg h1, if_neg h1]
   refine Evt.neg (by simpa using h1) (Evt.some_bind (by rw [rd_nat]; exact hv) ?_)
   rw [beq_eq]
   exact .pure _
theorem place_ev (Y : RD) (n : ByteArray) (hL : Y.L.length < 9223372036854775807) : Evt (fun k => dossierref03_Disk_place.f k Y n) ((idx n Y.L : Int), hit n Y.L) := by
 have := place_suf Y n hL Y.L [] rfl
 simpa [dossierref03_Disk_place.f] using this
theorem sub_take {α : Type} (l : List α) (n : Nat) : sub l 0 (n : Int) = l.take n := by simp [sub]
theorem sub_drop {α : Type} (l : List α) (n : Nat) : sub l (n : Int) (l.length : Int) = l.drop n := by
 simp only [sub, Int.toNat_natCast]
 rw [List.take_of_length_le (by simp)]
theorem setR_ev (Y : RD) (f : Fl) (hL : Y.L.length < 1000000000000) : Evt (fun k => dossierref03_Disk_set_66.f k Y f) ⟨ins f Y.L, Y.Most, Y.Burns, Y.Off⟩ := by
 simp only [dossierref03_Disk_set_66.f]
 refine Evt.bind (place_ev Y f.Name (by omega)) ?_
 have hi := idx_le f.Name Y.L
 cases hh : hit f.Name Y.L with
 | true =>
  obtain ⟨g, h1, _, _⟩ := idx_hit _ _ hh
  refine Evt.pos rfl (Evt.some_bind (by rw [rd_nat]; exact h1) ?_)
  rw [Int.toNat_natCast, set_hit f _ hh]
  exact .pure _
 | false =>
  refine Evt.neg (by simp) ?_
  rw [sub_take, sub_drop]
  have e1 : (Y.L.take (idx f.Name Y.L)).length = idx f.Name Y.L := by simp; omega
  refine Evt.pos (by simp; omega) (Evt.pos (by simp; omega) (Evt.pos (by simp; omega) (Evt.pos (by simp; omega) (Evt.pos (by simp; omega) ?_))))
  rw [List.append_assoc, List.singleton_append, ins_miss f _ hh]
  exact .pure _
theorem cutR_ev (Y : RD) (n : ByteArray) (hL : Y.L.length < 1000000000000) (hh : hit n Y.L = true) : Evt (fun k => dossierref03_Disk_cut_65.f k Y n) ⟨del n Y.L, Y.Most, Y.Burns, Y.Off⟩ := by
 simp only [dossierref03_Disk_cut_65.f]
 refine Evt.bind (place_ev Y n (by omega)) ?_
 have hi := idx_le n Y.L
 obtain ⟨g, h1, _, _⟩ := idx_hit _ _ hh
 have h2 := (List.getElem?_eq_some_iff.mp h1).1
 rw [sub_take, wrap_nat (by omega), sub_drop]
 have e1 : (Y.L.take (idx n Y.L)).length = idx n Y.L := by simp; omega
 refine Evt.pos (by simp; omega) (Evt.pos (by simp; omega) (Evt.pos (by simp; omega) (Evt.pos (by simp; omega) ?_)))
 rw [del_hit n _ hh]
 exact .pure _
theorem usedR_suf (Y : RD) (hL : Y.L.length < 9223372036854775807) (hu : usum Y.L < 4611686018427387904) : ∀ suf pre a, Y.L = pre ++ suf → a + usum suf = usum Y.L → Evt (fun k => dossierref03_Disk_Used.l0 k (a : Nat) (pre.length : Int) Y) ((usum Y.L : Nat) : Int)
 | [], pre, a, h, ha => by
  refine Evt.succ (fun k => by rw [dossierref03_Disk_Used.l0]) (Evt.neg (by rw [h]; simp) ?_)
  have : a = usum Y.L := by rw [usum] at ha; exact ha
  rw [this]; exact .pure _
 | g :: t, pre, a, h, ha => by
  have hv : Y.L[pre.length]? = some g := by rw [h]; simp
  have hlt : pre.length < Y.L.length := by rw [h]; simp
  rw [usum] at ha
  refine Evt.succ (fun k => by rw [dossierref03_Disk_Used.l0]) (Evt.pos (by simpa using hlt) (Evt.some_bind (by rw [rd_nat]; exact hv) ?_))
  rw [wrap_nat (by omega), wrap_i64 (by omega) (by omega)]
  have := usedR_suf Y hL hu t (pre ++ [g]) (a + g.B.length) (by rw [h]; simp) (by omega)
  rw [List.length_append] at this
  exact this
theorem usedR_ev (Y : RD) (hL : Y.L.length < 9223372036854775807) (hu : usum Y.L < 4611686018427387904) : Evt (fun k => dossierref03_Disk_Used.f k Y) ((usum Y.L : Nat) : Int) := by
 have := usedR_suf Y hL hu Y.L [] 0 rfl (by omega)
 simpa [dossierref03_Disk_Used.f] using this
def brn (Y : RD) : Int × RD := if Y.Burns = 0 then (70, ⟨Y.L, Y.Most, Y.Burns, true⟩) else if Y.Burns > 0 then (0, ⟨Y.L, Y.Most, IntKind.i64.wrap (Y.Burns - 1), Y.Off⟩) else (0, Y)
theorem brn_ev (Y : RD) : Evt (fun k => dossierref03_Disk_burn.f k Y) (brn Y) := by
 simp only [dossierref03_Disk_burn.f, brn]
 by_cases h : Y.Burns = 0
 ·rw [if_pos h]; exact Evt.pos (by simpa using h) (.pure _)
 ·rw [if_neg h]
  refine Evt.neg (by simpa using h) ?_
  by_cases h2 : Y.Burns > 0
  ·rw [if_pos h2]; exact Evt.pos (by simpa using h2) (.pure _)
  ·rw [if_neg h2]; exact Evt.neg (by simpa using h2) (.pure _)
theorem brn_L (Y : RD) : (brn Y).2.L = Y.L ∧ (brn Y).2.Most = Y.Most := by
 unfold brn; split
 ·exact ⟨rfl, rfl⟩
 ·split <;> exact ⟨rfl, rfl⟩
def zF : Fl := ⟨(⟨#[]⟩ : ByteArray), [], 0⟩
def thr (Y : RD) (n : ByteArray) : Fl × Int := if Y.Off = true then (zF, 70) else match fnd n Y.L with | some f => (f, 0) | none => (zF, 33)
theorem thr_ev (Y : RD) (n : ByteArray) (hL : Y.L.length < 1000000000000) (hs : Srt Y.L) : Evt (fun k => dossierref03_Disk_there.f k Y n) (thr Y n) := by
 simp only [dossierref03_Disk_there.f, thr]
 by_cases h : Y.Off = true
 ·rw [if_pos h]; exact Evt.pos h (.pure _)
 ·rw [if_neg h]
  refine Evt.neg h (Evt.bind (place_ev Y n (by omega)) ?_)
  have hf := hit_fnd n Y.L hs
  cases hh : hit n Y.L with
  | true =>
   obtain ⟨g, h1, h2, h3⟩ := idx_hit _ _ hh
   rw [h3]
   exact Evt.pos rfl (Evt.some_bind (by rw [rd_nat]; exact h1) (.pure _))
  | false =>
   rw [hh] at hf
   cases hq : fnd n Y.L with
   | none => exact Evt.neg (by simp) (.pure _)
   | some g => rw [hq] at hf; cases hf
def nb (n : ByteArray) : Bool := decide (1 ≤ n.size ∧ n.size ≤ 64)
theorem namedR_ev (n : ByteArray) : Evt (fun k => dossierref03_named.f k n) (nb n) := by
 simp only [dossierref03_named.f, nb]
 by_cases h : (n.size : Int) ≥ 1
 ·refine Evt.pos (by simpa using h) ?_
  have : decide ((n.size : Int) ≤ 64) = decide (1 ≤ n.size ∧ n.size ≤ 64) := by rw [decide_eq_decide]; omega
  rw [this]; exact .pure _
 ·have : decide (1 ≤ n.size ∧ n.size ≤ 64) = false := by simp; omega
  rw [this]
  exact Evt.neg (by simpa using h) (.pure _)
theorem named_ev (n : ByteArray) : Evt (fun k => vdisk_named.f k n) (nb n) := by
 simp only [vdisk_named.f, nb]
 rw [beq_eq]
 by_cases h : n = ⟨#[]⟩
 ·subst h
  exact Evt.pos (by simp) (.pure _)
 ·refine Evt.neg (by simpa using h) ?_
  have h1 : n.size ≠ 0 := fun e => h (by cases n with | mk d => have : d = #[] := Array.eq_empty_of_size_eq_zero e; rw [this])
  have : decide ((n.size : Int) ≤ 64) = decide (1 ≤ n.size ∧ n.size ≤ 64) := by rw [decide_eq_decide]; omega
  rw [this]; exact .pure _

/-! ### the reference's calls -/
def old (Y : RD) (n : ByteArray) : Fl := (fnd n Y.L).getD ⟨n, [], 0⟩
def rAppend (Y : RD) (n : ByteArray) (b : List Int) : Int × RD :=
 if nb n = true then if Y.Off = true then (70, Y) else if 0 < b.length ∧ (b.length : Int) > Y.Most - usum Y.L then (71, Y) else
  if (brn Y).1 = 0 then (0, ⟨ins ⟨n, (old Y n).B ++ b, (old Y n).Sure⟩ Y.L, (brn Y).2.Most, (brn Y).2.Burns, (brn Y).2.Off⟩) else brn Y
 else (1, Y)
structure Ok (Y : RD) : Prop where
 srt : Srt Y.L
 len : Y.L.length < 100000000000
 us : usum Y.L ≤ 4194304
 most : 0 ≤ Y.Most ∧ Y.Most ≤ 4194304
theorem appendR_tail (Y : RD) (h : Ok Y) (n : ByteArray) (b : List Int) (hb : b.length ≤ 4611686018427) (j : Nat → Fl → List Int → Int × RD → Option (Int × RD))
  (hj : ∀ k x a r, j (k + 1) x a r = if (decide (([] : List Int).length + x.B.length ≤ 140737488355328)) = true then (if (decide (x.B.length + a.length ≤ 140737488355328)) = true then ((dossierref03_Disk_set_66.f k r.2 (⟨x.Name, x.B ++ a, x.Sure⟩ : Fl)).bind fun r16 => some (0, r16)) else none) else none) :
  Evt (fun k => (dossierref03_Disk_burn.f k Y).bind fun r7 => if (r7.1 != 0) = true then (some (r7.1, r7.2)) else ((dossierref03_Disk_place.f k r7.2 n).bind fun r9 => if r9.2 = true then ((rd r7.2.L r9.1).bind fun v11 => j k v11 b r7) else (j k (⟨n, ([] : List Int), 0⟩ : Fl) b r7)))
   (if (brn Y).1 = 0 then (0, ⟨ins ⟨n, (old Y n).B ++ b, (old Y n).Sure⟩ Y.L, (brn Y).2.Most, (brn Y).2.Burns, (brn Y).2.Off⟩) else brn Y) := by
 refine Evt.bind (brn_ev Y) ?_
 by_cases h0 : (brn Y).1 = 0
 ·rw [if_pos h0]
  refine Evt.neg (by simpa using h0) ?_
  have hl := brn_L Y
  have hlen := h.len
  refine Evt.bind (place_ev _ n (by rw [hl.1]; omega)) ?_
  rw [hl.1]
  have key : ∀ x : Fl, x.B.length ≤ 4194304 → x.Name = n → x = old Y n → Evt (fun k => j k x b (brn Y)) (0, ⟨ins ⟨n, (old Y n).B ++ b, (old Y n).Sure⟩ Y.L, (brn Y).2.Most, (brn Y).2.Burns, (brn Y).2.Off⟩) := by
   intro x hx hn he
   refine Evt.succ (fun k => hj k _ _ _) (Evt.pos (by simp; omega) (Evt.pos (by simp; omega) ?_))
   rw [← he, ← hn]
   refine Evt.bind (setR_ev (brn Y).2 ⟨x.Name, x.B ++ b, x.Sure⟩ (by rw [hl.1]; omega)) ?_
   rw [hl.1]
   exact .pure _
  have hf := hit_fnd n Y.L h.srt
  cases hh : hit n Y.L with
  | true =>
   obtain ⟨g, h1, h2, h3⟩ := idx_hit _ _ hh
   refine Evt.pos rfl (Evt.some_bind (by rw [rd_nat]; exact h1) ?_)
   exact key g (by have := mem_usum (fnd_mem h3).1; have := h.us; omega) h2 (by rw [old, h3]; rfl)
  | false =>
   rw [hh] at hf
   have hn : fnd n Y.L = none := by cases hq : fnd n Y.L with | none => rfl | some g => rw [hq] at hf; cases hf
   exact Evt.neg (by simp) (key _ (by simp) rfl (by rw [old, hn]; rfl))
 ·rw [if_neg h0]
  exact Evt.pos (by simpa using h0) (.pure _)
theorem appendR_ev (Y : RD) (h : Ok Y) (n : ByteArray) (b : List Int) (hb : b.length ≤ 4611686018427) : Evt (fun k => dossierref03_Disk_Append_36.f k Y n b) (rAppend Y n b) := by
 simp only [dossierref03_Disk_Append_36.f, rAppend]
 refine Evt.bind (namedR_ev n) ?_
 by_cases h1 : nb n = true
 ·rw [if_pos h1]
  refine Evt.pos h1 ?_
  by_cases h2 : Y.Off = true
  ·rw [if_pos h2]; exact Evt.pos h2 (.pure _)
  ·rw [if_neg h2]
   refine Evt.neg h2 ?_
   have hu := h.us
   have hm := h.most
   by_cases h3 : 0 < b.length
   ·refine Evt.pos (by rw [decide_eq_true_eq]; omega) (Evt.bind (usedR_ev Y (by have := h.len; omega) (by omega)) ?_)
    rw [wrap_i64 (by omega) (by omega)]
    by_cases h4 : (b.length : Int) > Y.Most - usum Y.L
    ·rw [if_pos ⟨h3, h4⟩]; exact Evt.pos (by simpa using h4) (.pure _)
    ·rw [if_neg fun e => h4 e.2]
     exact Evt.neg (by simpa using h4) (appendR_tail Y h n b hb _ (fun k x a r => by rw [dossierref03_Disk_Append_36.j0]))
   ·rw [if_neg fun e => h3 e.1]
    exact Evt.neg (by rw [decide_eq_true_eq]; omega) (appendR_tail Y h n b hb _ (fun k x a r => by rw [dossierref03_Disk_Append_36.j1]))
 ·rw [if_neg h1]
  exact Evt.neg h1 (.pure _)
end Go.Abs.GenZ
