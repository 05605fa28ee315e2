import Derived.Test.YtdpakmmkponfmaaPlZC
set_option linter.unusedVariables false
set_option linter.unusedSimpArgs false
set_option maxRecDepth 100000
set_option maxHeartbeats 4000000
namespace Go.Abs.GenZ
open Go.Abs

/-! ### the program's disk beside the reference's -/
abbrev VD := vdisk_Disk
abbrev lk (n : ByteArray) (m : List (ByteArray × vdisk_file)) : vdisk_file := lk_vdisk_file n m
def vf (f : Fl) : vdisk_file := ⟨f.B, f.Sure⟩
def Agree (m : List (ByteArray × vdisk_file)) (L : List Fl) : Prop := (keys m).Nodup ∧ ∀ n, mget n m = (fnd n L).map vf
theorem agree_lk {m : List (ByteArray × vdisk_file)} {L : List Fl} (h : Agree m L) (n : ByteArray) : lk n m = ((fnd n L).map vf).getD ⟨[], 0⟩ := by
 show (mget n m).getD ⟨[], 0⟩ = _
 rw [h.2]
theorem agree_ins {m : List (ByteArray × vdisk_file)} {L : List Fl} (h : Agree m L) (f : Fl) : Agree (mset f.Name (vf f) m) (ins f L) := by
 refine ⟨(keys_mset _ _ m).2 h.1, fun n => ?_⟩
 rw [mget_mset, fnd_ins]
 by_cases hn : n = f.Name
 ·rw [if_pos hn, if_pos hn]; rfl
 ·rw [if_neg hn, if_neg hn]; exact h.2 n
theorem agree_del {m : List (ByteArray × vdisk_file)} {L : List Fl} (h : Agree m L) (hs : Srt L) {n : ByteArray} (hf : (fnd n L).isSome = true) : Agree (mdel n m) (del n L) := by
 obtain ⟨h1, h2, h3⟩ := keys_mdel n m h.1
 refine ⟨h2, fun q => ?_⟩
 rw [h3, fnd_del q n L hs hf]
 by_cases hn : q = n
 ·rw [if_pos hn, if_pos hn]; rfl
 ·rw [if_neg hn, if_neg hn]; exact h.2 q
theorem fnd_app (n : ByteArray) (a b : List Fl) : fnd n (a ++ b) = (fnd n a).or (fnd n b) := by simp [fnd, List.find?_append]
theorem fnd_notin {n : ByteArray} {L : List Fl} (h : ∀ f ∈ L, f.Name ≠ n) : fnd n L = none := by
 unfold fnd; rw [List.find?_eq_none]; intro f hf; simpa using h f hf
theorem agree_mid {m : List (ByteArray × vdisk_file)} {a b : List Fl} {g g' : Fl} (h : Agree m (a ++ g :: b)) (hn : g'.Name = g.Name) (ha : ∀ f ∈ a, f.Name ≠ g.Name) : Agree (mset g.Name (vf g') m) (a ++ g' :: b) := by
 refine ⟨(keys_mset _ _ m).2 h.1, fun n => ?_⟩
 rw [mget_mset, fnd_app, fnd_cons, hn]
 by_cases hq : n = g.Name
 ·subst hq
  rw [if_pos rfl, if_pos rfl, fnd_notin ha]; rfl
 ·rw [if_neg hq, if_neg fun e => hq e.symm, h.2 n, fnd_app, fnd_cons, if_neg fun e => hq e.symm]

def FuR : Option Int → Int → Prop
 | none, b => b = -1
 | some p, b => b = p ∧ 0 ≤ p ∧ p ≤ 9223372036854775807
structure Rel (N : Nat) (D : VD) (Y : RD) : Prop where
 srt : Srt Y.L
 ag : Agree D.files Y.L
 used : D.used = usum Y.L
 us : usum Y.L ≤ 4194304
 len : Y.L.length ≤ N
 room : D.room = Y.Most
 most : 0 ≤ Y.Most ∧ Y.Most ≤ 4194304
 dead : D.dead = Y.Off
 fuse : FuR D.fuse Y.Burns
 sur : Sur Y.L
 nm : ∀ f ∈ Y.L, f.Name.size ≤ 64
theorem Rel.ok {N : Nat} {D : VD} {Y : RD} (h : Rel N D Y) (hN : N < 100000000000) : Ok Y := ⟨h.srt, by have := h.len; omega, h.us, h.most⟩
theorem Rel.mono {N M : Nat} {D : VD} {Y : RD} (h : Rel N D Y) (hN : N ≤ M) : Rel M D Y := { h with len := by have := h.len; omega }

/-! ### the program's calls, of both kinds of disk -/
def brP (D : VD) : Int × VD := if D.fuse.isSome = true then (if D.fuse.getD default = 0 then (70, ⟨D.files, D.room, D.used, some (D.fuse.getD default), true⟩) else (0, ⟨D.files, D.room, D.used, some (IntKind.i64.wrap (D.fuse.getD default - 1)), D.dead⟩)) else (0, D)
theorem brP_some {D : VD} {p : Int} (h : D.fuse = some p) : brP D = if p = 0 then (70, ⟨D.files, D.room, D.used, some p, true⟩) else (0, ⟨D.files, D.room, D.used, some (IntKind.i64.wrap (p - 1)), D.dead⟩) := by unfold brP; rw [h]; rfl
theorem brP_none {D : VD} (h : D.fuse = none) : brP D = (0, D) := by unfold brP; rw [h]; rfl
def chg (D : VD) (may : Bool) (n : ByteArray) (fresh : Bool) (g : Int) : Int × VD :=
 if may = true then if D.dead = true then (70, D) else if (mget n D.files).isSome = true ∨ fresh = true then
  if g > 0 ∧ g > IntKind.i64.wrap (D.room - D.used) then (71, D) else brP D else (33, D) else (1, D)
theorem chg_ev (D : VD) (may : Bool) (n : ByteArray) (fresh : Bool) (g : Int) : Evt (fun k => vdisk_Disk_change.f k D may n fresh g) (chg D may n fresh g) := by
 simp only [vdisk_Disk_change.f, vdisk_Disk_none.f, chg, brP, Option.bind_some]
 generalize D.fuse.getD default = q
 by_cases h1 : may = true <;> by_cases h2 : D.dead = true <;> by_cases h3 : (mget n D.files).isSome = true <;> by_cases h4 : fresh = true <;> by_cases h5 : g > 0 <;> by_cases h6 : g > IntKind.i64.wrap (D.room - D.used) <;> by_cases h7 : D.fuse.isSome = true <;> by_cases h8 : q = 0 <;>
  simp [h1, h2, h3, h4, h5, h6, h7, h8, Evt.pure]
/-! ### burning, and the change, side by side -/
theorem brn_rel {N : Nat} {D : VD} {Y : RD} (h : Rel N D Y) : (brP D).1 = (brn Y).1 ∧ Rel N (brP D).2 (brn Y).2 ∧ (brP D).2.files = D.files ∧ (brP D).2.used = D.used := by
 have hf := h.fuse
 cases hu : D.fuse with
 | none =>
  rw [hu] at hf
  rw [brP_none hu]
  have e : Y.Burns = -1 := hf
  have : brn Y = (0, Y) := by unfold brn; rw [if_neg (by omega), if_neg (by omega)]
  rw [this]; exact ⟨rfl, h, rfl, rfl⟩
 | some p =>
  rw [hu] at hf
  obtain ⟨e, e1, e2⟩ : Y.Burns = p ∧ 0 ≤ p ∧ p ≤ 9223372036854775807 := hf
  rw [brP_some hu]
  unfold brn
  by_cases hp : p = 0
  ·simp only [if_pos hp, if_pos (show Y.Burns = 0 by omega)]
   exact ⟨by first | rfl | trivial, { h with dead := rfl, fuse := ⟨e, e1, e2⟩ }, by first | rfl | trivial, by first | rfl | trivial⟩
  ·simp only [if_neg hp, if_neg (show ¬ Y.Burns = 0 by omega), if_pos (show Y.Burns > 0 by omega)]
   rw [e]
   exact ⟨by first | rfl | trivial, { h with fuse := ⟨rfl, by rw [wrap_i64 (by omega) (by omega)]; omega, by rw [wrap_i64 (by omega) (by omega)]; omega⟩ }, by first | rfl | trivial, by first | rfl | trivial⟩
theorem agree_some {m : List (ByteArray × vdisk_file)} {L : List Fl} (h : Agree m L) (n : ByteArray) : (mget n m).isSome = (fnd n L).isSome := by rw [h.2]; cases fnd n L <;> rfl
theorem ch_rel {N : Nat} {D : VD} {Y : RD} (h : Rel N D Y) (n : ByteArray) :
  (chg D true n false 0).1 = (chR Y n).1 ∧ Rel N (chg D true n false 0).2 (chR Y n).2 ∧ (chg D true n false 0).2.files = D.files ∧ (chg D true n false 0).2.used = D.used := by
 unfold chg chR thr
 rw [if_pos rfl]
 have hd := h.dead
 by_cases h1 : Y.Off = true
 ·rw [if_pos h1, if_pos (by rw [hd]; exact h1), if_neg (by decide)]; exact ⟨rfl, h, rfl, rfl⟩
 ·rw [if_neg h1, if_neg (by rw [hd]; exact h1)]
  have ha := agree_some h.ag n
  cases hq : fnd n Y.L with
  | none =>
   rw [hq] at ha
   rw [if_neg (by rw [ha]; decide)]
   simp only
   rw [if_neg (by decide)]; exact ⟨by first | rfl | trivial, h, by first | rfl | trivial, by first | rfl | trivial⟩
  | some f =>
   rw [hq] at ha
   rw [if_pos (by rw [ha]; exact .inl rfl), if_neg (by omega)]
   simp only
   exact brn_rel h

/-- what stands behind it. -/
def aftP (c : Int × VD) (g : VD → VD) : Int × VD := if c.1 = 0 then (0, g c.2) else c
theorem aft_rel {N : Nat} {c : Int × VD} {d : Int × RD} {g : VD → VD} {g' : RD → RD} (h0 : c.1 = d.1) (h1 : Rel N c.2 d.2) (h2 : d.1 = 0 → Rel (N + 1) (g c.2) (g' d.2)) :
  (aftP c g).1 = (aft d g').1 ∧ Rel (N + 1) (aftP c g).2 (aft d g').2 := by
 unfold aftP aft
 by_cases h : d.1 = 0
 ·rw [if_pos h, if_pos (h0.trans h)]; exact ⟨rfl, h2 h⟩
 ·rw [if_neg h, if_neg (by rw [h0]; exact h)]; exact ⟨h0, h1.mono (by omega)⟩
def setD (D : VD) (n : ByteArray) (f : vdisk_file) : VD := ⟨mset n f D.files, D.room, IntKind.i64.wrap (D.used + IntKind.i64.wrap ((f.b.length : Int) - ((lk n D.files).b.length : Int))), D.fuse, D.dead⟩
def cutD (D : VD) (n : ByteArray) : VD := ⟨mdel n D.files, D.room, IntKind.i64.wrap (D.used - ((lk n D.files).b.length : Int)), D.fuse, D.dead⟩
theorem lk_len {m : List (ByteArray × vdisk_file)} {L : List Fl} (h : Agree m L) (n : ByteArray) : (lk n m).b.length = blen (fnd n L) := by
 rw [agree_lk h]; cases fnd n L <;> rfl
theorem set_rel {N : Nat} {D : VD} {Y : RD} (h : Rel N D Y) (f : Fl) (h1 : usum Y.L + f.B.length ≤ 4194304 + blen (fnd f.Name Y.L)) (h2 : 0 ≤ f.Sure ∧ f.Sure ≤ f.B.length) (h3 : f.Name.size ≤ 64) :
  Rel (N + 1) (setD D f.Name (vf f)) ⟨ins f Y.L, Y.Most, Y.Burns, Y.Off⟩ := by
 have hu := usum_ins f Y.L h.srt
 have hb := blen_le (n := f.Name) Y.L
 have hus := h.us
 have hl := ins_len f Y.L
 have hlen := h.len
 refine ⟨ins_srt f _ h.srt, agree_ins h.ag f, ?_, ?_, ?_, h.room, h.most, h.dead, h.fuse, ?_, ?_⟩
 ·show IntKind.i64.wrap (D.used + IntKind.i64.wrap ((f.B.length : Int) - ((lk f.Name D.files).b.length : Int))) = _
  rw [lk_len h.ag, h.used, wrap_i64 (n := (f.B.length : Int) - _) (by omega) (by omega), wrap_i64 (by omega) (by omega)]
  show _ = ((usum (ins f Y.L) : Nat) : Int)
  omega
 ·show usum (ins f Y.L) ≤ _; omega
 ·show (ins f Y.L).length ≤ _; omega
 ·intro g hg
  rcases ins_mem f _ g hg with rfl | hg
  ·exact h2
  ·exact h.sur g hg
 ·intro g hg
  rcases ins_mem f _ g hg with rfl | hg
  ·exact h3
  ·exact h.nm g hg
theorem cut_rel {N : Nat} {D : VD} {Y : RD} (h : Rel N D Y) {n : ByteArray} (hf : (fnd n Y.L).isSome = true) : Rel N (cutD D n) ⟨del n Y.L, Y.Most, Y.Burns, Y.Off⟩ := by
 have hu := usum_del n Y.L h.srt hf
 have hus := h.us
 have hl := del_len n Y.L
 have hlen := h.len
 refine ⟨del_srt n _ h.srt, agree_del h.ag h.srt hf, ?_, ?_, ?_, h.room, h.most, h.dead, h.fuse, fun g hg => h.sur g (del_mem n _ g hg), fun g hg => h.nm g (del_mem n _ g hg)⟩
 ·show IntKind.i64.wrap (D.used - ((lk n D.files).b.length : Int)) = _
  rw [lk_len h.ag, h.used, wrap_i64 (by omega) (by omega)]
  show _ = ((usum (del n Y.L) : Nat) : Int)
  omega
 ·show usum (del n Y.L) ≤ _; omega
 ·show (del n Y.L).length ≤ _; omega
theorem ins_id : ∀ (L : List Fl) (f : Fl), Srt L → fnd f.Name L = some f → ins f L = L
 | [], f, _, h => by simp [fnd] at h
 | g :: t, f, hs, h => by
  have hs' := List.pairwise_cons.mp hs
  rw [fnd_cons] at h
  rw [ins]
  split at h
  ·rename_i h1
   have h2 : g = f := Option.some.inj h
   subst h2
   rw [if_neg (kl_irrefl _), if_pos rfl]
  ·rename_i h1
   rw [if_pos (hs'.1 f (fnd_mem h).1 |> fun e => e), ins_id t f hs'.2 h]
theorem del_ins : ∀ (L : List Fl) (f : Fl), Srt L → fnd f.Name L = some f → ins f (del f.Name L) = L
 | [], f, _, h => by simp [fnd] at h
 | g :: t, f, hs, h => by
  have hs' := List.pairwise_cons.mp hs
  rw [fnd_cons] at h
  rw [del]
  split at h
  ·rename_i h1
   have h2 : g = f := Option.some.inj h
   subst h2
   rw [if_neg (kl_irrefl _)]
   cases t with
   | nil => rfl
   | cons x t =>
    have h3 := hs'.1 x (by simp)
    rw [ins, if_neg (fun e => kl_irrefl _ (kl_trans e h3)), if_neg (fun e => kl_ne h3 e.symm)]
  ·rename_i h1
   have h3 := hs'.1 f (fnd_mem h).1
   rw [if_pos h3, ins, if_pos h3, del_ins t f hs'.2 h]

/-! ### the calls, side by side -/
def pAppend (D : VD) (n : ByteArray) (b : List Int) : Int × VD := aftP (chg D (nb n) n true (b.length : Int)) fun D1 => setD D1 n ⟨(lk n D1.files).b ++ b, (lk n D1.files).sure⟩
theorem append_rel {N : Nat} {D : VD} {Y : RD} (h : Rel N D Y) (n : ByteArray) (b : List Int) :
  (pAppend D n b).1 = (rAppend Y n b).1 ∧ Rel (N + 1) (pAppend D n b).2 (rAppend Y n b).2 := by
 unfold pAppend rAppend
 by_cases h1 : nb n = true
 ·rw [if_pos h1]
  unfold chg
  rw [if_pos h1]
  have hd := h.dead
  by_cases h2 : Y.Off = true
  ·rw [if_pos h2, if_pos (by rw [hd]; exact h2)]
   unfold aftP; rw [if_neg (by simp)]; exact ⟨rfl, h.mono (by omega)⟩
  ·rw [if_neg h2, if_neg (by rw [hd]; exact h2), if_pos (Or.inr rfl)]
   have hus := h.us
   have hm := h.most
   have e : IntKind.i64.wrap (D.room - D.used) = Y.Most - usum Y.L := by rw [h.room, h.used, wrap_i64 (by omega) (by omega)]
   rw [e]
   by_cases h3 : 0 < b.length ∧ (b.length : Int) > Y.Most - usum Y.L
   ·rw [if_pos h3, if_pos ⟨by omega, h3.2⟩]
    unfold aftP; rw [if_neg (by simp)]; exact ⟨rfl, h.mono (by omega)⟩
   ·rw [if_neg h3, if_neg fun e => h3 ⟨by omega, e.2⟩]
    obtain ⟨q1, q2, q3, q4⟩ := brn_rel h
    have hL := brn_L Y
    have := aft_rel (g := fun D1 => setD D1 n ⟨(lk n D1.files).b ++ b, (lk n D1.files).sure⟩) (g' := fun Y1 => ⟨ins ⟨n, (old Y n).B ++ b, (old Y n).Sure⟩ Y.L, Y1.Most, Y1.Burns, Y1.Off⟩) q1 q2 (fun h0 => by
     have h4 : lk n (brP D).2.files = vf ⟨n, (old Y n).B, (old Y n).Sure⟩ := by
      rw [q3, agree_lk h.ag, old]
      cases hq : fnd n Y.L with
      | none => rfl
      | some f => rfl
     have h5 : blen (fnd n Y.L) = (old Y n).B.length := by rw [old]; cases fnd n Y.L <;> rfl
     rw [h4]
     have h6 : 0 ≤ (old Y n).Sure ∧ (old Y n).Sure ≤ (old Y n).B.length := by
      rw [old]
      cases hq : fnd n Y.L with
      | none => simp
      | some f => exact h.sur f (fnd_mem hq).1
     have h7 : n.size ≤ 64 := by unfold nb at h1; simp at h1; omega
     have := set_rel q2 ⟨n, (old Y n).B ++ b, (old Y n).Sure⟩ (by
      show usum (brn Y).2.L + ((old Y n).B ++ b).length ≤ 4194304 + blen (fnd n (brn Y).2.L)
      rw [hL.1, h5, List.length_append]
      have : usum Y.L + b.length ≤ 4194304 := by
       by_cases hb : 0 < b.length
       ·have := fun e => h3 ⟨hb, e⟩; omega
       ·omega
      omega) (by simp only [List.length_append]; omega) h7
     rw [hL.1] at this
     exact this)
    unfold aft at this
    exact this
 ·rw [if_neg h1]
  unfold chg aftP
  rw [if_neg h1, if_neg (by simp)]; exact ⟨rfl, h.mono (by omega)⟩
theorem fd_old {Y : RD} {n : ByteArray} (h : (chR Y n).1 = 0) : fnd n Y.L = some (old Y n) ∧ (old Y n).Name = n ∧ old Y n ∈ Y.L := by
 obtain ⟨f, h1, _⟩ := chR_fnd h
 obtain ⟨h2, h3⟩ := old_eq h1
 rw [h2]; exact ⟨h1, h3, (fnd_mem h1).1⟩
def pSync (D : VD) (n : ByteArray) : Int × VD := aftP (chg D true n false 0) fun D1 => setD D1 n ⟨(lk n D1.files).b, ((lk n D1.files).b.length : Int)⟩
theorem lk_old {m : List (ByteArray × vdisk_file)} {Y : RD} {n : ByteArray} (ha : Agree m Y.L) (h : (chR Y n).1 = 0) : lk n m = vf (old Y n) := by
 rw [agree_lk ha, (fd_old h).1]; rfl
theorem sync_rel {N : Nat} {D : VD} {Y : RD} (h : Rel N D Y) (n : ByteArray) :
  (pSync D n).1 = (rSync Y n).1 ∧ Rel (N + 1) (pSync D n).2 (rSync Y n).2 := by
 obtain ⟨q1, q2, q3, q4⟩ := ch_rel h n
 have hL := chR_L Y n
 refine aft_rel q1 q2 fun h0 => ?_
 rw [q3, lk_old h.ag h0]
 obtain ⟨f1, f2, f3⟩ := fd_old h0
 have hb := mem_usum f3
 have hus := h.us
 have := set_rel q2 ⟨n, (old Y n).B, ((old Y n).B.length : Int)⟩ (by
  show usum (chR Y n).2.L + (old Y n).B.length ≤ 4194304 + blen (fnd n (chR Y n).2.L)
  rw [hL.1, f1]; show _ ≤ 4194304 + (old Y n).B.length; omega) (by simp) (by have := h.nm _ f3; rw [f2] at this; exact this)
 rw [hL.1] at this
 exact this
def mn (b : List Int) (m : Int) : Int := if (b.length : Int) < m then (b.length : Int) else m
def pTruncate (D : VD) (n : ByteArray) (m : Int) : Int × VD := aftP (chg D (decide (m ≥ 0)) n false 0) fun D1 =>
 setD D1 n ⟨sub (lk n D1.files).b 0 (mn (lk n D1.files).b m), if (lk n D1.files).sure < mn (lk n D1.files).b m then (lk n D1.files).sure else mn (lk n D1.files).b m⟩
theorem trunc_rel {N : Nat} {D : VD} {Y : RD} (h : Rel N D Y) (n : ByteArray) (m : Int) :
  (pTruncate D n m).1 = (rTruncate Y n m).1 ∧ Rel (N + 1) (pTruncate D n m).2 (rTruncate Y n m).2 := by
 unfold pTruncate rTruncate
 by_cases hm : m < 0
 ·rw [if_pos hm]
  have : decide (m ≥ 0) = false := by simp; omega
  rw [this]
  have hc : chg D false n false 0 = (1, D) := by unfold chg; rw [if_neg (by decide)]
  rw [hc]
  unfold aftP
  rw [if_neg (by simp)]; exact ⟨rfl, h.mono (by omega)⟩
 ·rw [if_neg hm]
  have : decide (m ≥ 0) = true := by simp; omega
  rw [this]
  obtain ⟨q1, q2, q3, q4⟩ := ch_rel h n
  have hL := chR_L Y n
  refine aft_rel q1 q2 fun h0 => ?_
  rw [q3, lk_old h.ag h0]
  obtain ⟨f1, f2, f3⟩ := fd_old h0
  obtain ⟨s1, s2⟩ := h.sur _ f3
  have hb := mem_usum f3
  have hus := h.us
  have e1 : sub (vf (old Y n)).b 0 (mn (vf (old Y n)).b m) = (old Y n).B.take m.toNat := sub_min (by omega)
  have e2 : (if (vf (old Y n)).sure < mn (vf (old Y n)).b m then (vf (old Y n)).sure else mn (vf (old Y n)).b m) = (if (((old Y n).B.take m.toNat).length : Int) < (old Y n).Sure then (((old Y n).B.take m.toNat).length : Int) else (old Y n).Sure) := by
   show (if (old Y n).Sure < mn (old Y n).B m then (old Y n).Sure else mn (old Y n).B m) = _
   unfold mn
   rw [List.length_take]
   omega
  rw [e1, e2]
  have := set_rel q2 ⟨n, (old Y n).B.take m.toNat, (if (((old Y n).B.take m.toNat).length : Int) < (old Y n).Sure then (((old Y n).B.take m.toNat).length : Int) else (old Y n).Sure)⟩ (by
   show usum (chR Y n).2.L + ((old Y n).B.take m.toNat).length ≤ 4194304 + blen (fnd n (chR Y n).2.L)
   rw [hL.1, f1]; show _ ≤ 4194304 + (old Y n).B.length; rw [List.length_take]; omega) (by simp only [List.length_take]; omega) (by have := h.nm _ f3; rw [f2] at this; exact this)
  rw [hL.1] at this
  exact this
def pRename (D : VD) (n m : ByteArray) : Int × VD := aftP (chg D (nb m) n false 0) fun D1 => if n = m then D1 else setD (cutD D1 n) m (lk n D1.files)
theorem ren_rel {N : Nat} {D : VD} {Y : RD} (h : Rel N D Y) (n m : ByteArray) :
  (pRename D n m).1 = (rRename Y n m).1 ∧ Rel (N + 1) (pRename D n m).2 (rRename Y n m).2 := by
 unfold pRename rRename
 by_cases hm : nb m = true
 ·rw [if_pos hm, hm]
  obtain ⟨q1, q2, q3, q4⟩ := ch_rel h n
  have hL := chR_L Y n
  refine aft_rel q1 q2 fun h0 => ?_
  obtain ⟨f1, f2, f3⟩ := fd_old h0
  have hs := h.sur _ f3
  have hb := mem_usum f3
  have hus := h.us
  by_cases hnm : n = m
  ·rw [if_pos hnm]
   subst hnm
   have : ins ⟨n, (old Y n).B, (old Y n).Sure⟩ (del n Y.L) = Y.L := by
    have e : (⟨n, (old Y n).B, (old Y n).Sure⟩ : Fl) = old Y n := by
     generalize old Y n = o at f2; cases o; simp at f2; subst f2; rfl
    rw [e]
    have := del_ins Y.L (old Y n) h.srt (by rw [f2]; exact f1)
    rw [f2] at this; exact this
   rw [this]
   have q5 := q2.mono (M := N + 1) (by omega)
   have : (chR Y n).2 = ⟨Y.L, (chR Y n).2.Most, (chR Y n).2.Burns, (chR Y n).2.Off⟩ := by rw [← hL.1]
   rw [← this]; exact q5
  ·rw [if_neg hnm, q3, lk_old h.ag h0]
   have hc := cut_rel q2 (n := n) (by rw [hL.1, f1]; rfl)
   rw [hL.1] at hc
   have hu := usum_del n Y.L h.srt (by rw [f1]; rfl)
   rw [f1] at hu
   have hu' : usum (del n Y.L) + (old Y n).B.length = usum Y.L := hu
   have h7 : m.size ≤ 64 := by unfold nb at hm; simp at hm; omega
   have := set_rel hc ⟨m, (old Y n).B, (old Y n).Sure⟩ (by show usum (del n Y.L) + (old Y n).B.length ≤ _; omega) hs h7
   exact this
 ·rw [if_neg hm]
  unfold chg aftP
  rw [if_neg hm, if_neg (by simp)]; exact ⟨rfl, h.mono (by omega)⟩
def pRemove (D : VD) (n : ByteArray) : Int × VD := aftP (chg D true n false 0) fun D1 => cutD D1 n
theorem rem_rel {N : Nat} {D : VD} {Y : RD} (h : Rel N D Y) (n : ByteArray) :
  (pRemove D n).1 = (rRemove Y n).1 ∧ Rel (N + 1) (pRemove D n).2 (rRemove Y n).2 := by
 obtain ⟨q1, q2, q3, q4⟩ := ch_rel h n
 have hL := chR_L Y n
 refine aft_rel q1 q2 fun h0 => ?_
 obtain ⟨f1, f2, f3⟩ := fd_old h0
 have hc := cut_rel q2 (n := n) (by rw [hL.1, f1]; rfl)
 rw [hL.1] at hc
 exact hc.mono (by omega)
def pFuse (D : VD) (m : Int) : Int × VD := if m < 0 then (1, D) else (0, ⟨D.files, D.room, D.used, some m, D.dead⟩)
theorem fuse_rel {N : Nat} {D : VD} {Y : RD} (h : Rel N D Y) (m : Int) (hm : m ≤ 9223372036854775807) :
  (pFuse D m).1 = (rFuse Y m).1 ∧ Rel (N + 1) (pFuse D m).2 (rFuse Y m).2 := by
 unfold pFuse rFuse
 by_cases h1 : m < 0
 ·rw [if_pos h1, if_pos h1]; exact ⟨rfl, h.mono (by omega)⟩
 ·rw [if_neg h1, if_neg h1]
  have h' := h.mono (M := N + 1) (by omega)
  exact ⟨rfl, { h' with fuse := ⟨rfl, by omega, hm⟩ }⟩
def pRoom (D : VD) (m : Int) : Int × VD := if m < 0 then (1, D) else if m > 4194304 then (1, D) else (0, ⟨D.files, m, D.used, D.fuse, D.dead⟩)
theorem room_rel {N : Nat} {D : VD} {Y : RD} (h : Rel N D Y) (m : Int) :
  (pRoom D m).1 = (rRoom Y m).1 ∧ Rel (N + 1) (pRoom D m).2 (rRoom Y m).2 := by
 unfold pRoom rRoom
 have h' := h.mono (M := N + 1) (by omega)
 by_cases h1 : m < 0
 ·rw [if_pos h1, if_pos h1]; exact ⟨rfl, h'⟩
 ·rw [if_neg h1, if_neg h1]
  by_cases h2 : m > 4194304
  ·rw [if_pos h2, if_pos h2]; exact ⟨rfl, h'⟩
  ·rw [if_neg h2, if_neg h2]; exact ⟨rfl, { h' with room := rfl, most := ⟨by show 0 ≤ m; omega, by show m ≤ 4194304; omega⟩ }⟩
end Go.Abs.GenZ
