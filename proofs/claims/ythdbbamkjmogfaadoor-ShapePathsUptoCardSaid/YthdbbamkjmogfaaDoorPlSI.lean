import Derived.Test.YthdbbamkjmogfaaDoorPlSH
import Derived.Sort.Walk0
set_option linter.unnecessarySimpa false
set_option linter.unusedVariables false
set_option linter.unusedSimpArgs false
set_option maxRecDepth 100000
set_option maxHeartbeats 4000000
namespace Go.Abs.GenS
open Go.Abs
structure Lin {α : Type} (f : α → α → Int) : Prop where
 neg : ∀ a b, f b a = - f a b
 tr : ∀ a b c, f a b ≤ 0 → f b c ≤ 0 → f a c ≤ 0
def orI (a b : Int) : Int := if a ≠ 0 then a else b
theorem Lin.on {α β : Type} {f : α → α → Int} (h : Lin f) (k : β → α) : Lin (fun a b => f (k a) (k b)) := ⟨fun a b => h.neg _ _, fun a b c => h.tr _ _ _⟩
theorem Lin.lt {α : Type} {f : α → α → Int} (h : Lin f) {a b c : α} (h1 : f a b ≤ 0) (h2 : f b c ≤ 0) (h3 : f a c = 0) : f a b = 0 ∧ f b c = 0 := by
 have e1 := h.neg a c
 have e2 := h.neg a b
 have e3 := h.neg b c
 have t1 := h.tr b c a h2 (by omega)
 have t2 := h.tr c a b (by omega) h1
 omega
theorem Lin.lex {α : Type} {f g : α → α → Int} (hf : Lin f) (hg : Lin g) : Lin (fun a b => orI (f a b) (g a b)) := by
 refine ⟨fun a b => ?_, fun a b c h1 h2 => ?_⟩
 ·have e1 := hf.neg a b
  have e2 := hg.neg a b
  simp only [orI]
  split <;> split <;> omega
 ·simp only [orI] at h1 h2 ⊢
  have hfa : f a b ≤ 0 := by split at h1 <;> omega
  have hfb : f b c ≤ 0 := by split at h2 <;> omega
  have hfc := hf.tr a b c hfa hfb
  by_cases h : f a c = 0
  ·obtain ⟨q1, q2⟩ := hf.lt hfa hfb h
   rw [if_neg (by omega)] at h1 h2 ⊢
   exact hg.tr a b c h1 h2
  ·rw [if_pos h]; exact hfc
def ordL {α : Type} (f : α → α → Int) : List α → List α → Int
 | [], [] => 0
 | [], _ :: _ => -1
 | _ :: _, [] => 1
 | x :: xs, y :: ys => orI (f x y) (ordL f xs ys)
theorem ordL_neg {α : Type} {f : α → α → Int} (h : Lin f) : ∀ a b, ordL f b a = - ordL f a b
 | [], [] => rfl
 | [], _ :: _ => rfl
 | _ :: _, [] => rfl
 | x :: xs, y :: ys => by
  have e1 := h.neg x y
  have e2 := ordL_neg h xs ys
  simp only [ordL, orI]
  split <;> split <;> omega
theorem ordL_tr {α : Type} {f : α → α → Int} (h : Lin f) : ∀ a b c, ordL f a b ≤ 0 → ordL f b c ≤ 0 → ordL f a c ≤ 0
 | [], _, [], _, _ => by simp [ordL]
 | [], _, _ :: _, _, _ => by simp [ordL]
 | _ :: _, [], _, h1, _ => by simp [ordL] at h1
 | _ :: _, _ :: _, [], _, h2 => by simp [ordL] at h2
 | x :: xs, y :: ys, z :: zs, h1, h2 => by
  simp only [ordL, orI] at h1 h2 ⊢
  have hfa : f x y ≤ 0 := by split at h1 <;> omega
  have hfb : f y z ≤ 0 := by split at h2 <;> omega
  have hfc := h.tr x y z hfa hfb
  by_cases h0 : f x z = 0
  ·obtain ⟨q1, q2⟩ := h.lt hfa hfb h0
   rw [if_neg (by omega)] at h1 h2 ⊢
   exact ordL_tr h xs ys zs h1 h2
  ·rw [if_pos h0]; exact hfc
theorem Lin.list {α : Type} {f : α → α → Int} (h : Lin f) : Lin (ordL f) := ⟨ordL_neg h, ordL_tr h⟩
theorem ordL_zero {α : Type} {f : α → α → Int} (h : ∀ a b, f a b = 0 → a = b) : ∀ a b, ordL f a b = 0 → a = b
 | [], [], _ => rfl
 | [], _ :: _, h0 => by simp [ordL] at h0
 | _ :: _, [], h0 => by simp [ordL] at h0
 | x :: xs, y :: ys, h0 => by
  simp only [ordL, orI] at h0
  split at h0
  ·omega
  ·rw [h x y (by omega), ordL_zero h xs ys h0]
theorem Lin.refl {α : Type} {f : α → α → Int} (h : Lin f) (a : α) : f a a = 0 := by have := h.neg a a; omega

def cmpI (a b : Int) : Int := if a < b then -1 else if a > b then 1 else 0
theorem cmpI_lin : Lin cmpI := by
 refine ⟨fun a b => ?_, fun a b c h1 h2 => ?_⟩
 ·unfold cmpI; split <;> split <;> (try split) <;> omega
 ·unfold cmpI at *; split at h1 <;> split at h2 <;> (try split at h1) <;> (try split at h2) <;> (try split) <;> (try split) <;> omega
theorem cmpI_lt {a b : Int} (h : a < b) : cmpI a b = -1 := by unfold cmpI; rw [if_pos h]
theorem cmpI_gt {a b : Int} (h : b < a) : cmpI a b = 1 := by unfold cmpI; rw [if_neg (by omega), if_pos h]
theorem cmpI_eq {a b : Int} (h : a = b) : cmpI a b = 0 := by unfold cmpI; rw [if_neg (by omega), if_neg (by omega)]
theorem compareBytes_ord : ∀ a b : List UInt8, Lib.compareBytes a b = ordL (fun x y : UInt8 => cmpI (x.toNat : Int) (y.toNat : Int)) a b
 | [], [] => rfl
 | [], _ :: _ => rfl
 | _ :: _, [] => rfl
 | x :: xs, y :: ys => by
  rw [Lib.compareBytes, ordL, compareBytes_ord xs ys]
  by_cases h1 : x < y
  ·rw [if_pos h1, cmpI_lt (by rw [UInt8.lt_iff_toNat_lt] at h1; omega)]; rfl
  ·by_cases h2 : y < x
   ·rw [if_neg h1, if_pos h2, cmpI_gt (by rw [UInt8.lt_iff_toNat_lt] at h2; omega)]; rfl
   ·rw [if_neg h1, if_neg h2, cmpI_eq (by rw [UInt8.lt_iff_toNat_lt] at h1 h2; omega)]; rfl
theorem u8_lin : Lin (fun x y : UInt8 => cmpI (x.toNat : Int) (y.toNat : Int)) := cmpI_lin.on _
theorem cmpS_ord (s t : ByteArray) : cmpS s t = ordL (fun x y : UInt8 => cmpI (x.toNat : Int) (y.toNat : Int)) (us s) (us t) := compareBytes_ord _ _
theorem cmpS_lin : Lin cmpS := by
 have h := u8_lin.list.on us
 refine ⟨fun a b => ?_, fun a b c h1 h2 => ?_⟩
 ·rw [cmpS_ord, cmpS_ord]; exact h.neg a b
 ·rw [cmpS_ord] at *; exact h.tr a b c h1 h2
theorem cmpS_zero {s t : ByteArray} (h : cmpS s t = 0) : s = t := by
 rw [cmpS_ord] at h
 refine us_inj (ordL_zero (fun a b hab => ?_) _ _ h)
 unfold cmpI at hab
 split at hab
 ·omega
 ·split at hab
  ·omega
  ·exact UInt8.toNat_inj.mp (by omega)
theorem bytesLess_ord : ∀ a b : List UInt8, Op.bytesLess a b = decide (Lib.compareBytes a b < 0)
 | [], [] => rfl
 | [], _ :: _ => rfl
 | _ :: _, [] => rfl
 | x :: xs, y :: ys => by
  rw [Op.bytesLess, Lib.compareBytes, bytesLess_ord xs ys]
  by_cases h1 : x < y
  ·simp [h1]
  ·by_cases h2 : y < x
   ·have : ¬ (x == y) = true := by
     intro h; have := eq_of_beq h; subst this; exact h1 h2
    simp [h1, h2, this]
   ·have h3 : x = y := by
     rw [UInt8.lt_iff_toNat_lt] at h1 h2
     exact UInt8.toNat_inj.mp (by omega)
    subst h3
    simp [h1]
theorem cmpS_val (s t : ByteArray) : cmpS s t = -1 ∨ cmpS s t = 0 ∨ cmpS s t = 1 := by
 unfold cmpS
 generalize s.data.toList = a
 generalize t.data.toList = b
 induction a generalizing b with
 | nil => cases b <;> simp [Lib.compareBytes]
 | cons x xs ih =>
  cases b with
  | nil => simp [Lib.compareBytes]
  | cons y ys =>
   rw [Lib.compareBytes]
   split
   ·simp
   ·split
    ·simp
    ·exact ih ys
theorem texts_ev (s t : ByteArray) : Evt (fun k => dossierref12_texts.f k s t) (cmpS s t) := by
 simp only [dossierref12_texts.f]
 have h1 : Op.bytesLess s.toList t.toList = decide (cmpS s t < 0) := by rw [toList_eq, toList_eq, bytesLess_ord]; rfl
 have h2 : (s.toList == t.toList) = decide (cmpS s t = 0) := by
  rw [toList_us]
  by_cases h : cmpS s t = 0
  ·rw [cmpS_zero h, cmpS_lin.refl]; simp
  ·rw [decide_eq_false h, decide_eq_false]
   intro hc
   apply h
   rw [us_inj hc, cmpS_lin.refl]
 rw [h1, h2]
 rcases cmpS_val s t with h | h | h
 ·rw [h]; exact Evt.pos rfl (.pure _)
 ·rw [h]; exact Evt.neg (by decide) (Evt.pos rfl (.pure _))
 ·rw [h]; exact Evt.neg (by decide) (Evt.neg (by decide) (.pure _))
theorem cmpI_val (a b : Int) : cmpI a b = -1 ∨ cmpI a b = 0 ∨ cmpI a b = 1 := by
 unfold cmpI; split
 ·simp
 ·split <;> simp
theorem cmpI_zero {a b : Int} (h : cmpI a b = 0) : a = b := by
 unfold cmpI at h
 split at h
 ·omega
 ·split at h <;> omega

theorem compare_ev (a b : ByteArray) : Evt (fun k => strings_Compare.f k a b) (cmpS a b) := by
 simp only [strings_Compare.f, bytealg_CompareString.f]
 exact Evt.map (.pure _)
theorem cmpint_ev (a b : Int) : Evt (fun k => cmp_Compare_int.f k a b) (cmpI a b) := by
 simp only [cmp_Compare_int.f, cmp_isNaN_int.f]
 refine Evt.bind (.pure _) (Evt.bind (.pure _) (Evt.neg (by simp) (Evt.neg (by simp) ?_)))
 exact Evt.iteD (fun _ => .pure _) fun _ => Evt.iteD (fun _ => .pure _) fun _ => .pure _
end Go.Abs.GenS
