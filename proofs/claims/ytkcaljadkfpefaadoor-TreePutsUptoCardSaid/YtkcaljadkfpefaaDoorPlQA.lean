import Derived.Test.YtkcaljadkfpefaaDoorGenQG
import Derived.Test.YtkcaljadkfpefaaDoorPlStr
set_option linter.unnecessarySimpa false
set_option linter.unusedVariables false
set_option linter.unusedSimpArgs false
set_option maxRecDepth 100000
set_option maxHeartbeats 4000000
namespace Go.Abs.GenQ
open Go.Abs
theorem rd_0 (b0 : Int) (t : List Int) : rd (b0 :: t) 0 = some b0 := rfl
def dig (n : Nat) : List Int := if n < 10 then [48 + (n : Int)] else dig (n / 10) ++ [48 + ((n % 10 : Nat) : Int)]
termination_by n
theorem dig_lt {n : Nat} (h : n < 10) : dig n = [48 + (n : Int)] := by rw [dig, if_pos h]
theorem dig_ge {n : Nat} (h : ¬ n < 10) : dig n = dig (n / 10) ++ [48 + ((n % 10 : Nat) : Int)] := by rw [dig, if_neg h]
def val : Int → List Int → Int
 | a, [] => a
 | a, d :: ds => val (10 * a + (d - 48)) ds
def IsD (d : Int) : Prop := 48 ≤ d ∧ d ≤ 57
theorem val_app (a : Int) (xs ys : List Int) : val a (xs ++ ys) = val (val a xs) ys := by
 induction xs generalizing a with
 | nil => rfl
 | cons x xs ih => exact ih _
theorem dig_ne (n : Nat) : dig n ≠ [] := by
 rw [dig]; split <;> simp
theorem dig_D : ∀ n, ∀ d ∈ dig n, IsD d := by
 intro n
 induction n using Nat.strongRecOn with
 | _ n ih =>
  intro d hd
  by_cases h : n < 10
  ·rw [dig_lt h] at hd
   simp at hd; subst hd; unfold IsD; omega
  ·rw [dig_ge h] at hd
   rcases List.mem_append.mp hd with hd | hd
   ·exact ih (n / 10) (by omega) d hd
   ·simp at hd; subst hd; unfold IsD; omega
theorem dig_val : ∀ n, val 0 (dig n) = (n : Int) := by
 intro n
 induction n using Nat.strongRecOn with
 | _ n ih =>
  by_cases h : n < 10
  ·rw [dig_lt h]; simp only [val]; omega
  ·rw [dig_ge h, val_app, ih (n / 10) (by omega)]
   simp only [val]; omega
theorem dig_len : ∀ (m n : Nat), 1 ≤ m → n < 10 ^ m → (dig n).length ≤ m := by
 intro m
 induction m with
 | zero => intro n h; omega
 | succ m ih =>
  intro n _ hn
  by_cases h : n < 10
  ·rw [dig_lt h]; simp
  ·rw [dig_ge h, List.length_append]
   have : m ≠ 0 := by rintro rfl; simp at hn; omega
   have := ih (n / 10) (by omega) (by rw [Nat.pow_succ] at hn; omega)
   simp only [List.length_cons, List.length_nil]; omega
theorem dig_head : ∀ n, n ≠ 0 → ∃ d t, dig n = d :: t ∧ d ≠ 48 := by
 intro n
 induction n using Nat.strongRecOn with
 | _ n ih =>
  intro h0
  by_cases h : n < 10
  ·exact ⟨_, _, dig_lt h, by omega⟩
  ·obtain ⟨d, t, e, hd⟩ := ih (n / 10) (by omega) (by omega)
   exact ⟨d, t ++ [48 + ((n % 10 : Nat) : Int)], by rw [dig_ge h, e]; rfl, hd⟩
theorem val_nonneg : ∀ (ds : List Int) (a : Int), 0 ≤ a → (∀ d ∈ ds, IsD d) → a ≤ val a ds := by
 intro ds
 induction ds with
 | nil => intro a _ _; exact Int.le_refl _
 | cons d ds ih =>
  intro a ha h
  have hd := h d (by simp); unfold IsD at hd
  have := ih (10 * a + (d - 48)) (by omega) fun x hx => h x (by simp [hx])
  simp only [val]; omega
theorem val_lt : ∀ (ds : List Int) (a : Int), 0 ≤ a → (∀ d ∈ ds, IsD d) → val a ds < (a + 1) * 10 ^ ds.length := by
 intro ds
 induction ds with
 | nil => intro a _ _; simp [val]; omega
 | cons d ds ih =>
  intro a ha h
  have hd := h d (by simp); unfold IsD at hd
  have h1 := ih (10 * a + (d - 48)) (by omega) fun x hx => h x (by simp [hx])
  simp only [val, List.length_cons]
  have h2 : (10 * a + (d - 48) + 1) * 10 ^ ds.length ≤ ((a + 1) * 10) * 10 ^ ds.length := Int.mul_le_mul_of_nonneg_right (by omega) (Int.pow_nonneg (by decide))
  have h3 : ((a + 1) * 10) * 10 ^ ds.length = (a + 1) * 10 ^ (ds.length + 1) := by rw [Int.pow_succ, Int.mul_assoc, Int.mul_comm 10]
  omega
theorem dig_of_val (d : Int) (t : List Int) (hd : ∀ x ∈ d :: t, IsD x) (h0 : d ≠ 48 ∨ t = []) : dig (val 0 (d :: t)).toNat = d :: t := by
 have key : ∀ (n : Nat) (t : List Int), t.length = n → (∀ x ∈ d :: t, IsD x) → (d ≠ 48 ∨ t = []) → dig (val 0 (d :: t)).toNat = d :: t := by
  intro n
  induction n with
  | zero =>
   intro t ht hd _
   have : t = [] := List.eq_nil_of_length_eq_zero ht
   subst this
   have := hd d (by simp); unfold IsD at this
   simp only [val]
   rw [dig_lt (by omega)]
   congr 1; omega
  | succ n ih =>
   intro t ht hd h0
   have hne : t ≠ [] := by rintro rfl; simp at ht
   have h48 : d ≠ 48 := by rcases h0 with h | h; exact h; exact absurd h hne
   have e : t = t.dropLast ++ [t.getLast hne] := (List.dropLast_concat_getLast hne).symm
   generalize t.dropLast = u at e
   generalize t.getLast hne = c at e
   subst e
   have hc := hd c (by simp); unfold IsD at hc
   have hd' := hd d (by simp); unfold IsD at hd'
   have ih' := ih u (by simp at ht; omega) (fun x hx => hd x (by rcases List.mem_cons.mp hx with rfl | hx; simp; simp [hx])) (.inl h48)
   have hv : val 0 (d :: (u ++ [c])) = 10 * val 0 (d :: u) + (c - 48) := by
    rw [← List.cons_append, val_app]; rfl
   have hpos : 1 ≤ val 0 (d :: u) := by
    simp only [val]
    have := val_nonneg u (10 * 0 + (d - 48)) (by omega) fun x hx => hd x (by simp [hx])
    omega
   rw [hv, dig_ge (by omega)]
   rw [show (10 * val 0 (d :: u) + (c - 48)).toNat / 10 = (val 0 (d :: u)).toNat by omega, ih', show (10 * val 0 (d :: u) + (c - 48)).toNat % 10 = (c - 48).toNat by omega]
   rw [← List.cons_append]
   congr 2; omega
 exact key _ t rfl hd h0

def textS (n : Int) : List Int := if n < 0 then 45 :: dig (-n).toNat else dig n.toNat
theorem dig_u8 (n : Nat) : U8s (dig n) := fun x hx => by have := dig_D n x hx; unfold IsD at this; omega
theorem textS_u8 (n : Int) : U8s (textS n) := by
 unfold textS; split
 ·exact U8s.cons (by decide) (by decide) (dig_u8 _)
 ·exact dig_u8 _
theorem dig_i64 {n : Int} (h0 : -9223372036854775808 ≤ n) (h1 : n ≤ 9223372036854775807) : (dig n.natAbs).length ≤ 19 := dig_len 19 _ (by decide) (by omega)

theorem one_digit (a : Int) (h0 : 0 ≤ a) (h1 : a < 10) : (⟨#[48, 49, 50, 51, 52, 53, 54, 55, 56, 57]⟩ : ByteArray).extract a.toNat (IntKind.i64.wrap (a + 1)).toNat = ofNums (dig a.toNat) := by
 rw [wrap_i64 (by omega) (by omega)]
 have key : ∀ n : Fin 10, bytesI ((⟨#[48, 49, 50, 51, 52, 53, 54, 55, 56, 57]⟩ : ByteArray).extract n.val (n.val + 1)) = [48 + (n.val : Int)] := by decide +kernel
 have k := key ⟨a.toNat, by omega⟩
 apply bytesI_inj
 rw [bytesI_ofNums _ (dig_u8 _), dig_lt (by omega)]
 rw [show (a + 1).toNat = a.toNat + 1 by omega]
 exact k
theorem ofNums_app (xs ys : List Int) : ofNums xs ++ ofNums ys = ofNums (xs ++ ys) := by
 apply ByteArray.ext
 rw [ByteArray.data_append]
 simp [ofNums]
theorem reftext_ev : ∀ (m : Nat) (n : Int), n.natAbs ≤ m → -9223372036854775808 ≤ n → n ≤ 9223372036854775807 → Evt (fun k => dossierref01_Text.f k n) (ofNums (textS n)) := by
 intro m
 induction m with
 | zero =>
  intro n hm h0 h1
  obtain rfl : n = 0 := by omega
  refine Evt.succ (fun k => by rw [dossierref01_Text.f]) (Evt.neg (by decide) (Evt.pos (by decide) (Evt.pos (by decide) ?_)))
  have := one_digit 0 (by decide) (by decide)
  have e : textS 0 = dig (0 : Int).toNat := rfl
  rw [this, e]; exact .pure _
 | succ m ih =>
  intro n hm h0 h1
  refine Evt.succ (fun k => by rw [dossierref01_Text.f]) ?_
  have hl := dig_i64 h0 h1
  by_cases c : n < 0
  ·refine Evt.pos (by simpa using c) ?_
   by_cases c2 : n > -10
   ·refine Evt.pos (by simpa using c2) ?_
    rw [wrap_i64 (by omega) (by omega)]
    by_cases hm2 : (0 - n).natAbs ≤ m
    ·refine Evt.bind (ih (0 - n) hm2 (by omega) (by omega)) (Evt.pos ?_ ?_)
     ·rw [size_ofNums]
      have e : textS (0 - n) = dig (0 - n).toNat := by unfold textS; rw [if_neg (by omega)]
      rw [e, dig_lt (by omega), decide_eq_true_eq, show (⟨#[45]⟩ : ByteArray).size = 1 from rfl]; simp
     ·have e1 : (⟨#[45]⟩ : ByteArray) = ofNums [45] := by decide +kernel
      have e2 : [45] ++ textS (0 - n) = textS n := by
       unfold textS
       rw [if_neg (by omega), if_pos c, show -n = 0 - n by omega]; rfl
      rw [e1, ofNums_app, e2]; exact .pure _
    ·-- the number itself has as many
     refine Evt.bind (a := ofNums (dig (0 - n).toNat)) ?_ (Evt.pos ?_ ?_)
     ·refine Evt.succ (fun k => by rw [dossierref01_Text.f]) (Evt.neg (by simp; omega) (Evt.pos (by simp; omega) (Evt.pos ?_ ?_)))
      ·rw [wrap_i64 (by omega) (by omega)]
       have : ((⟨#[48, 49, 50, 51, 52, 53, 54, 55, 56, 57]⟩ : ByteArray).size : Int) = 10 := by decide
       rw [this, decide_eq_true_eq]; omega
      ·rw [one_digit _ (by omega) (by omega)]; exact .pure _
     ·rw [size_ofNums, dig_lt (by omega), decide_eq_true_eq, show (⟨#[45]⟩ : ByteArray).size = 1 from rfl]; simp
     ·have e1 : (⟨#[45]⟩ : ByteArray) = ofNums [45] := by decide +kernel
      have e2 : [45] ++ dig (0 - n).toNat = textS n := by
       unfold textS
       rw [if_pos c, show -n = 0 - n by omega]; rfl
      rw [e1, ofNums_app, e2]; exact .pure _
   ·refine Evt.neg (by simpa using c2) ?_
    have t1 : Int.tdiv n 10 = -((-n) / 10) := by
     rw [show n = -(-n) by omega, Int.neg_tdiv, Int.tdiv_eq_ediv_of_nonneg (by omega)]; omega
    have t2 : Int.tmod n 10 = -((-n) % 10) := by
     rw [show n = -(-n) by omega, Int.neg_tmod, Int.tmod_eq_emod_of_nonneg (by omega)]; omega
    rw [t1, t2, wrap_i64 (by omega) (by omega), wrap_i64 (by omega) (by omega)]
    refine Evt.bind (ih (-((-n) / 10)) (by omega) (by omega) (by omega)) (Evt.bind (ih (0 - -((-n) % 10)) (by omega) (by omega) (by omega)) ?_)
    have e1 : textS (-((-n) / 10)) = 45 :: dig ((-n).toNat / 10) := by
     unfold textS
     rw [if_pos (by omega), show (- -((-n) / 10)).toNat = (-n).toNat / 10 by omega]
    have e2 : textS (0 - -((-n) % 10)) = [48 + (((-n).toNat % 10 : Nat) : Int)] := by
     unfold textS
     rw [if_neg (by omega), show (0 - -((-n) % 10)).toNat = (-n).toNat % 10 by omega, dig_lt (by omega)]
    have e3 : textS n = (45 :: dig ((-n).toNat / 10)) ++ [48 + (((-n).toNat % 10 : Nat) : Int)] := by
     unfold textS
     rw [if_pos c, dig_ge (by omega)]; rfl
    have hl2 : (dig ((-n).toNat / 10)).length ≤ 19 := dig_len 19 _ (by decide) (by omega)
    rw [e1, e2]
    refine Evt.pos ?_ ?_
    ·rw [size_ofNums, size_ofNums, decide_eq_true_eq]; simp; omega
    ·rw [ofNums_app, ← e3]; exact .pure _
  ·refine Evt.neg (by simpa using c) ?_
   by_cases c2 : n < 10
   ·refine Evt.pos (by simpa using c2) (Evt.pos ?_ ?_)
    ·rw [wrap_i64 (by omega) (by omega)]
     have : ((⟨#[48, 49, 50, 51, 52, 53, 54, 55, 56, 57]⟩ : ByteArray).size : Int) = 10 := by decide
     rw [this, decide_eq_true_eq]; omega
    ·have e : textS n = dig n.toNat := by unfold textS; rw [if_neg c]
     rw [one_digit n (by omega) c2, e]; exact .pure _
   ·refine Evt.neg (by simpa using c2) ?_
    have t1 : Int.tdiv n 10 = n / 10 := Int.tdiv_eq_ediv_of_nonneg (by omega)
    have t2 : Int.tmod n 10 = n % 10 := Int.tmod_eq_emod_of_nonneg (by omega)
    rw [t1, t2, wrap_i64 (by omega) (by omega)]
    refine Evt.bind (ih (n / 10) (by omega) (by omega) (by omega)) (Evt.bind (ih (n % 10) (by omega) (by omega) (by omega)) ?_)
    have e1 : textS (n / 10) = dig (n.toNat / 10) := by
     unfold textS
     rw [if_neg (by omega), show (n / 10).toNat = n.toNat / 10 by omega]
    have e2 : textS (n % 10) = [48 + ((n.toNat % 10 : Nat) : Int)] := by
     unfold textS
     rw [if_neg (by omega), show (n % 10).toNat = n.toNat % 10 by omega, dig_lt (by omega)]
    have e3 : textS n = dig (n.toNat / 10) ++ [48 + ((n.toNat % 10 : Nat) : Int)] := by
     unfold textS
     rw [if_neg c, dig_ge (by omega)]
    have hl2 : (dig (n.toNat / 10)).length ≤ 19 := dig_len 19 _ (by decide) (by omega)
    rw [e1, e2]
    refine Evt.pos ?_ ?_
    ·rw [size_ofNums, size_ofNums, decide_eq_true_eq]; simp; omega
    ·rw [ofNums_app, ← e3]; exact .pure _

theorem dcase (left : Int) (h0 : -9223372036854775808 ≤ left) (h1 : left ≤ 9223372036854775807) :
  IntKind.u8.wrap (IntKind.i64.wrap (48 + (if (IntKind.i64.wrap (0 - (Int.tmod left 10))) > (Int.tmod left 10) then (IntKind.i64.wrap (0 - (Int.tmod left 10))) else (Int.tmod left 10)))) = 48 + ((left.natAbs % 10 : Nat) : Int) ∧
  IntKind.i64.wrap (Int.tdiv left 10) = Int.tdiv left 10 ∧ (Int.tdiv left 10).natAbs = left.natAbs / 10 := by
 have t2 : (0 ≤ left → Int.tmod left 10 = left % 10 ∧ Int.tdiv left 10 = left / 10) := fun h => ⟨Int.tmod_eq_emod_of_nonneg h, Int.tdiv_eq_ediv_of_nonneg h⟩
 have t3 : (left < 0 → Int.tmod left 10 = -((-left) % 10) ∧ Int.tdiv left 10 = -((-left) / 10)) := fun h => by
  constructor
  ·rw [show left = -(-left) by omega, Int.neg_tmod, Int.tmod_eq_emod_of_nonneg (by omega)]; omega
  ·rw [show left = -(-left) by omega, Int.neg_tdiv, Int.tdiv_eq_ediv_of_nonneg (by omega)]; omega
 by_cases c : left < 0
 ·obtain ⟨e1, e2⟩ := t3 c
  rw [e1, e2, wrap_i64 (n := 0 - -((-left) % 10)) (by omega) (by omega)]
  refine ⟨?_, wrap_i64 (by omega) (by omega), by omega⟩
  split
  ·rw [wrap_i64 (by omega) (by omega), wrap_u8]; omega
  ·rw [wrap_i64 (by omega) (by omega), wrap_u8]; omega
 ·obtain ⟨e1, e2⟩ := t2 (by omega)
  rw [e1, e2, wrap_i64 (n := 0 - (left % 10)) (by omega) (by omega)]
  refine ⟨?_, wrap_i64 (by omega) (by omega), by omega⟩
  split
  ·rw [wrap_i64 (by omega) (by omega), wrap_u8]; omega
  ·rw [wrap_i64 (by omega) (by omega), wrap_u8]; omega
theorem drop_set {xs : List Int} {n : Nat} (h : n < xs.length) (c : Int) : (xs.set n c).drop n = c :: xs.drop (n + 1) := by
 rw [List.drop_set, if_neg (by omega), Nat.sub_self, List.drop_eq_getElem_cons h]; rfl
theorem text_loop (a0 : Int) : ∀ (m : Nat) (left : Int) (arr : List Int) (at_ : Nat), left.natAbs = m → -9223372036854775808 ≤ left → left ≤ 9223372036854775807 → arr.length = 20 → at_ ≤ 20 → (dig m).length + 1 ≤ at_ →
  Evt (fun k => chars_Text.l0 k arr (at_ : Int) left a0) (ofNums ((if a0 < 0 then [45] else []) ++ (dig m ++ arr.drop at_))) := by
 intro m
 induction m using Nat.strongRecOn with
 | _ m ih =>
  intro left arr at_ hm h0 h1 ha h20 hl
  have hne : 1 ≤ (dig m).length := List.length_pos_iff.mpr (dig_ne m)
  obtain ⟨d1, d2, d3⟩ := dcase left h0 h1
  refine Evt.succ (fun k => by rw [chars_Text.l0]) ?_
  rw [d1, d2, wrap_i64 (n := (at_ : Int) - 1) (by omega) (by omega), show (at_ : Int) - 1 = ((at_ - 1 : Nat) : Int) by omega, Int.toNat_natCast]
  refine Evt.pos (by simp; omega) (Evt.some_bind (rd_lt (by omega)) ?_)
  have hds := drop_set (xs := arr) (n := at_ - 1) (by omega) (48 + ((left.natAbs % 10 : Nat) : Int))
  rw [show at_ - 1 + 1 = at_ by omega] at hds
  by_cases c : m < 10
  ·have hz : Int.tdiv left 10 = 0 := by omega
   rw [hz]
   refine Evt.pos rfl ?_
   have em : left.natAbs % 10 = m := by omega
   rw [em] at hds ⊢
   by_cases cn : a0 < 0
   ·refine Evt.pos (by simpa using cn) ?_
    rw [wrap_i64 (n := ((at_ - 1 : Nat) : Int) - 1) (by omega) (by omega), show ((at_ - 1 : Nat) : Int) - 1 = ((at_ - 2 : Nat) : Int) by omega, Int.toNat_natCast]
    refine Evt.pos (by simp; omega) (Evt.some_bind (rd_lt (by simp; omega)) (Evt.pos (by simp; omega) ?_))
    have hd2 := drop_set (xs := arr.set (at_ - 1) (48 + (m : Int))) (n := at_ - 2) (by simp; omega) 45
    rw [show at_ - 2 + 1 = at_ - 1 by omega, hds] at hd2
    rw [hd2, List.take_of_length_le (by simp; omega), if_pos cn, dig_lt c]
    exact .pure _
   ·refine Evt.neg (by simpa using cn) (Evt.pos (by simp; omega) ?_)
    rw [hds, List.take_of_length_le (by simp; omega), if_neg cn, dig_lt c]
    exact .pure _
  ·have hz : ¬ Int.tdiv left 10 = 0 := by omega
   refine Evt.neg (by simpa using hz) ?_
   rw [dig_ge c] at hl ⊢
   simp only [List.length_append, List.length_cons, List.length_nil] at hl
   have := ih (m / 10) (by omega) (Int.tdiv left 10) (arr.set (at_ - 1) (48 + ((left.natAbs % 10 : Nat) : Int))) (at_ - 1) (by omega) (by omega) (by omega) (by simp; omega) (by omega) (by omega)
   rw [hds, hm] at this
   rw [hm]
   simpa using this
theorem text_ev (n : Int) (h0 : -9223372036854775808 ≤ n) (h1 : n ≤ 9223372036854775807) : Evt (fun k => chars_Text.f k n) (ofNums (textS n)) := by
 simp only [chars_Text.f]
 have hl := dig_i64 h0 h1
 have := text_loop n n.natAbs n (List.replicate 20 (0 : Int)) 20 rfl h0 h1 (by simp) (by decide) (by omega)
 have e : textS n = (if n < 0 then [45] else []) ++ (dig n.natAbs ++ (List.replicate 20 (0 : Int)).drop 20) := by
  unfold textS
  split
  ·rw [show (-n).toNat = n.natAbs by omega]; simp
  ·rw [show n.toNat = n.natAbs by omega]; simp
 rw [e]; exact this
def isDb (d : Int) : Bool := decide (48 ≤ d) && decide (d ≤ 57)
theorem isDb_iff {d : Int} : isDb d = true ↔ IsD d := by simp [isDb, IsD]
theorem allD {ds : List Int} (h : ds.all isDb = true) : ∀ d ∈ ds, IsD d := fun d hd => isDb_iff.mp (List.all_eq_true.mp h d hd)

def numD (neg : Bool) (one : Bool) (ds : List Int) : Int × Int :=
 match ds with
 | [] => (0, 5)
 | d :: t =>
  if d = 48 ∧ one = false then (0, 5)
  else if (d :: t).all isDb = false then (0, 5)
  else if (d :: t).length > 19 then (0, 4)
  else if neg = true then (if val 0 (d :: t) > 9223372036854775808 then (0, 4) else (- val 0 (d :: t), 0))
  else (if val 0 (d :: t) > 9223372036854775807 then (0, 4) else (val 0 (d :: t), 0))
def numS (s : List Int) : Int × Int :=
 match s with
 | [] => (0, 5)
 | c :: t => if c = 45 then numD true (decide ((c :: t).length ≤ 1)) t else numD false (decide ((c :: t).length ≤ 1)) (c :: t)

theorem num_loop (ds : List Int) (hu : U8s ds) (hlen : ds.length ≤ 1048576) (far : Bool) (hfar : far = decide (ds.length > 19)) (F : Nat → Int → Int → Option (Int × Int)) (E : Nat → Int → Option (Int × Int)) (r : Int × Int)
  (hF : ∀ k acc i, F (k + 1) acc i = if (decide (i < (ds.length : Int))) = true then ((rd ds i).bind fun v => if (decide (v < 48)) = true then (some (0, 5)) else (if (decide (v > 57)) = true then (some (0, 5)) else (if far = true then F k acc (IntKind.i64.wrap (i + 1)) else F k (IntKind.u64.wrap ((IntKind.u64.wrap (10 * acc)) + (IntKind.u64.wrap (IntKind.u8.wrap (v - 48))))) (IntKind.i64.wrap (i + 1))))) else E k acc)
  (hE : ds.all isDb = true → Evt (fun k => E k (if far = true then 0 else val 0 ds)) r) (hbad : ds.all isDb = false → r = (0, 5)) : Evt (fun k => F k 0 0) r := by
 have key := loop_all (xs := ds) (F := fun k i s => F k s i) (E := fun k s => E k s) (by omega) (fun k i s => hF k s i)
  (Good := fun suf s => ∃ pre, ds = pre ++ suf ∧ pre.all isDb = true ∧ s = (if far = true then 0 else val 0 pre)) (R := fun _ _ => r)
  (fun s hs => by
   obtain ⟨pre, h1, h2, h3⟩ := hs
   rw [List.append_nil] at h1
   subst h1
   rw [h3]; exact hE h2)
  (fun i v suf s hi hv hg ih => by
   obtain ⟨pre, h1, h2, h3⟩ := hg
   by_cases c1 : v < 48
   ·refine Evt.pos (by simpa using c1) ?_
    rw [hbad ?_]; exact .pure _
    rw [h1, List.all_append, List.all_cons]
    have : isDb v = false := by simp [isDb]; omega
    rw [this]; simp
   refine Evt.neg (by simpa using c1) ?_
   by_cases c2 : v > 57
   ·refine Evt.pos (by simpa using c2) ?_
    rw [hbad ?_]; exact .pure _
    rw [h1, List.all_append, List.all_cons]
    have : isDb v = false := by simp [isDb]; omega
    rw [this]; simp
   refine Evt.neg (by simpa using c2) ?_
   have hv' : isDb v = true := by simp [isDb]; omega
   have hp' : (pre ++ [v]).all isDb = true := by rw [List.all_append, h2]; simp [hv']
   cases hf : far with
   | true =>
    refine Evt.pos rfl (ih s ⟨pre ++ [v], by rw [h1]; simp, hp', ?_⟩)
    rw [h3, hf]; rfl
   | false =>
    refine Evt.neg (by decide) ?_
    have hs : s = val 0 pre := by rw [h3, hf]; rfl
    have hl : ds.length ≤ 19 := by
     rw [hf] at hfar
     have := hfar.symm
     simp at this; omega
    have hpl : pre.length + 1 ≤ 19 := by rw [h1] at hl; simp at hl; omega
    have hlt := val_lt pre 0 (by decide) (allD h2)
    have h0 := val_nonneg pre 0 (by decide) (allD h2)
    have hb : (10 : Int) ^ pre.length ≤ 10 ^ 18 := by
     have : (10 : Nat) ^ pre.length ≤ 10 ^ 18 := Nat.pow_le_pow_right (by decide) (by omega)
     exact_mod_cast this
    have e18 : (10 : Int) ^ 18 = 1000000000000000000 := by decide
    have e1 : IntKind.u64.wrap ((IntKind.u64.wrap (10 * s)) + (IntKind.u64.wrap (IntKind.u8.wrap (v - 48)))) = val 0 (pre ++ [v]) := by
     rw [hs, val_app]
     simp only [val]
     rw [wrap_u64, wrap_u64, wrap_u64, wrap_u8]; omega
    rw [e1]
    refine ih _ ⟨pre ++ [v], by rw [h1]; simp, hp', ?_⟩
    rw [hf]; rfl) 0 ⟨[], rfl, rfl, by cases far <;> rfl⟩
 exact key

theorem size_dec (s : ByteArray) : decide ((s.size : Int) > 19) = decide ((bytesI s).length > 19) := by
 rw [bytesI_len]
 congr 1
 apply propext
 constructor <;> intro h <;> omega

theorem i64_neg_u {v : Int} (h0 : 0 ≤ v) (h1 : v ≤ 9223372036854775808) : IntKind.i64.wrap (0 - (IntKind.i64.wrap v)) = -v := by
 by_cases c : v = 9223372036854775808
 ·subst c; decide +kernel
 ·rw [wrap_i64 (n := v) (by omega) (by omega), wrap_i64 (by omega) (by omega)]; omega

theorem j0_ev (s x : ByteArray) (v2 : Int) (hs : s.size ≤ 1048576) (hx : x.size ≤ 1048576) (r : Int × Int) (hr : r = numD (v2 == 45) (decide (s.size ≤ 1)) (bytesI x)) : Evt (fun k => chars_Number.j0 k x s v2) r := by
 have hlen := bytesI_len x
 have hu := bytesI_u8 x
 have e0 : (x.toList == (⟨#[]⟩ : ByteArray).toList) = decide (bytesI x = []) := by rw [toList_beq]; rfl
 refine Evt.succ (fun k => by rw [chars_Number.j0]) ?_
 rw [e0]
 cases hb : bytesI x with
 | nil =>
  rw [hr, hb]
  exact Evt.pos rfl (.pure _)
 | cons d t =>
  rw [hb] at hr hlen hu
  refine Evt.neg (by simp) ?_
  rw [bt_eq, hb]
  refine Evt.some_bind (rd_0 d t) ?_
  have fin : ∀ (L : Nat → Int → Int → Option (Int × Int)) (E : Nat → Int → Option (Int × Int)),
    (∀ k acc i, L (k + 1) acc i = if (decide (i < ((d :: t).length : Int))) = true then ((rd (d :: t) i).bind fun v => if (decide (v < 48)) = true then (some (0, 5)) else (if (decide (v > 57)) = true then (some (0, 5)) else (if (decide ((x.size : Int) > 19)) = true then L k acc (IntKind.i64.wrap (i + 1)) else L k (IntKind.u64.wrap ((IntKind.u64.wrap (10 * acc)) + (IntKind.u64.wrap (IntKind.u8.wrap (v - 48))))) (IntKind.i64.wrap (i + 1))))) else E k acc) →
    (∀ acc, Evt (fun k => E k acc) (if decide ((x.size : Int) > 19) = true then (0, 4) else if (v2 == 45) = true then (if acc > 9223372036854775808 then (0, 4) else (IntKind.i64.wrap (0 - (IntKind.i64.wrap acc)), 0)) else (if acc > 9223372036854775807 then (0, 4) else (IntKind.i64.wrap acc, 0)))) →
    ¬ (d = 48 ∧ decide (s.size ≤ 1) = false) → Evt (fun k => L k 0 0) r := by
   intro L E hL hE hnot
   have hfar : decide ((x.size : Int) > 19) = decide ((d :: t).length > 19) := by rw [size_dec, hb]
   refine num_loop (d :: t) hu (by omega) (decide ((x.size : Int) > 19)) hfar L E r hL ?_ ?_
   ·intro hall
    have hn := val_nonneg (d :: t) 0 (by decide) (allD hall)
    have ha : ¬ (d :: t).all isDb = false := by rw [hall]; decide
    cases hfx : decide ((x.size : Int) > 19) with
    | true =>
     have h := hE 0
     rw [hfx] at h hfar
     have c : (d :: t).length > 19 := of_decide_eq_true hfar.symm
     have e : r = (0, 4) := by
      rw [hr]
      simp only [numD]
      rw [if_neg hnot, if_neg ha, if_pos c]
     rw [e]
     exact h
    | false =>
     have h := hE (val 0 (d :: t))
     rw [hfx] at h hfar
     have c : ¬ (d :: t).length > 19 := of_decide_eq_false hfar.symm
     have e : r = if (v2 == 45) = true then (if val 0 (d :: t) > 9223372036854775808 then (0, 4) else (- val 0 (d :: t), 0)) else (if val 0 (d :: t) > 9223372036854775807 then (0, 4) else (val 0 (d :: t), 0)) := by
      rw [hr]
      simp only [numD]
      rw [if_neg hnot, if_neg ha, if_neg c]
     rw [e]
     simp only [Bool.false_eq_true, if_false] at h ⊢
     cases hv : (v2 == 45) with
     | true =>
      rw [hv] at h
      rw [if_pos rfl] at h ⊢
      by_cases q : val 0 (d :: t) > 9223372036854775808
      ·rw [if_pos q] at h ⊢; exact h
      ·rw [if_neg q, i64_neg_u hn (by omega)] at h
       rw [if_neg q]; exact h
     | false =>
      rw [hv] at h
      rw [if_neg (by decide)] at h ⊢
      by_cases q : val 0 (d :: t) > 9223372036854775807
      ·rw [if_pos q] at h ⊢; exact h
      ·rw [if_neg q, wrap_i64 (by omega) (by omega)] at h
       rw [if_neg q]; exact h
   ·intro hall
    rw [hr]
    simp only [numD]
    rw [if_neg hnot, if_pos hall]
  have tailE : ∀ (J : Nat → Int → Int → ByteArray → Int → Option (Int × Int)) (hJ : ∀ k lim v2 x acc, J (k + 1) lim v2 x acc = if (decide ((x.size : Int) > 19)) = true then (some (0, 4)) else (if (decide (acc > lim)) = true then (some (0, 4)) else (if (v2 == 45) = true then (some (IntKind.i64.wrap (0 - (IntKind.i64.wrap acc)), 0)) else (some (IntKind.i64.wrap acc, 0)))))
    (acc : Int), Evt (fun k => if (v2 == 45) = true then J k 9223372036854775808 v2 x acc else J k 9223372036854775807 v2 x acc) (if decide ((x.size : Int) > 19) = true then (0, 4) else if (v2 == 45) = true then (if acc > 9223372036854775808 then (0, 4) else (IntKind.i64.wrap (0 - (IntKind.i64.wrap acc)), 0)) else (if acc > 9223372036854775807 then (0, 4) else (IntKind.i64.wrap acc, 0))) := by
   intro J hJ acc
   cases hv : (v2 == 45) with
   | true =>
    refine Evt.pos rfl (Evt.succ (fun k => hJ k _ _ _ _) (Evt.ite (fun _ => .pure _) fun _ => ?_))
    rw [if_pos rfl]
    refine Evt.iteD (fun _ => .pure _) fun _ => Evt.pos hv (.pure _)
   | false =>
    refine Evt.neg (by decide) (Evt.succ (fun k => hJ k _ _ _ _) (Evt.ite (fun _ => .pure _) fun _ => ?_))
    rw [if_neg (show ¬ (false = true) by decide)]
    refine Evt.iteD (fun _ => .pure _) fun _ => Evt.neg (by rw [hv]; decide) (.pure _)
  by_cases c : d = 48
  ·refine Evt.pos (by simpa using c) ?_
   by_cases c2 : s.size ≤ 1
   ·refine Evt.neg (by simp; omega) ?_
    exact fin (fun k a i => chars_Number.l1 k a i v2 x) (fun k acc => if (v2 == 45) = true then (chars_Number.j2 k 9223372036854775808 v2 x acc) else (chars_Number.j2 k 9223372036854775807 v2 x acc)) (fun k a i => by rw [chars_Number.l1, hb]) (tailE chars_Number.j2 (fun k lim v2 x acc => by rw [chars_Number.j2]))
     (by rintro ⟨_, h⟩; simp at h; omega)
   ·refine Evt.pos (by simp; omega) ?_
    rw [hr]
    simp only [numD]
    rw [if_pos ⟨c, decide_eq_false c2⟩]; exact .pure _
  ·refine Evt.neg (by simpa using c) ?_
   exact fin (fun k a i => chars_Number.l3 k a i v2 x) (fun k acc => if (v2 == 45) = true then (chars_Number.j4 k 9223372036854775808 v2 x acc) else (chars_Number.j4 k 9223372036854775807 v2 x acc)) (fun k a i => by rw [chars_Number.l3, hb]) (tailE chars_Number.j4 (fun k lim v2 x acc => by rw [chars_Number.j4]))
    (fun h => c h.1)

theorem extract1 (s : ByteArray) (c : Int) (t : List Int) (h : bytesI s = c :: t) : bytesI (s.extract 1 s.size) = t := by
 rw [bytesI_extract, h]
 have := bytesI_len s
 rw [h, List.length_cons] at this
 show (t.take (s.size - 1)) = t
 exact List.take_of_length_le (by omega)

theorem number_ev (s : ByteArray) (hs : s.size ≤ 1048576) : Evt (fun k => chars_Number.f k s) (numS (bytesI s)) := by
 have hlen := bytesI_len s
 simp only [chars_Number.f]
 cases hb : bytesI s with
 | nil =>
  rw [hb, List.length_nil] at hlen
  refine Evt.neg (by rw [decide_eq_true_eq]; omega) (Evt.pos ?_ (.pure _))
  rw [toList_beq, hb]; rfl
 | cons c t =>
  have hl2 := hlen
  rw [hb, List.length_cons] at hl2
  refine Evt.pos (by simp; omega) ?_
  rw [bt_eq, hb]
  refine Evt.some_bind (rd_0 c t) ?_
  simp only [numS]
  have hsz : decide ((c :: t).length ≤ 1) = decide (s.size ≤ 1) := by rw [List.length_cons, ← hl2]
  rw [hsz]
  by_cases h : c = 45
  ·rw [if_pos h]
   refine Evt.pos (by simpa using h) (Evt.pos (by simp; omega) ?_)
   refine j0_ev s _ c hs (by rw [← bytesI_len, extract1 s c t hb]; omega) _ ?_
   rw [extract1 s c t hb]
   have : (c == 45) = true := by simpa using h
   rw [this]
  ·rw [if_neg h]
   refine Evt.neg (by simpa using h) (j0_ev s s c hs hs _ ?_)
   have : (c == 45) = false := by simpa using h
   rw [this, hb]

theorem textS_inj {x : Int} {neg : Bool} {d : Int} {t : List Int} (hd : (d :: t).all isDb = true) (h0 : d ≠ 48 ∨ (t = [] ∧ neg = false)) : (textS x = (if neg = true then [45] else []) ++ (d :: t)) ↔ x = (if neg = true then - val 0 (d :: t) else val 0 (d :: t)) := by
 have hD := allD hd
 have hdd := hD d (by simp)
 have hv := dig_of_val d t hD (h0.imp id And.left)
 have hn := val_nonneg (d :: t) 0 (by decide) hD
 unfold IsD at hdd
 unfold textS
 cases neg with
 | true =>
  have h48 : d ≠ 48 := by rcases h0 with h | ⟨_, h⟩; exact h; cases h
  have hpos : 1 ≤ val 0 (d :: t) := by
   simp only [val]
   have := val_nonneg t (10 * 0 + (d - 48)) (by omega) fun x hx => hD x (by simp [hx])
   omega
  simp only [if_true, List.cons_append, List.nil_append]
  constructor
  ·intro h
   split at h
   ·rename_i hx
    have e : dig (-x).toNat = d :: t := by simpa using h
    have := dig_val (-x).toNat
    rw [e] at this; omega
   ·rename_i hx
    exfalso
    have := dig_D x.toNat 45 (by rw [h]; simp)
    unfold IsD at this; omega
  ·intro h
   rw [if_pos (by omega), h, Int.neg_neg, hv]
 | false =>
  simp only [Bool.false_eq_true, if_false, List.nil_append]
  constructor
  ·intro h
   split at h
   ·rename_i hx
    exfalso
    simp at h; omega
   ·rename_i hx
    have := dig_val x.toNat
    rw [h] at this; omega
  ·intro h
   rw [if_neg (by omega), h, hv]

theorem wrap_i64_mod (n : Int) : IntKind.i64.wrap n = if n % 18446744073709551616 ≥ 9223372036854775808 then n % 18446744073709551616 - 18446744073709551616 else n % 18446744073709551616 := by
 simp [IntKind.wrap, IntKind.bits, IntKind.signed]
theorem wrap_step (a d : Int) : IntKind.i64.wrap ((IntKind.i64.wrap (10 * IntKind.i64.wrap a)) - d) = IntKind.i64.wrap (10 * a - d) := by
 simp only [wrap_i64_mod]
 split <;> split <;> split <;> split <;> omega
theorem wrap_neg (a : Int) : IntKind.i64.wrap (0 - IntKind.i64.wrap a) = IntKind.i64.wrap (-a) := by
 simp only [wrap_i64_mod]
 split <;> split <;> split <;> omega
theorem wrap_range (a : Int) : -9223372036854775808 ≤ IntKind.i64.wrap a ∧ IntKind.i64.wrap a ≤ 9223372036854775807 := by
 rw [wrap_i64_mod]; split <;> omega

theorem refsum (x : ByteArray) (L : Nat → Int → Int → Option (Int × Int)) (E : Nat → Int → Option (Int × Int)) (r : Int × Int) (hx : x.size ≤ 1048576) (hD : ∀ d ∈ bytesI x, IsD d)
  (hL : ∀ k n i, L (k + 1) n i = if (decide (i < (x.size : Int))) = true then ((bt x i).bind fun v => L k (IntKind.i64.wrap ((IntKind.i64.wrap (10 * n)) - (IntKind.i64.wrap (IntKind.u8.wrap (v - 48))))) (IntKind.i64.wrap (i + 1))) else E k n)
  (hE : Evt (fun k => E k (IntKind.i64.wrap (- val 0 (bytesI x)))) r) : Evt (fun k => L k 0 0) r := by
 have hlen := bytesI_len x
 exact loop_all (xs := bytesI x) (F := fun k i s => L k s i) (E := fun k s => E k s) (G := fun k i v s => L k (IntKind.i64.wrap ((IntKind.i64.wrap (10 * s)) - (IntKind.i64.wrap (IntKind.u8.wrap (v - 48))))) (IntKind.i64.wrap (i + 1))) (by omega) (fun k i s => by rw [hL, hlen]; simp only [bt_eq])
  (Good := fun suf s => ∃ pre, bytesI x = pre ++ suf ∧ s = IntKind.i64.wrap (- val 0 pre)) (R := fun _ _ => r)
  (fun s hs => by
   obtain ⟨pre, h1, h2⟩ := hs
   rw [List.append_nil] at h1
   rw [h2, ← h1]; exact hE)
  (fun i v suf s hi hv hg ih => by
   obtain ⟨pre, h1, h2⟩ := hg
   have hvd := hD v (by rw [h1]; simp)
   unfold IsD at hvd
   refine ih _ ⟨pre ++ [v], by rw [h1]; simp, ?_⟩
   rw [val_app]
   simp only [val]
   rw [h2, wrap_u8, show (v - 48) % 256 = v - 48 by omega, wrap_i64 (n := v - 48) (by omega) (by omega), wrap_step]
   congr 1; omega) 0 ⟨[], rfl, rfl⟩

theorem refj0_ev (s x : ByteArray) (neg : Bool) (hs : s.size ≤ 1048576) (hneg : bytesI s = (if neg = true then [45] else []) ++ bytesI x) (h45 : neg = false → ∀ t, bytesI x ≠ 45 :: t) : Evt (fun k => dossierref01_Number.j0 k x s) (numD neg (decide (s.size ≤ 1)) (bytesI x)) := by
 have hlen := bytesI_len x
 have hslen := bytesI_len s
 have hu := bytesI_u8 x
 have hsx : s.size = (if neg = true then 1 else 0) + x.size := by
  rw [← hslen, ← hlen, hneg, List.length_append]; cases neg <;> rfl
 have hx : x.size ≤ 1048576 := by cases neg <;> simp at hsx <;> omega
 refine Evt.succ (fun k => by rw [dossierref01_Number.j0]) ?_
 cases hb : bytesI x with
 | nil => rw [hb, List.length_nil] at hlen; exact Evt.pos (by rw [beq_iff_eq]; omega) (.pure _)
 | cons d t =>
  rw [hb, List.length_cons] at hlen
  refine Evt.neg (by rw [beq_iff_eq]; omega) ?_
  rw [bt_eq, hb]
  refine Evt.some_bind (rd_0 d t) ?_
  -- the tail: of digits
  have fin : ∀ (C : Nat → Int → Option (Int × Int)) (L : Nat → Int → Int → Option (Int × Int)) (J : Nat → Int → ByteArray → Option (Int × Int)),
    (∀ k i, C (k + 1) i = if (decide (i < (x.size : Int))) = true then ((bt x i).bind fun v8 => if (decide (v8 < 48)) = true then (some (0, 5)) else ((bt x i).bind fun v10 => if (decide (v10 > 57)) = true then (some (0, 5)) else (C k (IntKind.i64.wrap (i + 1))))) else (if (decide ((x.size : Int) > 19)) = true then (some (0, 4)) else (L k 0 0))) →
    (∀ k n i, L (k + 1) n i = if (decide (i < (x.size : Int))) = true then ((bt x i).bind fun v => L k (IntKind.i64.wrap ((IntKind.i64.wrap (10 * n)) - (IntKind.i64.wrap (IntKind.u8.wrap (v - 48))))) (IntKind.i64.wrap (i + 1))) else (if ((x.size : Int) == (s.size : Int)) = true then (J k (IntKind.i64.wrap (0 - n)) s) else (J k n s))) →
    (∀ k n s, J (k + 1) n s = (dossierref01_Text.f k n).bind fun r18 => if (r18.toList == s.toList) = true then (some (n, 0)) else (some (0, 4))) →
    ¬ (d = 48 ∧ decide (s.size ≤ 1) = false) → Evt (fun k => C k 0) (numD neg (decide (s.size ≤ 1)) (d :: t)) := by
   intro C L J hC hL hJ hnot
   simp only [numD]
   rw [if_neg hnot]
   have key := loop_all (σ := Unit) (xs := d :: t) (F := fun k i _ => C k i) (E := fun k _ => if (decide ((x.size : Int) > 19)) = true then (some (0, 4)) else (L k 0 0)) (by rw [List.length_cons]; omega)
    (G := fun k i v _ => if (decide (v < 48)) = true then (some (0, 5)) else ((bt x i).bind fun v10 => if (decide (v10 > 57)) = true then (some (0, 5)) else (C k (IntKind.i64.wrap (i + 1)))))
    (fun k i _ => by rw [hC, ← hlen, bt_eq, hb, List.length_cons])
    (Good := fun suf _ => ∃ pre, d :: t = pre ++ suf ∧ pre.all isDb = true)
    (R := fun _ _ => (if (d :: t).all isDb = false then (0, 5)
  else if (d :: t).length > 19 then (0, 4)
  else if neg = true then (if val 0 (d :: t) > 9223372036854775808 then (0, 4) else (- val 0 (d :: t), 0))
  else (if val 0 (d :: t) > 9223372036854775807 then (0, 4) else (val 0 (d :: t), 0))))
    (fun _ hs' => by
     obtain ⟨pre, h1, h2⟩ := hs'
     rw [List.append_nil] at h1
     rw [← h1] at h2
     rw [if_neg (by rw [h2]; decide)]
     by_cases c : (d :: t).length > 19
     ·rw [if_pos c]; exact Evt.pos (by rw [List.length_cons] at c; simp; omega) (.pure _)
     rw [if_neg c]
     refine Evt.neg (by rw [List.length_cons] at c; simp; omega) ?_
     have hD := allD h2
     have hn := val_nonneg (d :: t) 0 (by decide) hD
     have hh : d ≠ 48 ∨ (t = [] ∧ neg = false) := by
      by_cases q : d = 48
      ·right
       have : s.size ≤ 1 := by
        apply Classical.byContradiction
        intro hc
        exact hnot ⟨q, decide_eq_false hc⟩
       cases neg with
       | true => simp at hsx; omega
       | false => simp at hsx; exact ⟨List.eq_nil_of_length_eq_zero (by omega), rfl⟩
      ·exact .inl q
     -- the end
     have last : ∀ n : Int, n = IntKind.i64.wrap (if neg = true then - val 0 (d :: t) else val 0 (d :: t)) → Evt (fun k => J k n s) (if neg = true then (if val 0 (d :: t) > 9223372036854775808 then (0, 4) else (- val 0 (d :: t), 0)) else (if val 0 (d :: t) > 9223372036854775807 then (0, 4) else (val 0 (d :: t), 0))) := by
      intro n hn'
      have hr : -9223372036854775808 ≤ n ∧ n ≤ 9223372036854775807 := by rw [hn']; exact wrap_range _
      refine Evt.succ (fun k => hJ k _ _) (Evt.bind (reftext_ev n.natAbs n (Nat.le_refl _) hr.1 hr.2) ?_)
      have hi := textS_inj (x := n) (neg := neg) h2 hh
      have ec : ((ofNums (textS n)).toList == s.toList) = decide (n = (if neg = true then - val 0 (d :: t) else val 0 (d :: t))) := by
       rw [toList_beq, bytesI_ofNums _ (textS_u8 n), hneg, hb]
       congr 1
       exact propext hi
      rw [ec]
      cases neg with
      | true =>
       simp only [if_true] at hn' ⊢
       by_cases q : val 0 (d :: t) > 9223372036854775808
       ·rw [if_pos q]; exact Evt.neg (by simp; omega) (.pure _)
       ·rw [if_neg q]
        have e : n = - val 0 (d :: t) := by rw [hn', wrap_i64 (by omega) (by omega)]
        refine Evt.pos (by simpa using e) ?_
        rw [e]; exact .pure _
      | false =>
       simp only [Bool.false_eq_true, if_false] at hn' ⊢
       by_cases q : val 0 (d :: t) > 9223372036854775807
       ·rw [if_pos q]; exact Evt.neg (by simp; omega) (.pure _)
       ·rw [if_neg q]
        have e : n = val 0 (d :: t) := by rw [hn', wrap_i64 (by omega) (by omega)]
        refine Evt.pos (by simpa using e) ?_
        rw [e]; exact .pure _
     refine refsum x L (fun k n => if ((x.size : Int) == (s.size : Int)) = true then (J k (IntKind.i64.wrap (0 - n)) s) else (J k n s)) _ hx (by rw [hb]; exact hD) hL ?_
     rw [hb]
     cases hng : neg with
     | true =>
      rw [hng] at last hsx
      refine Evt.neg (by simp at hsx ⊢; omega) (last _ rfl)
     | false =>
      rw [hng] at last hsx
      refine Evt.pos (by simp at hsx ⊢; omega) (last _ ?_)
      rw [wrap_neg, Int.neg_neg]; rfl)
    (fun i v suf _ hi hv hg ih => by
     obtain ⟨pre, h1, h2⟩ := hg
     have hrd : rd (d :: t) (i : Int) = some v := by rw [rd_nat]; exact hv
     by_cases c1 : v < 48
     ·refine Evt.pos (by simpa using c1) ?_
      rw [if_pos ?_]; exact .pure _
      rw [h1, List.all_append, List.all_cons]
      have : isDb v = false := by simp [isDb]; omega
      rw [this]; simp
     refine Evt.neg (by simpa using c1) ?_
     rw [bt_eq, hb]
     refine Evt.some_bind hrd ?_
     by_cases c2 : v > 57
     ·refine Evt.pos (by simpa using c2) ?_
      rw [if_pos ?_]; exact .pure _
      rw [h1, List.all_append, List.all_cons]
      have : isDb v = false := by simp [isDb]; omega
      rw [this]; simp
     have hv' : isDb v = true := by simp [isDb]; omega
     exact Evt.neg (by simpa using c2) (ih () ⟨pre ++ [v], by rw [h1]; simp, by rw [List.all_append, h2]; simp [hv']⟩)) () ⟨[], rfl, rfl⟩
   exact key
  by_cases c : d = 48
  ·refine Evt.pos (by simpa using c) ?_
   by_cases c2 : s.size ≤ 1
   ·refine Evt.neg (by simp; omega) ?_
    exact fin (fun k i => dossierref01_Number.l1 k i s x) (fun k n i => dossierref01_Number.l2 k n i s x) dossierref01_Number.j3 (fun k i => by rw [dossierref01_Number.l1]) (fun k n i => by rw [dossierref01_Number.l2]) (fun k n s => by rw [dossierref01_Number.j3])
     (by rintro ⟨_, h⟩; simp at h; omega)
   ·refine Evt.pos (by simp; omega) ?_
    simp only [numD]
    rw [if_pos ⟨c, decide_eq_false c2⟩]; exact .pure _
  ·refine Evt.neg (by simpa using c) ?_
   exact fin (fun k i => dossierref01_Number.l4 k i s x) (fun k n i => dossierref01_Number.l5 k n i s x) dossierref01_Number.j6 (fun k i => by rw [dossierref01_Number.l4]) (fun k n i => by rw [dossierref01_Number.l5]) (fun k n s => by rw [dossierref01_Number.j6])
    (fun h => c h.1)
theorem refnumber_ev (s : ByteArray) (hs : s.size ≤ 1048576) : Evt (fun k => dossierref01_Number.f k s) (numS (bytesI s)) := by
 have hlen := bytesI_len s
 simp only [dossierref01_Number.f]
 cases hb : bytesI s with
 | nil =>
  rw [hb, List.length_nil] at hlen
  refine Evt.neg (by rw [decide_eq_true_eq]; omega) ?_
  have := refj0_ev s s false hs rfl (fun _ t h => by rw [hb] at h; cases h)
  rw [hb] at this; exact this
 | cons c t =>
  have hl2 := hlen
  rw [hb, List.length_cons] at hl2
  refine Evt.pos (by simp; omega) ?_
  rw [bt_eq, hb]
  refine Evt.some_bind (rd_0 c t) ?_
  simp only [numS]
  have hsz : decide ((c :: t).length ≤ 1) = decide (s.size ≤ 1) := by rw [List.length_cons, ← hl2]
  rw [hsz]
  by_cases h : c = 45
  ·rw [if_pos h]
   refine Evt.pos (by simpa using h) (Evt.pos (by simp; omega) ?_)
   have := refj0_ev s (s.extract 1 s.size) true hs (by rw [extract1 s c t hb, hb, h]; rfl) (fun h => by cases h)
   rw [extract1 s c t hb] at this; exact this
  ·rw [if_neg h]
   refine Evt.neg (by simpa using h) ?_
   have := refj0_ev s s false hs rfl (fun _ t' h' => by rw [hb] at h'; cases h'; exact h rfl)
   rw [hb] at this; exact this

theorem numS_textS (n : Int) (h0 : -9223372036854775808 ≤ n) (h1 : n ≤ 9223372036854775807) : numS (textS n) = (n, 0) := by
 have hl := dig_i64 h0 h1
 unfold textS
 split
 ·rename_i c
  obtain ⟨d, t, e, hd⟩ := dig_head (-n).toNat (by omega)
  have hD : (d :: t).all isDb = true := by rw [← e]; exact List.all_eq_true.mpr fun x hx => isDb_iff.mpr (dig_D _ x hx)
  have hv := dig_val (-n).toNat
  rw [show (-n).toNat = n.natAbs by omega] at e hv
  rw [show (-n).toNat = n.natAbs by omega, e]
  rw [e] at hl hv
  simp only [numS, if_true, numD]
  rw [if_neg (fun h => hd h.1), if_neg (by rw [hD]; decide), if_neg (by omega), if_neg (by omega), hv]
  congr 1; omega
 ·rename_i c
  have hv := dig_val n.toNat
  rw [show n.toNat = n.natAbs by omega] at hv
  rw [show n.toNat = n.natAbs by omega]
  cases e : dig n.natAbs with
  | nil => exact absurd e (dig_ne _)
  | cons d t =>
   have hD : (d :: t).all isDb = true := by rw [← e]; exact List.all_eq_true.mpr fun x hx => isDb_iff.mpr (dig_D _ x hx)
   have hd := allD hD d (by simp)
   unfold IsD at hd
   rw [e] at hl hv
   simp only [numS]
   rw [if_neg (by omega)]
   simp only [numD]
   have hnot : ¬ (d = 48 ∧ decide ((d :: t).length ≤ 1) = false) := by
    rintro ⟨h48, hl1⟩
    by_cases q : n.natAbs = 0
    ·rw [q, dig_lt (by decide)] at e
     cases e; simp at hl1
    ·obtain ⟨d', t', e', hd'⟩ := dig_head n.natAbs q
     rw [e] at e'; cases e'; exact hd' h48
   rw [if_neg hnot, if_neg (by rw [hD]; decide), if_neg (by omega), if_neg (by decide), if_neg (by omega), hv]
   congr 1; omega
theorem numS_back (s : List Int) (hs : (numS s).2 = 0) : textS (numS s).1 = s ∧ -9223372036854775808 ≤ (numS s).1 ∧ (numS s).1 ≤ 9223372036854775807 := by
 have key : ∀ (neg : Bool) (ds : List Int) (one : Bool), (one = true → neg = false → ds.length ≤ 1) → (one = true → neg = true → ds = []) → (numD neg one ds).2 = 0 → textS (numD neg one ds).1 = (if neg = true then [45] else []) ++ ds ∧ -9223372036854775808 ≤ (numD neg one ds).1 ∧ (numD neg one ds).1 ≤ 9223372036854775807 := by
  intro neg ds one h1 h2 h
  cases ds with
  | nil => simp [numD] at h
  | cons d t =>
   simp only [numD] at h ⊢
   by_cases c1 : d = 48 ∧ one = false
   ·rw [if_pos c1] at h; simp at h
   rw [if_neg c1] at h ⊢
   by_cases c2 : (d :: t).all isDb = false
   ·rw [if_pos c2] at h; simp at h
   rw [if_neg c2] at h ⊢
   by_cases c3 : (d :: t).length > 19
   ·rw [if_pos c3] at h; simp at h
   rw [if_neg c3] at h ⊢
   have hD : (d :: t).all isDb = true := by simpa using c2
   have hn := val_nonneg (d :: t) 0 (by decide) (allD hD)
   have hh : d ≠ 48 ∨ (t = [] ∧ neg = false) := by
    by_cases q : d = 48
    ·right
     have ho : one = true := by
      cases one with
      | true => rfl
      | false => exact absurd ⟨q, rfl⟩ c1
     cases hng : neg with
     | true => exact absurd (h2 ho hng) (by simp)
     | false =>
      have := h1 ho hng
      simp only [List.length_cons] at this
      exact ⟨List.eq_nil_of_length_eq_zero (by omega), rfl⟩
    ·exact .inl q
   cases hng : neg with
   | true =>
    rw [hng] at h hh
    rw [if_pos rfl] at h ⊢
    by_cases c4 : val 0 (d :: t) > 9223372036854775808
    ·rw [if_pos c4] at h; simp at h
    rw [if_neg c4] at h ⊢
    exact ⟨(textS_inj (neg := true) hD hh).mpr rfl, by simp; omega, by simp; omega⟩
   | false =>
    rw [hng] at h hh
    rw [if_neg (by decide)] at h ⊢
    by_cases c4 : val 0 (d :: t) > 9223372036854775807
    ·rw [if_pos c4] at h; simp at h
    rw [if_neg c4] at h ⊢
    exact ⟨(textS_inj (neg := false) hD hh).mpr rfl, by simp; omega, by simp; omega⟩
 cases s with
 | nil => simp [numS] at hs
 | cons c t =>
  simp only [numS] at hs ⊢
  by_cases h : c = 45
  ·rw [if_pos h] at hs ⊢
   have := key true t (decide ((c :: t).length ≤ 1)) (fun _ h => by cases h) (fun h _ => by simp at h; exact h) hs
   rw [h]; simpa [h] using this
  ·rw [if_neg h] at hs ⊢
   have := key false (c :: t) (decide ((c :: t).length ≤ 1)) (fun h _ => by simpa using h) (fun _ h => by cases h) hs
   simpa using this
end Go.Abs.GenQ
