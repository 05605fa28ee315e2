import Derived.Test.YtknfjmongeddgaaDoorPlCharsD
set_option linter.unusedVariables false
set_option linter.unusedSimpArgs false
set_option linter.unnecessarySimpa false
set_option maxRecDepth 100000
set_option maxHeartbeats 4000000
namespace Go.Abs.GenC
open Go.Abs

/-! ### decimal digits -/
def dig (n : Nat) : List Int := if n < 10 then [48 + (n : Int)] else dig (n / 10) ++ [48 + ((n % 10 : Nat) : Int)]
termination_by n
theorem dig_lt {n : Nat} (h : n < 10) : dig n = [48 + (n : Int)] := by rw [dig, if_pos h]
theorem dig_ge {n : Nat} (h : ¬ n < 10) : dig n = dig (n / 10) ++ [48 + ((n % 10 : Nat) : Int)] := by rw [dig, if_neg h]
def val : Int → List Int → Int
  | a, [] => a
  | a, d :: ds => val (10 * a + (d - 48)) ds
def IsD (d : Int) : Prop := 48 ≤ d ∧ d ≤ 57
theorem val_app (a : Int) (xs ys : List Int) : val a (xs ++ ys) = val (val a xs) ys := by
  induction xs generalizing a with
  | nil => rfl
  | cons x xs ih => exact ih _
theorem dig_ne (n : Nat) : dig n ≠ [] := by
  rw [dig]; split <;> simp
theorem dig_D : ∀ n, ∀ d ∈ dig n, IsD d := by
  intro n
  induction n using Nat.strongRecOn with
  | _ n ih =>
    intro d hd
    by_cases h : n < 10
    · rw [dig_lt h] at hd
      simp at hd; subst hd; unfold IsD; omega
    · rw [dig_ge h] at hd
      rcases List.mem_append.mp hd with hd | hd
      · exact ih (n / 10) (by omega) d hd
      · simp at hd; subst hd; unfold IsD; omega
theorem dig_val : ∀ n, val 0 (dig n) = (n : Int) := by
  intro n
  induction n using Nat.strongRecOn with
  | _ n ih =>
    by_cases h : n < 10
    · rw [dig_lt h]; simp only [val]; omega
    · rw [dig_ge h, val_app, ih (n / 10) (by omega)]
      simp only [val]; omega
theorem dig_len : ∀ (m n : Nat), 1 ≤ m → n < 10 ^ m → (dig n).length ≤ m := by
  intro m
  induction m with
  | zero => intro n h; omega
  | succ m ih =>
    intro n _ hn
    by_cases h : n < 10
    · rw [dig_lt h]; simp
    · rw [dig_ge h, List.length_append]
      have : m ≠ 0 := by rintro rfl; simp at hn; omega
      have := ih (n / 10) (by omega) (by rw [Nat.pow_succ] at hn; omega)
      simp only [List.length_cons, List.length_nil]; omega
theorem dig_head : ∀ n, n ≠ 0 → ∃ d t, dig n = d :: t ∧ d ≠ 48 := by
  intro n
  induction n using Nat.strongRecOn with
  | _ n ih =>
    intro h0
    by_cases h : n < 10
    · exact ⟨_, _, dig_lt h, by omega⟩
    · obtain ⟨d, t, e, hd⟩ := ih (n / 10) (by omega) (by omega)
      exact ⟨d, t ++ [48 + ((n % 10 : Nat) : Int)], by rw [dig_ge h, e]; rfl, hd⟩
theorem val_nonneg : ∀ (ds : List Int) (a : Int), 0 ≤ a → (∀ d ∈ ds, IsD d) → a ≤ val a ds := by
  intro ds
  induction ds with
  | nil => intro a _ _; exact Int.le_refl _
  | cons d ds ih =>
    intro a ha h
    have hd := h d (by simp); unfold IsD at hd
    have := ih (10 * a + (d - 48)) (by omega) fun x hx => h x (by simp [hx])
    simp only [val]; omega
theorem val_lt : ∀ (ds : List Int) (a : Int), 0 ≤ a → (∀ d ∈ ds, IsD d) → val a ds < (a + 1) * 10 ^ ds.length := by
  intro ds
  induction ds with
  | nil => intro a _ _; simp [val]; omega
  | cons d ds ih =>
    intro a ha h
    have hd := h d (by simp); unfold IsD at hd
    have h1 := ih (10 * a + (d - 48)) (by omega) fun x hx => h x (by simp [hx])
    simp only [val, List.length_cons]
    have h2 : (10 * a + (d - 48) + 1) * 10 ^ ds.length ≤ ((a + 1) * 10) * 10 ^ ds.length := Int.mul_le_mul_of_nonneg_right (by omega) (Int.pow_nonneg (by decide))
    have h3 : ((a + 1) * 10) * 10 ^ ds.length = (a + 1) * 10 ^ (ds.length + 1) := by rw [Int.pow_succ, Int.mul_assoc, Int.mul_comm 10]
    omega
/-- the digits are those of the value, where they begin as digits do. -/
theorem dig_of_val (d : Int) (t : List Int) (hd : ∀ x ∈ d :: t, IsD x) (h0 : d ≠ 48 ∨ t = []) : dig (val 0 (d :: t)).toNat = d :: t := by
  have key : ∀ (n : Nat) (t : List Int), t.length = n → (∀ x ∈ d :: t, IsD x) → (d ≠ 48 ∨ t = []) → dig (val 0 (d :: t)).toNat = d :: t := by
    intro n
    induction n with
    | zero =>
      intro t ht hd _
      have : t = [] := List.eq_nil_of_length_eq_zero ht
      subst this
      have := hd d (by simp); unfold IsD at this
      simp only [val]
      rw [dig_lt (by omega)]
      congr 1; omega
    | succ n ih =>
      intro t ht hd h0
      have hne : t ≠ [] := by rintro rfl; simp at ht
      have h48 : d ≠ 48 := by rcases h0 with h | h; exact h; exact absurd h hne
      have e : t = t.dropLast ++ [t.getLast hne] := (List.dropLast_concat_getLast hne).symm
      generalize t.dropLast = u at e
      generalize t.getLast hne = c at e
      subst e
      have hc := hd c (by simp); unfold IsD at hc
      have hd' := hd d (by simp); unfold IsD at hd'
      have ih' := ih u (by simp at ht; omega) (fun x hx => hd x (by rcases List.mem_cons.mp hx with rfl | hx; simp; simp [hx])) (.inl h48)
      have hv : val 0 (d :: (u ++ [c])) = 10 * val 0 (d :: u) + (c - 48) := by
        rw [← List.cons_append, val_app]; rfl
      have hpos : 1 ≤ val 0 (d :: u) := by
        simp only [val]
        have := val_nonneg u (10 * 0 + (d - 48)) (by omega) fun x hx => hd x (by simp [hx])
        omega
      rw [hv, dig_ge (by omega)]
      rw [show (10 * val 0 (d :: u) + (c - 48)).toNat / 10 = (val 0 (d :: u)).toNat by omega, ih', show (10 * val 0 (d :: u) + (c - 48)).toNat % 10 = (c - 48).toNat by omega]
      rw [← List.cons_append]
      congr 2; omega
  exact key _ t rfl hd h0

def textS (n : Int) : List Int := if n < 0 then 45 :: dig (-n).toNat else dig n.toNat
theorem dig_u8 (n : Nat) : U8s (dig n) := fun x hx => by have := dig_D n x hx; unfold IsD at this; omega
theorem textS_u8 (n : Int) : U8s (textS n) := by
  unfold textS; split
  · exact U8s.cons (by decide) (by decide) (dig_u8 _)
  · exact dig_u8 _
theorem dig_i64 {n : Int} (h0 : -9223372036854775808 ≤ n) (h1 : n ≤ 9223372036854775807) : (dig n.natAbs).length ≤ 19 := dig_len 19 _ (by decide) (by omega)

/-! ### a number's text, by the document -/
theorem one_digit (a : Int) (h0 : 0 ≤ a) (h1 : a < 10) : (⟨#[48, 49, 50, 51, 52, 53, 54, 55, 56, 57]⟩ : ByteArray).extract a.toNat (IntKind.i64.wrap (a + 1)).toNat = ofNums (dig a.toNat) := by
  rw [wrap_i64 (by omega) (by omega)]
  have key : ∀ n : Fin 10, bytesI ((⟨#[48, 49, 50, 51, 52, 53, 54, 55, 56, 57]⟩ : ByteArray).extract n.val (n.val + 1)) = [48 + (n.val : Int)] := by decide +kernel
  have k := key ⟨a.toNat, by omega⟩
  apply bytesI_inj
  rw [bytesI_ofNums _ (dig_u8 _), dig_lt (by omega)]
  rw [show (a + 1).toNat = a.toNat + 1 by omega]
  exact k
theorem ofNums_app (xs ys : List Int) : ofNums xs ++ ofNums ys = ofNums (xs ++ ys) := by
  apply ByteArray.ext
  rw [ByteArray.data_append]
  simp [ofNums]
theorem reftext_ev : ∀ (m : Nat) (n : Int), n.natAbs ≤ m → -9223372036854775808 ≤ n → n ≤ 9223372036854775807 → Evt (fun k => dossierref01_Text.f k n) (ofNums (textS n)) := by
  intro m
  induction m with
  | zero =>
    intro n hm h0 h1
    obtain rfl : n = 0 := by omega
    refine Evt.succ (fun k => by rw [dossierref01_Text.f]) (Evt.neg (by decide) (Evt.pos (by decide) (Evt.pos (by decide) ?_)))
    have := one_digit 0 (by decide) (by decide)
    have e : textS 0 = dig (0 : Int).toNat := rfl
    rw [this, e]; exact .pure _
  | succ m ih =>
    intro n hm h0 h1
    refine Evt.succ (fun k => by rw [dossierref01_Text.f]) ?_
    have hl := dig_i64 h0 h1
    by_cases c : n < 0
    · refine Evt.pos (by simpa using c) ?_
      by_cases c2 : n > -10
      · refine Evt.pos (by simpa using c2) ?_
        rw [wrap_i64 (by omega) (by omega)]
        by_cases hm2 : (0 - n).natAbs ≤ m
        · refine Evt.bind (ih (0 - n) hm2 (by omega) (by omega)) (Evt.pos ?_ ?_)
          · rw [size_ofNums]
            have e : textS (0 - n) = dig (0 - n).toNat := by unfold textS; rw [if_neg (by omega)]
            rw [e, dig_lt (by omega), decide_eq_true_eq, show (⟨#[45]⟩ : ByteArray).size = 1 from rfl]; simp
          · have e1 : (⟨#[45]⟩ : ByteArray) = ofNums [45] := by decide +kernel
            have e2 : [45] ++ textS (0 - n) = textS n := by
              unfold textS
              rw [if_neg (by omega), if_pos c, show -n = 0 - n by omega]; rfl
            rw [e1, ofNums_app, e2]; exact .pure _
        · -- the number itself has as many
          refine Evt.bind (a := ofNums (dig (0 - n).toNat)) ?_ (Evt.pos ?_ ?_)
          · refine Evt.succ (fun k => by rw [dossierref01_Text.f]) (Evt.neg (by simp; omega) (Evt.pos (by simp; omega) (Evt.pos ?_ ?_)))
            · rw [wrap_i64 (by omega) (by omega)]
              have : ((⟨#[48, 49, 50, 51, 52, 53, 54, 55, 56, 57]⟩ : ByteArray).size : Int) = 10 := by decide
              rw [this, decide_eq_true_eq]; omega
            · rw [one_digit _ (by omega) (by omega)]; exact .pure _
          · rw [size_ofNums, dig_lt (by omega), decide_eq_true_eq, show (⟨#[45]⟩ : ByteArray).size = 1 from rfl]; simp
          · have e1 : (⟨#[45]⟩ : ByteArray) = ofNums [45] := by decide +kernel
            have e2 : [45] ++ dig (0 - n).toNat = textS n := by
              unfold textS
              rw [if_pos c, show -n = 0 - n by omega]; rfl
            rw [e1, ofNums_app, e2]; exact .pure _
      · refine Evt.neg (by simpa using c2) ?_
        have t1 : Int.tdiv n 10 = -((-n) / 10) := by
          rw [show n = -(-n) by omega, Int.neg_tdiv, Int.tdiv_eq_ediv_of_nonneg (by omega)]; omega
        have t2 : Int.tmod n 10 = -((-n) % 10) := by
          rw [show n = -(-n) by omega, Int.neg_tmod, Int.tmod_eq_emod_of_nonneg (by omega)]; omega
        rw [t1, t2, wrap_i64 (by omega) (by omega), wrap_i64 (by omega) (by omega)]
        refine Evt.bind (ih (-((-n) / 10)) (by omega) (by omega) (by omega)) (Evt.bind (ih (0 - -((-n) % 10)) (by omega) (by omega) (by omega)) ?_)
        have e1 : textS (-((-n) / 10)) = 45 :: dig ((-n).toNat / 10) := by
          unfold textS
          rw [if_pos (by omega), show (- -((-n) / 10)).toNat = (-n).toNat / 10 by omega]
        have e2 : textS (0 - -((-n) % 10)) = [48 + (((-n).toNat % 10 : Nat) : Int)] := by
          unfold textS
          rw [if_neg (by omega), show (0 - -((-n) % 10)).toNat = (-n).toNat % 10 by omega, dig_lt (by omega)]
        have e3 : textS n = (45 :: dig ((-n).toNat / 10)) ++ [48 + (((-n).toNat % 10 : Nat) : Int)] := by
          unfold textS
          rw [if_pos c, dig_ge (by omega)]; rfl
        have hl2 : (dig ((-n).toNat / 10)).length ≤ 19 := dig_len 19 _ (by decide) (by omega)
        rw [e1, e2]
        refine Evt.pos ?_ ?_
        · rw [size_ofNums, size_ofNums, decide_eq_true_eq]; simp; omega
        · rw [ofNums_app, ← e3]; exact .pure _
    · refine Evt.neg (by simpa using c) ?_
      by_cases c2 : n < 10
      · refine Evt.pos (by simpa using c2) (Evt.pos ?_ ?_)
        · rw [wrap_i64 (by omega) (by omega)]
          have : ((⟨#[48, 49, 50, 51, 52, 53, 54, 55, 56, 57]⟩ : ByteArray).size : Int) = 10 := by decide
          rw [this, decide_eq_true_eq]; omega
        · have e : textS n = dig n.toNat := by unfold textS; rw [if_neg c]
          rw [one_digit n (by omega) c2, e]; exact .pure _
      · refine Evt.neg (by simpa using c2) ?_
        have t1 : Int.tdiv n 10 = n / 10 := Int.tdiv_eq_ediv_of_nonneg (by omega)
        have t2 : Int.tmod n 10 = n % 10 := Int.tmod_eq_emod_of_nonneg (by omega)
        rw [t1, t2, wrap_i64 (by omega) (by omega)]
        refine Evt.bind (ih (n / 10) (by omega) (by omega) (by omega)) (Evt.bind (ih (n % 10) (by omega) (by omega) (by omega)) ?_)
        have e1 : textS (n / 10) = dig (n.toNat / 10) := by
          unfold textS
          rw [if_neg (by omega), show (n / 10).toNat = n.toNat / 10 by omega]
        have e2 : textS (n % 10) = [48 + ((n.toNat % 10 : Nat) : Int)] := by
          unfold textS
          rw [if_neg (by omega), show (n % 10).toNat = n.toNat % 10 by omega, dig_lt (by omega)]
        have e3 : textS n = dig (n.toNat / 10) ++ [48 + ((n.toNat % 10 : Nat) : Int)] := by
          unfold textS
          rw [if_neg c, dig_ge (by omega)]
        have hl2 : (dig (n.toNat / 10)).length ≤ 19 := dig_len 19 _ (by decide) (by omega)
        rw [e1, e2]
        refine Evt.pos ?_ ?_
        · rw [size_ofNums, size_ofNums, decide_eq_true_eq]; simp; omega
        · rw [ofNums_app, ← e3]; exact .pure _

/-! ### a number's text, by the program -/
theorem dcase (left : Int) (h0 : -9223372036854775808 ≤ left) (h1 : left ≤ 9223372036854775807) :
    IntKind.u8.wrap (IntKind.i64.wrap (48 + (if (IntKind.i64.wrap (0 - (Int.tmod left 10))) > (Int.tmod left 10) then (IntKind.i64.wrap (0 - (Int.tmod left 10))) else (Int.tmod left 10)))) = 48 + ((left.natAbs % 10 : Nat) : Int) ∧
    IntKind.i64.wrap (Int.tdiv left 10) = Int.tdiv left 10 ∧ (Int.tdiv left 10).natAbs = left.natAbs / 10 := by
  have t2 : (0 ≤ left → Int.tmod left 10 = left % 10 ∧ Int.tdiv left 10 = left / 10) := fun h => ⟨Int.tmod_eq_emod_of_nonneg h, Int.tdiv_eq_ediv_of_nonneg h⟩
  have t3 : (left < 0 → Int.tmod left 10 = -((-left) % 10) ∧ Int.tdiv left 10 = -((-left) / 10)) := fun h => by
    constructor
    · rw [show left = -(-left) by omega, Int.neg_tmod, Int.tmod_eq_emod_of_nonneg (by omega)]; omega
    · rw [show left = -(-left) by omega, Int.neg_tdiv, Int.tdiv_eq_ediv_of_nonneg (by omega)]; omega
  by_cases c : left < 0
  · obtain ⟨e1, e2⟩ := t3 c
    rw [e1, e2, wrap_i64 (n := 0 - -((-left) % 10)) (by omega) (by omega)]
    refine ⟨?_, wrap_i64 (by omega) (by omega), by omega⟩
    split
    · rw [wrap_i64 (by omega) (by omega), wrap_u8]; omega
    · rw [wrap_i64 (by omega) (by omega), wrap_u8]; omega
  · obtain ⟨e1, e2⟩ := t2 (by omega)
    rw [e1, e2, wrap_i64 (n := 0 - (left % 10)) (by omega) (by omega)]
    refine ⟨?_, wrap_i64 (by omega) (by omega), by omega⟩
    split
    · rw [wrap_i64 (by omega) (by omega), wrap_u8]; omega
    · rw [wrap_i64 (by omega) (by omega), wrap_u8]; omega
theorem drop_set {xs : List Int} {n : Nat} (h : n < xs.length) (c : Int) : (xs.set n c).drop n = c :: xs.drop (n + 1) := by
  rw [List.drop_set, if_neg (by omega), Nat.sub_self, List.drop_eq_getElem_cons h]; rfl
theorem text_loop (a0 : Int) : ∀ (m : Nat) (left : Int) (arr : List Int) (at_ : Nat), left.natAbs = m → -9223372036854775808 ≤ left → left ≤ 9223372036854775807 → arr.length = 20 → at_ ≤ 20 → (dig m).length + 1 ≤ at_ →
    Evt (fun k => chars_Text.l0 k arr (at_ : Int) left a0) (ofNums ((if a0 < 0 then [45] else []) ++ (dig m ++ arr.drop at_))) := by
  intro m
  induction m using Nat.strongRecOn with
  | _ m ih =>
    intro left arr at_ hm h0 h1 ha h20 hl
    have hne : 1 ≤ (dig m).length := List.length_pos_iff.mpr (dig_ne m)
    obtain ⟨d1, d2, d3⟩ := dcase left h0 h1
    refine Evt.succ (fun k => by rw [chars_Text.l0]) ?_
    rw [d1, d2, wrap_i64 (n := (at_ : Int) - 1) (by omega) (by omega), show (at_ : Int) - 1 = ((at_ - 1 : Nat) : Int) by omega, Int.toNat_natCast]
    refine Evt.pos (by simp; omega) (Evt.some_bind (rd_lt (by omega)) ?_)
    have hds := drop_set (xs := arr) (n := at_ - 1) (by omega) (48 + ((left.natAbs % 10 : Nat) : Int))
    rw [show at_ - 1 + 1 = at_ by omega] at hds
    by_cases c : m < 10
    · have hz : Int.tdiv left 10 = 0 := by omega
      rw [hz]
      refine Evt.pos rfl ?_
      have em : left.natAbs % 10 = m := by omega
      rw [em] at hds ⊢
      by_cases cn : a0 < 0
      · refine Evt.pos (by simpa using cn) ?_
        rw [wrap_i64 (n := ((at_ - 1 : Nat) : Int) - 1) (by omega) (by omega), show ((at_ - 1 : Nat) : Int) - 1 = ((at_ - 2 : Nat) : Int) by omega, Int.toNat_natCast]
        refine Evt.pos (by simp; omega) (Evt.some_bind (rd_lt (by simp; omega)) (Evt.pos (by simp; omega) ?_))
        have hd2 := drop_set (xs := arr.set (at_ - 1) (48 + (m : Int))) (n := at_ - 2) (by simp; omega) 45
        rw [show at_ - 2 + 1 = at_ - 1 by omega, hds] at hd2
        rw [hd2, List.take_of_length_le (by simp; omega), if_pos cn, dig_lt c]
        exact .pure _
      · refine Evt.neg (by simpa using cn) (Evt.pos (by simp; omega) ?_)
        rw [hds, List.take_of_length_le (by simp; omega), if_neg cn, dig_lt c]
        exact .pure _
    · have hz : ¬ Int.tdiv left 10 = 0 := by omega
      refine Evt.neg (by simpa using hz) ?_
      rw [dig_ge c] at hl ⊢
      simp only [List.length_append, List.length_cons, List.length_nil] at hl
      have := ih (m / 10) (by omega) (Int.tdiv left 10) (arr.set (at_ - 1) (48 + ((left.natAbs % 10 : Nat) : Int))) (at_ - 1) (by omega) (by omega) (by omega) (by simp; omega) (by omega) (by omega)
      rw [hds, hm] at this
      rw [hm]
      simpa using this
theorem text_ev (n : Int) (h0 : -9223372036854775808 ≤ n) (h1 : n ≤ 9223372036854775807) : Evt (fun k => chars_Text.f k n) (ofNums (textS n)) := by
  simp only [chars_Text.f]
  have hl := dig_i64 h0 h1
  have := text_loop n n.natAbs n (List.replicate 20 (0 : Int)) 20 rfl h0 h1 (by simp) (by decide) (by omega)
  have e : textS n = (if n < 0 then [45] else []) ++ (dig n.natAbs ++ (List.replicate 20 (0 : Int)).drop 20) := by
    unfold textS
    split
    · rw [show (-n).toNat = n.natAbs by omega]; simp
    · rw [show n.toNat = n.natAbs by omega]; simp
  rw [e]; exact this
end Go.Abs.GenC
