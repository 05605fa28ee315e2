import Derived.Test.YthdbbamkjmogfaaDoorPlSC
import Derived.Test.YthdbbamkjmogfaaDoorGenSc
set_option linter.unnecessarySimpa false
set_option linter.unusedVariables false
set_option linter.unusedSimpArgs false
set_option maxRecDepth 100000
set_option maxHeartbeats 4000000
namespace Go.Abs.GenS
open Go.Abs
theorem one_digit (a : Int) (h0 : 0 ≤ a) (h1 : a < 10) : (⟨#[48, 49, 50, 51, 52, 53, 54, 55, 56, 57]⟩ : ByteArray).extract a.toNat (IntKind.i64.wrap (a + 1)).toNat = ofNums (dig a.toNat) := by
  rw [wrap_i64 (by omega) (by omega)]
  have key : ∀ n : Fin 10, bytesI ((⟨#[48, 49, 50, 51, 52, 53, 54, 55, 56, 57]⟩ : ByteArray).extract n.val (n.val + 1)) = [48 + (n.val : Int)] := by decide +kernel
  have k := key ⟨a.toNat, by omega⟩
  apply bytesI_inj
  rw [bytesI_ofNums _ (dig_u8 _), dig_lt (by omega)]
  rw [show (a + 1).toNat = a.toNat + 1 by omega]
  exact k
theorem reftext_ev : ∀ (m : Nat) (n : Int), n.natAbs ≤ m → -9223372036854775808 ≤ n → n ≤ 9223372036854775807 → Evt (fun k => dossierref01_Text.f k n) (ofNums (textS n)) := by
  intro m
  induction m with
  | zero =>
    intro n hm h0 h1
    obtain rfl : n = 0 := by omega
    refine Evt.succ (fun k => by rw [dossierref01_Text.f]) (Evt.neg (by decide) (Evt.pos (by decide) (Evt.pos (by decide) ?_)))
    have := one_digit 0 (by decide) (by decide)
    have e : textS 0 = dig (0 : Int).toNat := rfl
    rw [this, e]; exact .pure _
  | succ m ih =>
    intro n hm h0 h1
    refine Evt.succ (fun k => by rw [dossierref01_Text.f]) ?_
    have hl := dig_i64 h0 h1
    by_cases c : n < 0
    · refine Evt.pos (by simpa using c) ?_
      by_cases c2 : n > -10
      · refine Evt.pos (by simpa using c2) ?_
        rw [wrap_i64 (by omega) (by omega)]
        by_cases hm2 : (0 - n).natAbs ≤ m
        · refine Evt.bind (ih (0 - n) hm2 (by omega) (by omega)) (Evt.pos ?_ ?_)
          · rw [size_ofNums]
            have e : textS (0 - n) = dig (0 - n).toNat := by unfold textS; rw [if_neg (by omega)]
            rw [e, dig_lt (by omega), decide_eq_true_eq, show (⟨#[45]⟩ : ByteArray).size = 1 from rfl]; simp
          · have e1 : (⟨#[45]⟩ : ByteArray) = ofNums [45] := by decide +kernel
            have e2 : [45] ++ textS (0 - n) = textS n := by
              unfold textS
              rw [if_neg (by omega), if_pos c, show -n = 0 - n by omega]; rfl
            rw [e1, ofNums_app, e2]; exact .pure _
        · -- the number itself has as many
          refine Evt.bind (a := ofNums (dig (0 - n).toNat)) ?_ (Evt.pos ?_ ?_)
          · refine Evt.succ (fun k => by rw [dossierref01_Text.f]) (Evt.neg (by simp; omega) (Evt.pos (by simp; omega) (Evt.pos ?_ ?_)))
            · rw [wrap_i64 (by omega) (by omega)]
              have : ((⟨#[48, 49, 50, 51, 52, 53, 54, 55, 56, 57]⟩ : ByteArray).size : Int) = 10 := by decide
              rw [this, decide_eq_true_eq]; omega
            · rw [one_digit _ (by omega) (by omega)]; exact .pure _
          · rw [size_ofNums, dig_lt (by omega), decide_eq_true_eq, show (⟨#[45]⟩ : ByteArray).size = 1 from rfl]; simp
          · have e1 : (⟨#[45]⟩ : ByteArray) = ofNums [45] := by decide +kernel
            have e2 : [45] ++ dig (0 - n).toNat = textS n := by
              unfold textS
              rw [if_pos c, show -n = 0 - n by omega]; rfl
            rw [e1, ofNums_app, e2]; exact .pure _
      · refine Evt.neg (by simpa using c2) ?_
        have t1 : Int.tdiv n 10 = -((-n) / 10) := by
          rw [show n = -(-n) by omega, Int.neg_tdiv, Int.tdiv_eq_ediv_of_nonneg (by omega)]; omega
        have t2 : Int.tmod n 10 = -((-n) % 10) := by
          rw [show n = -(-n) by omega, Int.neg_tmod, Int.tmod_eq_emod_of_nonneg (by omega)]; omega
        rw [t1, t2, wrap_i64 (by omega) (by omega), wrap_i64 (by omega) (by omega)]
        refine Evt.bind (ih (-((-n) / 10)) (by omega) (by omega) (by omega)) (Evt.bind (ih (0 - -((-n) % 10)) (by omega) (by omega) (by omega)) ?_)
        have e1 : textS (-((-n) / 10)) = 45 :: dig ((-n).toNat / 10) := by
          unfold textS
          rw [if_pos (by omega), show (- -((-n) / 10)).toNat = (-n).toNat / 10 by omega]
        have e2 : textS (0 - -((-n) % 10)) = [48 + (((-n).toNat % 10 : Nat) : Int)] := by
          unfold textS
          rw [if_neg (by omega), show (0 - -((-n) % 10)).toNat = (-n).toNat % 10 by omega, dig_lt (by omega)]
        have e3 : textS n = (45 :: dig ((-n).toNat / 10)) ++ [48 + (((-n).toNat % 10 : Nat) : Int)] := by
          unfold textS
          rw [if_pos c, dig_ge (by omega)]; rfl
        have hl2 : (dig ((-n).toNat / 10)).length ≤ 19 := dig_len 19 _ (by decide) (by omega)
        rw [e1, e2]
        refine Evt.pos ?_ ?_
        · rw [size_ofNums, size_ofNums, decide_eq_true_eq]; simp; omega
        · rw [ofNums_app, ← e3]; exact .pure _
    · refine Evt.neg (by simpa using c) ?_
      by_cases c2 : n < 10
      · refine Evt.pos (by simpa using c2) (Evt.pos ?_ ?_)
        · rw [wrap_i64 (by omega) (by omega)]
          have : ((⟨#[48, 49, 50, 51, 52, 53, 54, 55, 56, 57]⟩ : ByteArray).size : Int) = 10 := by decide
          rw [this, decide_eq_true_eq]; omega
        · have e : textS n = dig n.toNat := by unfold textS; rw [if_neg c]
          rw [one_digit n (by omega) c2, e]; exact .pure _
      · refine Evt.neg (by simpa using c2) ?_
        have t1 : Int.tdiv n 10 = n / 10 := Int.tdiv_eq_ediv_of_nonneg (by omega)
        have t2 : Int.tmod n 10 = n % 10 := Int.tmod_eq_emod_of_nonneg (by omega)
        rw [t1, t2, wrap_i64 (by omega) (by omega)]
        refine Evt.bind (ih (n / 10) (by omega) (by omega) (by omega)) (Evt.bind (ih (n % 10) (by omega) (by omega) (by omega)) ?_)
        have e1 : textS (n / 10) = dig (n.toNat / 10) := by
          unfold textS
          rw [if_neg (by omega), show (n / 10).toNat = n.toNat / 10 by omega]
        have e2 : textS (n % 10) = [48 + ((n.toNat % 10 : Nat) : Int)] := by
          unfold textS
          rw [if_neg (by omega), show (n % 10).toNat = n.toNat % 10 by omega, dig_lt (by omega)]
        have e3 : textS n = dig (n.toNat / 10) ++ [48 + ((n.toNat % 10 : Nat) : Int)] := by
          unfold textS
          rw [if_neg c, dig_ge (by omega)]
        have hl2 : (dig (n.toNat / 10)).length ≤ 19 := dig_len 19 _ (by decide) (by omega)
        rw [e1, e2]
        refine Evt.pos ?_ ?_
        · rw [size_ofNums, size_ofNums, decide_eq_true_eq]; simp; omega
        · rw [ofNums_app, ← e3]; exact .pure _

theorem dcase (left : Int) (h0 : -9223372036854775808 ≤ left) (h1 : left ≤ 9223372036854775807) :
    IntKind.u8.wrap (IntKind.i64.wrap (48 + (if (IntKind.i64.wrap (0 - (Int.tmod left 10))) > (Int.tmod left 10) then (IntKind.i64.wrap (0 - (Int.tmod left 10))) else (Int.tmod left 10)))) = 48 + ((left.natAbs % 10 : Nat) : Int) ∧
    IntKind.i64.wrap (Int.tdiv left 10) = Int.tdiv left 10 ∧ (Int.tdiv left 10).natAbs = left.natAbs / 10 := by
  have t2 : (0 ≤ left → Int.tmod left 10 = left % 10 ∧ Int.tdiv left 10 = left / 10) := fun h => ⟨Int.tmod_eq_emod_of_nonneg h, Int.tdiv_eq_ediv_of_nonneg h⟩
  have t3 : (left < 0 → Int.tmod left 10 = -((-left) % 10) ∧ Int.tdiv left 10 = -((-left) / 10)) := fun h => by
    constructor
    · rw [show left = -(-left) by omega, Int.neg_tmod, Int.tmod_eq_emod_of_nonneg (by omega)]; omega
    · rw [show left = -(-left) by omega, Int.neg_tdiv, Int.tdiv_eq_ediv_of_nonneg (by omega)]; omega
  by_cases c : left < 0
  · obtain ⟨e1, e2⟩ := t3 c
    rw [e1, e2, wrap_i64 (n := 0 - -((-left) % 10)) (by omega) (by omega)]
    refine ⟨?_, wrap_i64 (by omega) (by omega), by omega⟩
    split
    · rw [wrap_i64 (by omega) (by omega), wrap_u8]; omega
    · rw [wrap_i64 (by omega) (by omega), wrap_u8]; omega
  · obtain ⟨e1, e2⟩ := t2 (by omega)
    rw [e1, e2, wrap_i64 (n := 0 - (left % 10)) (by omega) (by omega)]
    refine ⟨?_, wrap_i64 (by omega) (by omega), by omega⟩
    split
    · rw [wrap_i64 (by omega) (by omega), wrap_u8]; omega
    · rw [wrap_i64 (by omega) (by omega), wrap_u8]; omega
theorem drop_set {xs : List Int} {n : Nat} (h : n < xs.length) (c : Int) : (xs.set n c).drop n = c :: xs.drop (n + 1) := by
  rw [List.drop_set, if_neg (by omega), Nat.sub_self, List.drop_eq_getElem_cons h]; rfl
theorem text_loop (a0 : Int) : ∀ (m : Nat) (left : Int) (arr : List Int) (at_ : Nat), left.natAbs = m → -9223372036854775808 ≤ left → left ≤ 9223372036854775807 → arr.length = 20 → at_ ≤ 20 → (dig m).length + 1 ≤ at_ →
    Evt (fun k => chars_Text.l0 k arr (at_ : Int) left a0) (ofNums ((if a0 < 0 then [45] else []) ++ (dig m ++ arr.drop at_))) := by
  intro m
  induction m using Nat.strongRecOn with
  | _ m ih =>
    intro left arr at_ hm h0 h1 ha h20 hl
    have hne : 1 ≤ (dig m).length := List.length_pos_iff.mpr (dig_ne m)
    obtain ⟨d1, d2, d3⟩ := dcase left h0 h1
    refine Evt.succ (fun k => by rw [chars_Text.l0]) ?_
    rw [d1, d2, wrap_i64 (n := (at_ : Int) - 1) (by omega) (by omega), show (at_ : Int) - 1 = ((at_ - 1 : Nat) : Int) by omega, Int.toNat_natCast]
    refine Evt.pos (by simp; omega) (Evt.some_bind (rd_lt (by omega)) ?_)
    have hds := drop_set (xs := arr) (n := at_ - 1) (by omega) (48 + ((left.natAbs % 10 : Nat) : Int))
    rw [show at_ - 1 + 1 = at_ by omega] at hds
    by_cases c : m < 10
    · have hz : Int.tdiv left 10 = 0 := by omega
      rw [hz]
      refine Evt.pos rfl ?_
      have em : left.natAbs % 10 = m := by omega
      rw [em] at hds ⊢
      by_cases cn : a0 < 0
      · refine Evt.pos (by simpa using cn) ?_
        rw [wrap_i64 (n := ((at_ - 1 : Nat) : Int) - 1) (by omega) (by omega), show ((at_ - 1 : Nat) : Int) - 1 = ((at_ - 2 : Nat) : Int) by omega, Int.toNat_natCast]
        refine Evt.pos (by simp; omega) (Evt.some_bind (rd_lt (by simp; omega)) (Evt.pos (by simp; omega) ?_))
        have hd2 := drop_set (xs := arr.set (at_ - 1) (48 + (m : Int))) (n := at_ - 2) (by simp; omega) 45
        rw [show at_ - 2 + 1 = at_ - 1 by omega, hds] at hd2
        rw [hd2, List.take_of_length_le (by simp; omega), if_pos cn, dig_lt c]
        exact .pure _
      · refine Evt.neg (by simpa using cn) (Evt.pos (by simp; omega) ?_)
        rw [hds, List.take_of_length_le (by simp; omega), if_neg cn, dig_lt c]
        exact .pure _
    · have hz : ¬ Int.tdiv left 10 = 0 := by omega
      refine Evt.neg (by simpa using hz) ?_
      rw [dig_ge c] at hl ⊢
      simp only [List.length_append, List.length_cons, List.length_nil] at hl
      have := ih (m / 10) (by omega) (Int.tdiv left 10) (arr.set (at_ - 1) (48 + ((left.natAbs % 10 : Nat) : Int))) (at_ - 1) (by omega) (by omega) (by omega) (by simp; omega) (by omega) (by omega)
      rw [hds, hm] at this
      rw [hm]
      simpa using this
theorem text_ev (n : Int) (h0 : -9223372036854775808 ≤ n) (h1 : n ≤ 9223372036854775807) : Evt (fun k => chars_Text.f k n) (ofNums (textS n)) := by
  simp only [chars_Text.f]
  have hl := dig_i64 h0 h1
  have := text_loop n n.natAbs n (List.replicate 20 (0 : Int)) 20 rfl h0 h1 (by simp) (by decide) (by omega)
  have e : textS n = (if n < 0 then [45] else []) ++ (dig n.natAbs ++ (List.replicate 20 (0 : Int)).drop 20) := by
    unfold textS
    split
    · rw [show (-n).toNat = n.natAbs by omega]; simp
    · rw [show n.toNat = n.natAbs by omega]; simp
  rw [e]; exact this
theorem refsum (x : ByteArray) (L : Nat → Int → Int → Option (Int × Int)) (E : Nat → Int → Option (Int × Int)) (r : Int × Int) (hx : x.size ≤ 1048576) (hD : ∀ d ∈ bytesI x, IsD d)
    (hL : ∀ k n i, L (k + 1) n i = if (decide (i < (x.size : Int))) = true then ((bt x i).bind fun v => L k (IntKind.i64.wrap ((IntKind.i64.wrap (10 * n)) - (IntKind.i64.wrap (IntKind.u8.wrap (v - 48))))) (IntKind.i64.wrap (i + 1))) else E k n)
    (hE : Evt (fun k => E k (IntKind.i64.wrap (- val 0 (bytesI x)))) r) : Evt (fun k => L k 0 0) r := by
  have hlen := bytesI_len x
  exact loop_all (xs := bytesI x) (F := fun k i s => L k s i) (E := fun k s => E k s) (G := fun k i v s => L k (IntKind.i64.wrap ((IntKind.i64.wrap (10 * s)) - (IntKind.i64.wrap (IntKind.u8.wrap (v - 48))))) (IntKind.i64.wrap (i + 1))) (by omega) (fun k i s => by rw [hL, hlen]; simp only [bt_eq])
    (Good := fun suf s => ∃ pre, bytesI x = pre ++ suf ∧ s = IntKind.i64.wrap (- val 0 pre)) (R := fun _ _ => r)
    (fun s hs => by
      obtain ⟨pre, h1, h2⟩ := hs
      rw [List.append_nil] at h1
      rw [h2, ← h1]; exact hE)
    (fun i v suf s hi hv hg ih => by
      obtain ⟨pre, h1, h2⟩ := hg
      have hvd := hD v (by rw [h1]; simp)
      unfold IsD at hvd
      refine ih _ ⟨pre ++ [v], by rw [h1]; simp, ?_⟩
      rw [val_app]
      simp only [val]
      rw [h2, wrap_u8, show (v - 48) % 256 = v - 48 by omega, wrap_i64 (n := v - 48) (by omega) (by omega), wrap_step]
      congr 1; omega) 0 ⟨[], rfl, rfl⟩

theorem refj0_ev (s x : ByteArray) (neg : Bool) (hs : s.size ≤ 1048576) (hneg : bytesI s = (if neg = true then [45] else []) ++ bytesI x) (h45 : neg = false → ∀ t, bytesI x ≠ 45 :: t) : Evt (fun k => dossierref01_Number.j0 k x s) (numD neg (decide (s.size ≤ 1)) (bytesI x)) := by
  have hlen := bytesI_len x
  have hslen := bytesI_len s
  have hu := bytesI_u8 x
  have hsx : s.size = (if neg = true then 1 else 0) + x.size := by
    rw [← hslen, ← hlen, hneg, List.length_append]; cases neg <;> rfl
  have hx : x.size ≤ 1048576 := by cases neg <;> simp at hsx <;> omega
  refine Evt.succ (fun k => by rw [dossierref01_Number.j0]) ?_
  cases hb : bytesI x with
  | nil => rw [hb, List.length_nil] at hlen; exact Evt.pos (by rw [beq_iff_eq]; omega) (.pure _)
  | cons d t =>
    rw [hb, List.length_cons] at hlen
    refine Evt.neg (by rw [beq_iff_eq]; omega) ?_
    rw [bt_eq, hb]
    refine Evt.some_bind (rd_0 d t) ?_
    -- the tail: of digits
    have fin : ∀ (C : Nat → Int → Option (Int × Int)) (L : Nat → Int → Int → Option (Int × Int)) (J : Nat → Int → ByteArray → Option (Int × Int)),
        (∀ k i, C (k + 1) i = if (decide (i < (x.size : Int))) = true then ((bt x i).bind fun v8 => if (decide (v8 < 48)) = true then (some (0, 5)) else ((bt x i).bind fun v10 => if (decide (v10 > 57)) = true then (some (0, 5)) else (C k (IntKind.i64.wrap (i + 1))))) else (if (decide ((x.size : Int) > 19)) = true then (some (0, 4)) else (L k 0 0))) →
        (∀ k n i, L (k + 1) n i = if (decide (i < (x.size : Int))) = true then ((bt x i).bind fun v => L k (IntKind.i64.wrap ((IntKind.i64.wrap (10 * n)) - (IntKind.i64.wrap (IntKind.u8.wrap (v - 48))))) (IntKind.i64.wrap (i + 1))) else (if ((x.size : Int) == (s.size : Int)) = true then (J k (IntKind.i64.wrap (0 - n)) s) else (J k n s))) →
        (∀ k n s, J (k + 1) n s = (dossierref01_Text.f k n).bind fun r18 => if (r18.toList == s.toList) = true then (some (n, 0)) else (some (0, 4))) →
        ¬ (d = 48 ∧ decide (s.size ≤ 1) = false) → Evt (fun k => C k 0) (numD neg (decide (s.size ≤ 1)) (d :: t)) := by
      intro C L J hC hL hJ hnot
      simp only [numD]
      rw [if_neg hnot]
      have key := loop_all (σ := Unit) (xs := d :: t) (F := fun k i _ => C k i) (E := fun k _ => if (decide ((x.size : Int) > 19)) = true then (some (0, 4)) else (L k 0 0)) (by rw [List.length_cons]; omega)
        (G := fun k i v _ => if (decide (v < 48)) = true then (some (0, 5)) else ((bt x i).bind fun v10 => if (decide (v10 > 57)) = true then (some (0, 5)) else (C k (IntKind.i64.wrap (i + 1)))))
        (fun k i _ => by rw [hC, ← hlen, bt_eq, hb, List.length_cons])
        (Good := fun suf _ => ∃ pre, d :: t = pre ++ suf ∧ pre.all isDb = true)
        (R := fun _ _ => (if (d :: t).all isDb = false then (0, 5)
    else if (d :: t).length > 19 then (0, 4)
    else if neg = true then (if val 0 (d :: t) > 9223372036854775808 then (0, 4) else (- val 0 (d :: t), 0))
    else (if val 0 (d :: t) > 9223372036854775807 then (0, 4) else (val 0 (d :: t), 0))))
        (fun _ hs' => by
          obtain ⟨pre, h1, h2⟩ := hs'
          rw [List.append_nil] at h1
          rw [← h1] at h2
          rw [if_neg (by rw [h2]; decide)]
          by_cases c : (d :: t).length > 19
          · rw [if_pos c]; exact Evt.pos (by rw [List.length_cons] at c; simp; omega) (.pure _)
          rw [if_neg c]
          refine Evt.neg (by rw [List.length_cons] at c; simp; omega) ?_
          have hD := allD h2
          have hn := val_nonneg (d :: t) 0 (by decide) hD
          have hh : d ≠ 48 ∨ (t = [] ∧ neg = false) := by
            by_cases q : d = 48
            · right
              have : s.size ≤ 1 := by
                apply Classical.byContradiction
                intro hc
                exact hnot ⟨q, decide_eq_false hc⟩
              cases neg with
              | true => simp at hsx; omega
              | false => simp at hsx; exact ⟨List.eq_nil_of_length_eq_zero (by omega), rfl⟩
            · exact .inl q
          -- the end
          have last : ∀ n : Int, n = IntKind.i64.wrap (if neg = true then - val 0 (d :: t) else val 0 (d :: t)) → Evt (fun k => J k n s) (if neg = true then (if val 0 (d :: t) > 9223372036854775808 then (0, 4) else (- val 0 (d :: t), 0)) else (if val 0 (d :: t) > 9223372036854775807 then (0, 4) else (val 0 (d :: t), 0))) := by
            intro n hn'
            have hr : -9223372036854775808 ≤ n ∧ n ≤ 9223372036854775807 := by rw [hn']; exact wrap_range _
            refine Evt.succ (fun k => hJ k _ _) (Evt.bind (reftext_ev n.natAbs n (Nat.le_refl _) hr.1 hr.2) ?_)
            have hi := textS_inj (x := n) (neg := neg) h2 hh
            have ec : ((ofNums (textS n)).toList == s.toList) = decide (n = (if neg = true then - val 0 (d :: t) else val 0 (d :: t))) := by
              rw [toList_beq, bytesI_ofNums _ (textS_u8 n), hneg, hb]
              congr 1
              exact propext hi
            rw [ec]
            cases neg with
            | true =>
              simp only [if_true] at hn' ⊢
              by_cases q : val 0 (d :: t) > 9223372036854775808
              · rw [if_pos q]; exact Evt.neg (by simp; omega) (.pure _)
              · rw [if_neg q]
                have e : n = - val 0 (d :: t) := by rw [hn', wrap_i64 (by omega) (by omega)]
                refine Evt.pos (by simpa using e) ?_
                rw [e]; exact .pure _
            | false =>
              simp only [Bool.false_eq_true, if_false] at hn' ⊢
              by_cases q : val 0 (d :: t) > 9223372036854775807
              · rw [if_pos q]; exact Evt.neg (by simp; omega) (.pure _)
              · rw [if_neg q]
                have e : n = val 0 (d :: t) := by rw [hn', wrap_i64 (by omega) (by omega)]
                refine Evt.pos (by simpa using e) ?_
                rw [e]; exact .pure _
          refine refsum x L (fun k n => if ((x.size : Int) == (s.size : Int)) = true then (J k (IntKind.i64.wrap (0 - n)) s) else (J k n s)) _ hx (by rw [hb]; exact hD) hL ?_
          rw [hb]
          cases hng : neg with
          | true =>
            rw [hng] at last hsx
            refine Evt.neg (by simp at hsx ⊢; omega) (last _ rfl)
          | false =>
            rw [hng] at last hsx
            refine Evt.pos (by simp at hsx ⊢; omega) (last _ ?_)
            rw [wrap_neg, Int.neg_neg]; rfl)
        (fun i v suf _ hi hv hg ih => by
          obtain ⟨pre, h1, h2⟩ := hg
          have hrd : rd (d :: t) (i : Int) = some v := by rw [rd_nat]; exact hv
          by_cases c1 : v < 48
          · refine Evt.pos (by simpa using c1) ?_
            rw [if_pos ?_]; exact .pure _
            rw [h1, List.all_append, List.all_cons]
            have : isDb v = false := by simp [isDb]; omega
            rw [this]; simp
          refine Evt.neg (by simpa using c1) ?_
          rw [bt_eq, hb]
          refine Evt.some_bind hrd ?_
          by_cases c2 : v > 57
          · refine Evt.pos (by simpa using c2) ?_
            rw [if_pos ?_]; exact .pure _
            rw [h1, List.all_append, List.all_cons]
            have : isDb v = false := by simp [isDb]; omega
            rw [this]; simp
          have hv' : isDb v = true := by simp [isDb]; omega
          exact Evt.neg (by simpa using c2) (ih () ⟨pre ++ [v], by rw [h1]; simp, by rw [List.all_append, h2]; simp [hv']⟩)) () ⟨[], rfl, rfl⟩
      exact key
    by_cases c : d = 48
    · refine Evt.pos (by simpa using c) ?_
      by_cases c2 : s.size ≤ 1
      · refine Evt.neg (by simp; omega) ?_
        exact fin (fun k i => dossierref01_Number.l1 k i s x) (fun k n i => dossierref01_Number.l2 k n i s x) dossierref01_Number.j3 (fun k i => by rw [dossierref01_Number.l1]) (fun k n i => by rw [dossierref01_Number.l2]) (fun k n s => by rw [dossierref01_Number.j3])
          (by rintro ⟨_, h⟩; simp at h; omega)
      · refine Evt.pos (by simp; omega) ?_
        simp only [numD]
        rw [if_pos ⟨c, decide_eq_false c2⟩]; exact .pure _
    · refine Evt.neg (by simpa using c) ?_
      exact fin (fun k i => dossierref01_Number.l4 k i s x) (fun k n i => dossierref01_Number.l5 k n i s x) dossierref01_Number.j6 (fun k i => by rw [dossierref01_Number.l4]) (fun k n i => by rw [dossierref01_Number.l5]) (fun k n s => by rw [dossierref01_Number.j6])
        (fun h => c h.1)
theorem refnumber_ev (s : ByteArray) (hs : s.size ≤ 1048576) : Evt (fun k => dossierref01_Number.f k s) (numS (bytesI s)) := by
  have hlen := bytesI_len s
  simp only [dossierref01_Number.f]
  cases hb : bytesI s with
  | nil =>
    rw [hb, List.length_nil] at hlen
    refine Evt.neg (by rw [decide_eq_true_eq]; omega) ?_
    have := refj0_ev s s false hs rfl (fun _ t h => by rw [hb] at h; cases h)
    rw [hb] at this; exact this
  | cons c t =>
    have hl2 := hlen
    rw [hb, List.length_cons] at hl2
    refine Evt.pos (by simp; omega) ?_
    rw [bt_eq, hb]
    refine Evt.some_bind (rd_0 c t) ?_
    simp only [numS]
    have hsz : decide ((c :: t).length ≤ 1) = decide (s.size ≤ 1) := by rw [List.length_cons, ← hl2]
    rw [hsz]
    by_cases h : c = 45
    · rw [if_pos h]
      refine Evt.pos (by simpa using h) (Evt.pos (by simp; omega) ?_)
      have := refj0_ev s (s.extract 1 s.size) true hs (by rw [extract1 s c t hb, hb, h]; rfl) (fun h => by cases h)
      rw [extract1 s c t hb] at this; exact this
    · rw [if_neg h]
      refine Evt.neg (by simpa using h) ?_
      have := refj0_ev s s false hs rfl (fun _ t' h' => by rw [hb] at h'; cases h'; exact h rfl)
      rw [hb] at this; exact this

theorem ref_last (s : ByteArray) (x : Int) (hs : s.size ≤ 1048576) : Evt (fun k => dossierref12_last.f k s x) (lastS s x) := by
  simp only [dossierref12_last.f]
  rw [wrap_i64 (by omega) (by omega)]
  exact last_loop s x hs (fun k i => dossierref12_last.l0 k i s x) (fun k i => by rw [dossierref12_last.l0]) _ (Nat.le_refl _)

theorem parts_loop (s : ByteArray) (hs : s.size ≤ 1048576) : ∀ (n i at_ : Nat) (out : List ByteArray), s.size - i = n → i ≤ s.size → at_ ≤ i → out.length ≤ i →
    Evt (fun k => dossierref09_Parts.l0 k out (at_ : Int) (i : Int) s) (out ++ splA (((us s).drop at_).take (i - at_)) ((us s).drop i)) := by
  intro n
  have hw : IntKind.i64.wrap ((s.size : Int) + 1) = ((s.size + 1 : Nat) : Int) := wrap_nat (by omega)
  have ee : ∀ a i : Nat, s.extract a i = ofU (((us s).drop a).take (i - a)) := fun a i => us_inj (by rw [us_ofU, us_extract])
  induction n with
  | zero =>
    intro i at_ out h1 h2 h3 h4
    have hi : i = s.size := by omega
    subst hi
    refine Evt.succ (fun k => by rw [dossierref09_Parts.l0]) ?_
    rw [hw]
    refine Evt.pos (by simp; omega) (Evt.pos (by simp) (Evt.pos (by rw [decide_eq_true_eq]; omega) (Evt.pos (by simp; omega) ?_)))
    refine Evt.succ (fun k => by rw [dossierref09_Parts.l0]) ?_
    refine Evt.neg (by rw [hw]; simp) ?_
    rw [List.drop_eq_nil_of_le (i := s.size) (by rw [us_len]; exact Nat.le_refl _), splA, ← ee]
    exact .pure _
  | succ n ih =>
    intro i at_ out h1 h2 h3 h4
    have hl : i < (us s).length := by rw [us_len]; omega
    have hb : i < (bytesI s).length := by rw [← size_bytesI]; omega
    refine Evt.succ (fun k => by rw [dossierref09_Parts.l0]) ?_
    rw [hw]
    refine Evt.pos (by simp; omega) (Evt.neg (by simp; omega) (Evt.some_bind (a := (bytesI s)[i]) (by rw [bt_eq, rd_lt hb]) ?_))
    have hv : (bytesI s)[i] = (((us s)[i].toNat : Nat) : Int) := by simp [bytes_us]
    rw [List.drop_eq_getElem_cons hl, splA]
    rw [wrap_nat (by omega)]
    by_cases h : (us s)[i] = 46
    · rw [if_pos h]
      refine Evt.pos (by rw [hv, h]; rfl) (Evt.pos (by rw [decide_eq_true_eq]; omega) (Evt.pos (by simp; omega) ?_))
      have := ih (i + 1) (i + 1) (out ++ [s.extract at_ i]) (by omega) (by omega) (Nat.le_refl _) (by simp; omega)
      rw [Nat.sub_self, List.take_zero, List.append_assoc] at this
      rw [← ee]
      exact this
    · rw [if_neg h]
      refine Evt.neg (by rw [hv]; intro hc; apply h; have : (us s)[i].toNat = 46 := by simp at hc; omega
                         exact UInt8.toNat_inj.mp this) ?_
      have := ih (i + 1) at_ out (by omega) (by omega) (by omega) (by omega)
      have e : ((us s).drop at_).take (i + 1 - at_) = ((us s).drop at_).take (i - at_) ++ [(us s)[i]] := by
        rw [Nat.succ_sub h3, List.take_add_one, List.getElem?_drop, Nat.add_sub_cancel' h3, List.getElem?_eq_getElem hl]; rfl
      rw [e] at this
      exact this
theorem parts_ev (s : ByteArray) (hs : s.size ≤ 1048576) : Evt (fun k => dossierref09_Parts.f k s) (splS s) := by
  simp only [dossierref09_Parts.f]
  have := parts_loop s hs _ 0 0 [] rfl (by omega) (by omega) (by simp)
  simpa [splS] using this
end Go.Abs.GenS
