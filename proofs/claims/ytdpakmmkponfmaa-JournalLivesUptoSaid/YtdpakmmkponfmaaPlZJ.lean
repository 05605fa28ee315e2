import Derived.Test.YtdpakmmkponfmaaPlZI
set_option linter.unusedVariables false
set_option linter.unusedSimpArgs false
set_option maxRecDepth 100000
set_option maxHeartbeats 4000000
namespace Go.Abs.GenZ
open Go.Abs
/-! ### numbers of four bytes -/
def num (a b c d : Int) : Int := a * 16777216 + b * 65536 + c * 256 + d
theorem or_step {x v : Int} (h0 : 0 ≤ x) (h1 : x < 16777216) (v0 : 0 ≤ v) (v1 : v < 256) : Go.bits .or .i64 (IntKind.i64.wrap (x * 2 ^ 8)) (IntKind.i64.wrap v) = x * 256 + v := by
 have e : (2 : Int) ^ 8 = 256 := rfl
 rw [e, wrap_i64 (by omega) (by omega), wrap_i64 (by omega) (by omega)]
 exact bits_or_add .i64 63 (by decide) (fun n h0 h1 => wrap_i64 (by omega) (by have : (2 : Int) ^ 63 = 9223372036854775808 := rfl; omega)) 8 (by omega) (by have : (2 : Int) ^ 63 = 9223372036854775808 := rfl; omega) v0 (by rw [e]; exact v1) (by decide) (by rw [e]; omega)
theorem W1_eq {a b c d : Int} (ha : 0 ≤ a ∧ a < 256) (hb : 0 ≤ b ∧ b < 256) (hc : 0 ≤ c ∧ c < 256) (hd : 0 ≤ d ∧ d < 256) : W1 a b c d = num a b c d := by
 have e1 : (2 : Int) ^ 24 = 16777216 := rfl
 have e2 : (2 : Int) ^ 16 = 65536 := rfl
 have e3 : (2 : Int) ^ 8 = 256 := rfl
 simp only [W1, num, e1, e2, e3]
 rw [wrap_i64 (n := a) (by omega) (by omega), wrap_i64 (n := b) (by omega) (by omega), wrap_i64 (n := c) (by omega) (by omega), wrap_i64 (n := d) (by omega) (by omega)]
 rw [wrap_i64 (n := a * 16777216) (by omega) (by omega), wrap_i64 (n := b * 65536) (by omega) (by omega), wrap_i64 (n := c * 256) (by omega) (by omega)]
 rw [wrap_i64 (n := a * 16777216 + b * 65536) (by omega) (by omega)]
 rw [wrap_i64 (n := a * 16777216 + b * 65536 + c * 256) (by omega) (by omega)]
 exact wrap_i64 (by omega) (by omega)
/-! ### rows of bytes, compared -/
theorem eqB_suf (x y : List Int) (hl : x.length = y.length) (hn : x.length < 9223372036854775807) : ∀ n i, x.length - i = n → i ≤ x.length → Evt (fun k => slices_Equal_byte_byte.l0 k (i : Int) x y) (decide (x.drop i = y.drop i))
 | 0, i, h, hi => by
  have hz : i = x.length := by omega
  subst hz
  refine Evt.succ (fun k => by rw [slices_Equal_byte_byte.l0]) (Evt.neg (by simp) ?_)
  rw [List.drop_length, hl, List.drop_length]
  exact .pure _
 | n + 1, i, h, hi => by
  have h1 : i < x.length := by omega
  have h2 : i < y.length := by omega
  refine Evt.succ (fun k => by rw [slices_Equal_byte_byte.l0]) (Evt.pos (by simpa using h1) (Evt.some_bind (rd_lt h1) (Evt.some_bind (rd_lt h2) ?_)))
  rw [List.drop_eq_getElem_cons h1, List.drop_eq_getElem_cons h2]
  by_cases he : x[i] = y[i]
  ·refine Evt.neg (by simp [he]) ?_
   rw [wrap_nat (by omega)]
   have e : decide (x[i] :: x.drop (i + 1) = y[i] :: y.drop (i + 1)) = decide (x.drop (i + 1) = y.drop (i + 1)) := decide_eq_decide.mpr ⟨fun h => (List.cons.inj h).2, fun h => by rw [he, h]⟩
   rw [e]
   exact eqB_suf x y hl hn n (i + 1) (by omega) (by omega)
  ·refine Evt.pos (by simp [he]) ?_
   have e : decide (x[i] :: x.drop (i + 1) = y[i] :: y.drop (i + 1)) = false := decide_eq_false fun h => he (List.cons.inj h).1
   rw [e]; exact .pure _
theorem eqB_ev (x y : List Int) (hl : x.length = y.length) (hn : x.length < 9223372036854775807) : Evt (fun k => slices_Equal_byte_byte.f k x y) (decide (x = y)) := by
 simp only [slices_Equal_byte_byte.f]
 refine Evt.neg (by simp [hl]) ?_
 have := eqB_suf x y hl hn x.length 0 (by omega) (by omega)
 simpa using this
/-! ### the next frame -/
open Classical in
noncomputable def nx : List Int → Option (List Int)
 | v0 :: v1 :: v2 :: v3 :: t => if t.length < 4 then none else if num v0 v1 v2 v3 > (t.length : Int) - 4 then none else
   if hdr ((t.drop 4).take (num v0 v1 v2 v3).toNat) = v0 :: v1 :: v2 :: v3 :: t.take 4 then some ((t.drop 4).take (num v0 v1 v2 v3).toNat) else none
 | _ => none
theorem nx_len {b body : List Int} (h : nx b = some body) : 8 + body.length ≤ b.length := by
 match b, h with
 | v0 :: v1 :: v2 :: v3 :: t, h =>
  simp only [nx] at h
  split at h
  ·cases h
  ·split at h
   ·cases h
   ·split at h
    ·cases h
     simp only [List.length_take, List.length_drop, List.length_cons]
     omega
    ·cases h
theorem num_pos {v0 v1 v2 v3 : Int} {t : List Int} (h : U8s (v0 :: v1 :: v2 :: v3 :: t)) : (0 ≤ v0 ∧ v0 < 256) ∧ (0 ≤ v1 ∧ v1 < 256) ∧ (0 ≤ v2 ∧ v2 < 256) ∧ (0 ≤ v3 ∧ v3 < 256) :=
 ⟨h v0 (by simp), h v1 (by simp), h v2 (by simp), h v3 (by simp)⟩
theorem sub8 (b : List Int) (n : Nat) : sub b 8 (8 + (n : Int)) = (b.drop 8).take n := by
 simp only [sub]
 have : ((8 : Int) + (n : Int)).toNat - (8 : Int).toNat = n := by omega
 rw [this]; rfl
theorem next_ev (b : List Int) (hb : U8s b) (hl : b.length ≤ 1000000000000) : ∃ w, Evt (fun k => journal_next.f k b) (w, (nx b).isSome) ∧ ∀ body, nx b = some body → w = body := by
 by_cases h8 : b.length < 8
 ·refine ⟨[], ?_, ?_⟩
  ·have : nx b = none := by
    match b, h8 with
    | [], _ => rfl
    | [_], _ => rfl
    | [_, _], _ => rfl
    | [_, _, _], _ => rfl
    | v0 :: v1 :: v2 :: v3 :: t, h8 => simp only [nx]; rw [if_pos (by simp only [List.length_cons] at h8; omega)]
   rw [this]
   simp only [journal_next.f]
   exact Evt.pos (by rw [decide_eq_true_eq]; omega) (.pure _)
  ·intro body h
   have := nx_len h
   omega
 ·obtain ⟨v0, v1, v2, v3, t, rfl⟩ : ∃ v0 v1 v2 v3 t, b = v0 :: v1 :: v2 :: v3 :: t := by
   match b, h8 with
   | [], h8 => exact absurd (by simp) h8
   | [_], h8 => exact absurd (by simp) h8
   | [_, _], h8 => exact absurd (by simp) h8
   | [_, _, _], h8 => exact absurd (by simp) h8
   | v0 :: v1 :: v2 :: v3 :: t, h8 => exact ⟨v0, v1, v2, v3, t, rfl⟩
  simp only [List.length_cons] at hl h8
  obtain ⟨g0, g1, g2, g3⟩ := num_pos hb
  have hnum : 0 ≤ num v0 v1 v2 v3 := by simp only [num]; omega
  have hnum2 : num v0 v1 v2 v3 < 4294967296 := by simp only [num]; omega
  obtain ⟨n, hn⟩ := Int.eq_ofNat_of_zero_le hnum
  have main : ∀ r, Evt (fun k => if (decide (num v0 v1 v2 v3 > (IntKind.i64.wrap (((v0 :: v1 :: v2 :: v3 :: t).length : Int) - 8)))) = true then (some (([] : List Int), false)) else (if (decide (0 ≤ 8 ∧ 8 ≤ (IntKind.i64.wrap (8 + num v0 v1 v2 v3)) ∧ (IntKind.i64.wrap (8 + num v0 v1 v2 v3)) ≤ ((v0 :: v1 :: v2 :: v3 :: t).length : Int))) = true then ((slices_Clone_byte_byte.f k (sub (v0 :: v1 :: v2 :: v3 :: t) 8 (IntKind.i64.wrap (8 + num v0 v1 v2 v3)))).bind fun r9 => (journal_frame.f k (sub (v0 :: v1 :: v2 :: v3 :: t) 8 (IntKind.i64.wrap (8 + num v0 v1 v2 v3)))).bind fun r10 => if (decide (0 ≤ 0 ∧ 0 ≤ 8 ∧ 8 ≤ (r10.length : Int))) = true then (if (decide (0 ≤ 0 ∧ 0 ≤ 8 ∧ 8 ≤ ((v0 :: v1 :: v2 :: v3 :: t).length : Int))) = true then ((slices_Equal_byte_byte.f k (sub r10 0 8) (sub (v0 :: v1 :: v2 :: v3 :: t) 0 8)).bind fun r13 => some (r9, r13)) else none) else none) else none)) r →
    Evt (fun k => journal_next.f k (v0 :: v1 :: v2 :: v3 :: t)) r := by
   intro r hr
   simp only [journal_next.f]
   refine Evt.neg (by rw [decide_eq_true_eq]; simp only [List.length_cons]; omega) (Evt.pos (by rw [decide_eq_true_eq]; simp only [List.length_cons]; omega) ?_)
   have es : sub (v0 :: v1 :: v2 :: v3 :: t) 0 4 = [v0, v1, v2, v3] := rfl
   refine Evt.succ (fun k => by rw [journal_next.l0, es]) (Evt.pos (by rfl) (Evt.some_bind (a := v0) (by rfl) ?_))
   rw [or_step (x := 0) (by omega) (by omega) g0.1 g0.2, show IntKind.i64.wrap (0 + 1) = 1 from rfl]
   refine Evt.succ (fun k => by rw [journal_next.l0, es]) (Evt.pos (by rfl) (Evt.some_bind (a := v1) (by rfl) ?_))
   rw [or_step (by omega) (by omega) g1.1 g1.2, show IntKind.i64.wrap (1 + 1) = 2 from rfl]
   refine Evt.succ (fun k => by rw [journal_next.l0, es]) (Evt.pos (by rfl) (Evt.some_bind (a := v2) (by rfl) ?_))
   rw [or_step (by omega) (by omega) g2.1 g2.2, show IntKind.i64.wrap (2 + 1) = 3 from rfl]
   refine Evt.succ (fun k => by rw [journal_next.l0, es]) (Evt.pos (by rfl) (Evt.some_bind (a := v3) (by rfl) ?_))
   rw [or_step (by omega) (by omega) g3.1 g3.2, show IntKind.i64.wrap (3 + 1) = 4 from rfl]
   have en : (((0 * 256 + v0) * 256 + v1) * 256 + v2) * 256 + v3 = num v0 v1 v2 v3 := by simp only [num]; omega
   rw [en]
   refine Evt.succ (fun k => by rw [journal_next.l0, es]) (Evt.neg (by simp) ?_)
   exact hr
  have ew : IntKind.i64.wrap (8 + num v0 v1 v2 v3) = 8 + (n : Int) := by rw [hn]; exact wrap_i64 (by omega) (by omega)
  have ew2 : IntKind.i64.wrap (((v0 :: v1 :: v2 :: v3 :: t).length : Int) - 8) = (t.length : Int) - 4 := by rw [wrap_i64] <;> simp only [List.length_cons] <;> omega
  rw [ew, ew2, sub8] at main
  by_cases h9 : num v0 v1 v2 v3 > (t.length : Int) - 4
  ·refine ⟨[], ?_, ?_⟩
   ·have : nx (v0 :: v1 :: v2 :: v3 :: t) = none := by simp only [nx]; rw [if_neg (by omega), if_pos h9]
    rw [this]
    exact main _ (Evt.pos (by rw [decide_eq_true_eq]; exact h9) (.pure _))
   ·intro body h
    simp only [nx] at h
    rw [if_neg (by omega), if_pos h9] at h
    cases h
  ·have hd8 : (v0 :: v1 :: v2 :: v3 :: t).drop 8 = t.drop 4 := rfl
   have ht8 : (v0 :: v1 :: v2 :: v3 :: t).take 8 = v0 :: v1 :: v2 :: v3 :: t.take 4 := rfl
   have hbl : ((t.drop 4).take n).length = n := by simp only [List.length_take, List.length_drop]; omega
   have e8 : sub (frm ((t.drop 4).take n)) 0 8 = hdr ((t.drop 4).take n) := by
    show sub (hdr _ ++ _) 0 ((8 : Nat) : Int) = _
    rw [sub_take, List.take_append_of_le_length (by rw [hdr_len]; omega), List.take_of_length_le (by rw [hdr_len]; omega)]
   have e8' : sub (v0 :: v1 :: v2 :: v3 :: t) 0 8 = v0 :: v1 :: v2 :: v3 :: t.take 4 := by
    show sub _ 0 ((8 : Nat) : Int) = _
    rw [sub_take, ht8]
   have hnx : nx (v0 :: v1 :: v2 :: v3 :: t) = if hdr ((t.drop 4).take n) = v0 :: v1 :: v2 :: v3 :: t.take 4 then some ((t.drop 4).take n) else none := by
    simp only [nx]
    rw [if_neg (by omega), if_neg h9, hn]
    rfl
   refine ⟨(t.drop 4).take n, ?_, ?_⟩
   ·have hq : (nx (v0 :: v1 :: v2 :: v3 :: t)).isSome = decide (hdr ((t.drop 4).take n) = v0 :: v1 :: v2 :: v3 :: t.take 4) := by
     rw [hnx]; split <;> simp [*]
    rw [hq]
    apply main
    rw [hd8]
    refine Evt.neg (by rw [decide_eq_true_eq]; exact h9) (Evt.pos (by rw [decide_eq_true_eq]; simp only [List.length_cons]; omega) ?_)
    refine (bclone_ev _ (by rw [hbl]; omega)).bind ((frameP_ev _ (by rw [hbl]; omega)).bind ?_)
    refine Evt.pos (by rw [decide_eq_true_eq, frm_len]; omega) (Evt.pos (by rw [decide_eq_true_eq]; simp only [List.length_cons]; omega) ?_)
    rw [e8, e8']
    refine (eqB_ev _ _ (by rw [hdr_len]; simp only [List.length_cons, List.length_take]; omega) (by rw [hdr_len]; omega)).bind (.pure _)
   ·intro body h
    rw [hnx] at h
    split at h
    ·cases h; rfl
    ·cases h
end Go.Abs.GenZ
