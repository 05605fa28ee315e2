import Derived.Test.YtgeieafnnlmfdaaPlKA
import Derived.OpenShut
set_option linter.unusedVariables false
set_option linter.unusedSimpArgs false
set_option maxRecDepth 100000
set_option maxHeartbeats 4000000
namespace Go.Abs.GenK
open Go.Abs
open Go
theorem bclone_ev (b : List Int) (h : b.length ≤ 1099511627776) : Evt (fun k => slices_Clone_byte_byte.f k b) b := by
 simp only [slices_Clone_byte_byte.f]
 exact Evt.pos (by simp; omega) (.pure _)
theorem concatL_ev (x y : List Int) (hx : x.length ≤ 1099511627776) (hy : y.length ≤ 1099511627776) : Evt (fun k => slices_Concat_byte_byte.f k ([x, y] : List (List Int))) (x ++ y) := by
 simp only [slices_Concat_byte_byte.f]
 have h1 : IntKind.i64.wrap (0 + (x.length : Int)) = (x.length : Int) := by rw [wrap_i64 (by omega) (by omega)]; omega
 have h2 : IntKind.i64.wrap ((x.length : Int) + (y.length : Int)) = (x.length : Int) + (y.length : Int) := wrap_i64 (by omega) (by omega)
 have w1 : IntKind.i64.wrap (0 + 1) = 1 := by decide
 have w2 : IntKind.i64.wrap (1 + 1) = 2 := by decide
 refine Evt.succ (fun k => by rw [slices_Concat_byte_byte.l0]) ?_
 refine Evt.pos rfl ?_
 refine Evt.some_bind (a := x) rfl ?_
 rw [h1, w1]
 refine Evt.neg (by simp) ?_
 refine Evt.succ (fun k => by rw [slices_Concat_byte_byte.l0]) ?_
 refine Evt.pos rfl ?_
 refine Evt.some_bind (a := y) rfl ?_
 rw [h2, w2]
 refine Evt.neg (by simp; omega) ?_
 refine Evt.succ (fun k => by rw [slices_Concat_byte_byte.l0]) ?_
 refine Evt.neg (by simp) ?_
 refine Evt.bind (a := ([] : List Int)) ?_ ?_
 ·have w3 : IntKind.i64.wrap ((x.length : Int) + (y.length : Int) - 0) = (x.length : Int) + (y.length : Int) := by rw [wrap_i64 (by omega) (by omega)]; omega
  simp only [slices_Grow_byte_byte_nil0.f]
  rw [w3]
  refine Evt.neg (by simp; omega) ?_
  by_cases hz : (x.length : Int) + (y.length : Int) > 0
  ·exact Evt.pos (by simpa using hz) (Evt.pos (by rw [decide_eq_true_eq]; omega) (.pure _))
  ·exact Evt.neg (by simpa using hz) (.pure _)
 ·refine Evt.succ (fun k => by rw [slices_Concat_byte_byte.l1]) ?_
  refine Evt.pos rfl ?_
  refine Evt.some_bind (a := x) rfl ?_
  rw [w1]
  refine Evt.pos (by simp; omega) ?_
  refine Evt.succ (fun k => by rw [slices_Concat_byte_byte.l1]) ?_
  refine Evt.pos rfl ?_
  refine Evt.some_bind (a := y) rfl ?_
  rw [w2]
  refine Evt.pos (by simp; omega) ?_
  refine Evt.succ (fun k => by rw [slices_Concat_byte_byte.l1]) ?_
  refine Evt.neg (by simp) ?_
  simpa using Evt.pure (x ++ y)
theorem crc_tot (a : List Int) (ha : a.length < 9223372036854775806) : ∀ n,
  (∀ x (i : Nat), i ≤ a.length → 10 * (a.length - i) ≤ n → Tot fun k => wire_Crc.l0 k x (i : Int) a) ∧
  (∀ x (j i : Nat), i < a.length → j ≤ 8 → 10 * (a.length - i) ≤ n + 1 + j → Tot fun k => wire_Crc.l1 k x (j : Int) a (i : Int))
 | 0 => ⟨fun x i hi h => by
   have hz : i = a.length := by omega
   subst hz
   exact Tot.succ (fun k => by rw [wire_Crc.l0]) (Evt.tot (Evt.neg (by simp) (.pure _))), fun x j i h1 h2 h3 => by omega⟩
 | n + 1 => by
  obtain ⟨ih0, ih1⟩ := crc_tot a ha n
  refine ⟨fun x i hi h => ?_, fun x j i hi hj h => ?_⟩
  ·by_cases hl : i < a.length
   ·obtain ⟨r, hr⟩ := ih1 (Go.bits .xor .u32 x (IntKind.u32.wrap a[i])) 0 i hl (by omega) (by omega)
    exact ⟨r, Evt.succ (fun k => by rw [wire_Crc.l0]) (Evt.pos (by simpa using hl) (Evt.some_bind (rd_lt hl) hr))⟩
   ·exact Tot.succ (fun k => by rw [wire_Crc.l0]) (Evt.tot (Evt.neg (by simpa using hl) (.pure _)))
  ·by_cases hl : j < 8
   ·obtain ⟨r, hr⟩ := ih1 (Go.bits .xor .u32 (Int.fdiv x (2 ^ 1)) (Go.bits .and .u32 3988292384 (IntKind.u32.wrap (0 - (Go.bits .and .u32 x 1))))) (j + 1) i hi (by omega) (by omega)
    refine ⟨r, Evt.succ (fun k => by rw [wire_Crc.l1]) (Evt.pos (by rw [decide_eq_true_eq]; omega) ?_)⟩
    rw [wrap_nat (by omega)]; exact hr
   ·obtain ⟨r, hr⟩ := ih0 x (i + 1) (by omega) (by omega)
    refine ⟨r, Evt.succ (fun k => by rw [wire_Crc.l1]) (Evt.neg (by rw [decide_eq_true_eq]; omega) ?_)⟩
    rw [wrap_nat (by omega)]; exact hr
theorem crc_ex (a : List Int) (ha : a.length < 9223372036854775806) : ∃ r, Evt (fun k => wire_Crc.f k a) r := (crc_tot a ha (10 * a.length)).1 4294967295 0 (by omega) (by omega)
open Classical in
noncomputable def crcV (a : List Int) : Int := if h : a.length < 9223372036854775806 then (crc_ex a h).choose else 0
theorem crcP_ev (a : List Int) (h : a.length < 9223372036854775806) : Evt (fun k => wire_Crc.f k a) (crcV a) := by rw [crcV, dif_pos h]; exact (crc_ex a h).choose_spec
def fo (n : Int) : List Int := [IntKind.u8.wrap (Int.fdiv n (2 ^ 24)), IntKind.u8.wrap (Int.fdiv n (2 ^ 16)), IntKind.u8.wrap (Int.fdiv n (2 ^ 8)), IntKind.u8.wrap n]
noncomputable def hdr (a : List Int) : List Int := fo (a.length : Int) ++ fo (crcV a)
noncomputable def frm (a : List Int) : List Int := hdr a ++ a
theorem hdr_len (a : List Int) : (hdr a).length = 8 := rfl
theorem frm_len (a : List Int) : (frm a).length = 8 + a.length := by rw [frm, List.length_append, hdr_len]
theorem fd0 (n : Int) : Int.fdiv n (2 ^ 0) = n := by rw [Int.pow_zero]; exact Int.fdiv_one n
theorem frameP_ev (a : List Int) (h : a.length ≤ 1099511627776) : Evt (fun k => journal_frame.f k a) (frm a) := by
 simp only [journal_frame.f]
 refine (crcP_ev a (by omega)).bind ?_
 have e0 : ∀ z : Int, Int.fdiv z (2 ^ (min (IntKind.i64.wrap (24 - (IntKind.i64.wrap (8 * 0)))).toNat 64)) = Int.fdiv z (2 ^ 24) := fun _ => rfl
 have e1 : ∀ z : Int, Int.fdiv z (2 ^ (min (IntKind.i64.wrap (24 - (IntKind.i64.wrap (8 * 1)))).toNat 64)) = Int.fdiv z (2 ^ 16) := fun _ => rfl
 have e2 : ∀ z : Int, Int.fdiv z (2 ^ (min (IntKind.i64.wrap (24 - (IntKind.i64.wrap (8 * 2)))).toNat 64)) = Int.fdiv z (2 ^ 8) := fun _ => rfl
 have e3 : ∀ z : Int, Int.fdiv z (2 ^ (min (IntKind.i64.wrap (24 - (IntKind.i64.wrap (8 * 3)))).toNat 64)) = z := fun z => fd0 z
 refine Evt.succ (fun k => by rw [journal_frame.l0]) ?_
 refine Evt.pos (by rfl) (Evt.pos (by rfl) (Evt.pos (by rfl) ?_))
 refine Evt.some_bind (a := (0 : Int)) (by rfl) (Evt.pos (by rfl) ?_)
 refine Evt.some_bind (a := (0 : Int)) (by rfl) ?_
 rw [e0, e0, show IntKind.i64.wrap (0 + 1) = 1 from rfl]
 refine Evt.succ (fun k => by rw [journal_frame.l0]) ?_
 refine Evt.pos (by rfl) (Evt.pos (by rfl) (Evt.pos (by rfl) ?_))
 refine Evt.some_bind (a := (0 : Int)) (by rfl) (Evt.pos (by rfl) ?_)
 refine Evt.some_bind (a := (0 : Int)) (by rfl) ?_
 rw [e1, e1, show IntKind.i64.wrap (1 + 1) = 2 from rfl]
 refine Evt.succ (fun k => by rw [journal_frame.l0]) ?_
 refine Evt.pos (by rfl) (Evt.pos (by rfl) (Evt.pos (by rfl) ?_))
 refine Evt.some_bind (a := (0 : Int)) (by rfl) (Evt.pos (by rfl) ?_)
 refine Evt.some_bind (a := (0 : Int)) (by rfl) ?_
 rw [e2, e2, show IntKind.i64.wrap (2 + 1) = 3 from rfl]
 refine Evt.succ (fun k => by rw [journal_frame.l0]) ?_
 refine Evt.pos (by rfl) (Evt.pos (by rfl) (Evt.pos (by rfl) ?_))
 refine Evt.some_bind (a := (0 : Int)) (by rfl) (Evt.pos (by rfl) ?_)
 refine Evt.some_bind (a := (0 : Int)) (by rfl) ?_
 rw [e3, e3, show IntKind.i64.wrap (3 + 1) = 4 from rfl]
 refine Evt.succ (fun k => by rw [journal_frame.l0]) (Evt.neg (by decide) (Evt.pos (by rfl) ?_))
 have := (concatL_ev (hdr a) a (by rw [hdr_len]; omega) h).map
 refine Evt.congr (fun k => ?_) this
 congr 2
def num (a b c d : Int) : Int := a * 16777216 + b * 65536 + c * 256 + d
theorem or_step {x v : Int} (h0 : 0 ≤ x) (h1 : x < 16777216) (v0 : 0 ≤ v) (v1 : v < 256) : Go.bits .or .i64 (IntKind.i64.wrap (x * 2 ^ 8)) (IntKind.i64.wrap v) = x * 256 + v := by
 have e : (2 : Int) ^ 8 = 256 := rfl
 rw [e, wrap_i64 (by omega) (by omega), wrap_i64 (by omega) (by omega)]
 exact bits_or_add .i64 63 (by decide) (fun n h0 h1 => wrap_i64 (by omega) (by have : (2 : Int) ^ 63 = 9223372036854775808 := rfl; omega)) 8 (by omega) (by have : (2 : Int) ^ 63 = 9223372036854775808 := rfl; omega) v0 (by rw [e]; exact v1) (by decide) (by rw [e]; omega)
theorem eqB_suf (x y : List Int) (hl : x.length = y.length) (hn : x.length < 9223372036854775807) : ∀ n i, x.length - i = n → i ≤ x.length → Evt (fun k => slices_Equal_byte_byte.l0 k (i : Int) x y) (decide (x.drop i = y.drop i))
 | 0, i, h, hi => by
  have hz : i = x.length := by omega
  subst hz
  refine Evt.succ (fun k => by rw [slices_Equal_byte_byte.l0]) (Evt.neg (by simp) ?_)
  rw [List.drop_length, hl, List.drop_length]
  exact .pure _
 | n + 1, i, h, hi => by
  have h1 : i < x.length := by omega
  have h2 : i < y.length := by omega
  refine Evt.succ (fun k => by rw [slices_Equal_byte_byte.l0]) (Evt.pos (by simpa using h1) (Evt.some_bind (rd_lt h1) (Evt.some_bind (rd_lt h2) ?_)))
  rw [List.drop_eq_getElem_cons h1, List.drop_eq_getElem_cons h2]
  by_cases he : x[i] = y[i]
  ·refine Evt.neg (by simp [he]) ?_
   rw [wrap_nat (by omega)]
   have e : decide (x[i] :: x.drop (i + 1) = y[i] :: y.drop (i + 1)) = decide (x.drop (i + 1) = y.drop (i + 1)) := decide_eq_decide.mpr ⟨fun h => (List.cons.inj h).2, fun h => by rw [he, h]⟩
   rw [e]
   exact eqB_suf x y hl hn n (i + 1) (by omega) (by omega)
  ·refine Evt.pos (by simp [he]) ?_
   have e : decide (x[i] :: x.drop (i + 1) = y[i] :: y.drop (i + 1)) = false := decide_eq_false fun h => he (List.cons.inj h).1
   rw [e]; exact .pure _
theorem eqB_ev (x y : List Int) (hl : x.length = y.length) (hn : x.length < 9223372036854775807) : Evt (fun k => slices_Equal_byte_byte.f k x y) (decide (x = y)) := by
 simp only [slices_Equal_byte_byte.f]
 refine Evt.neg (by simp [hl]) ?_
 have := eqB_suf x y hl hn x.length 0 (by omega) (by omega)
 simpa using this
open Classical in
noncomputable def nx : List Int → Option (List Int)
 | v0 :: v1 :: v2 :: v3 :: t => if t.length < 4 then none else if num v0 v1 v2 v3 > (t.length : Int) - 4 then none else
   if hdr ((t.drop 4).take (num v0 v1 v2 v3).toNat) = v0 :: v1 :: v2 :: v3 :: t.take 4 then some ((t.drop 4).take (num v0 v1 v2 v3).toNat) else none
 | _ => none
theorem nx_len {b body : List Int} (h : nx b = some body) : 8 + body.length ≤ b.length := by
 match b, h with
 | v0 :: v1 :: v2 :: v3 :: t, h =>
  simp only [nx] at h
  split at h
  ·cases h
  ·split at h
   ·cases h
   ·split at h
    ·cases h
     simp only [List.length_take, List.length_drop, List.length_cons]
     omega
    ·cases h
theorem num_pos {v0 v1 v2 v3 : Int} {t : List Int} (h : U8s (v0 :: v1 :: v2 :: v3 :: t)) : (0 ≤ v0 ∧ v0 < 256) ∧ (0 ≤ v1 ∧ v1 < 256) ∧ (0 ≤ v2 ∧ v2 < 256) ∧ (0 ≤ v3 ∧ v3 < 256) :=
 ⟨h v0 (by simp), h v1 (by simp), h v2 (by simp), h v3 (by simp)⟩
theorem sub8 (b : List Int) (n : Nat) : sub b 8 (8 + (n : Int)) = (b.drop 8).take n := by
 simp only [sub]
 have : ((8 : Int) + (n : Int)).toNat - (8 : Int).toNat = n := by omega
 rw [this]; rfl
theorem next_ev (b : List Int) (hb : U8s b) (hl : b.length ≤ 1000000000000) : ∃ w, Evt (fun k => journal_next.f k b) (w, (nx b).isSome) ∧ ∀ body, nx b = some body → w = body := by
 by_cases h8 : b.length < 8
 ·refine ⟨[], ?_, ?_⟩
  ·have : nx b = none := by
    match b, h8 with
    | [], _ => rfl
    | [_], _ => rfl
    | [_, _], _ => rfl
    | [_, _, _], _ => rfl
    | v0 :: v1 :: v2 :: v3 :: t, h8 => simp only [nx]; rw [if_pos (by simp only [List.length_cons] at h8; omega)]
   rw [this]
   simp only [journal_next.f]
   exact Evt.pos (by rw [decide_eq_true_eq]; omega) (.pure _)
  ·intro body h
   have := nx_len h
   omega
 ·obtain ⟨v0, v1, v2, v3, t, rfl⟩ : ∃ v0 v1 v2 v3 t, b = v0 :: v1 :: v2 :: v3 :: t := by
   match b, h8 with
   | [], h8 => exact absurd (by simp) h8
   | [_], h8 => exact absurd (by simp) h8
   | [_, _], h8 => exact absurd (by simp) h8
   | [_, _, _], h8 => exact absurd (by simp) h8
   | v0 :: v1 :: v2 :: v3 :: t, h8 => exact ⟨v0, v1, v2, v3, t, rfl⟩
  simp only [List.length_cons] at hl h8
  obtain ⟨g0, g1, g2, g3⟩ := num_pos hb
  have hnum : 0 ≤ num v0 v1 v2 v3 := by simp only [num]; omega
  have hnum2 : num v0 v1 v2 v3 < 4294967296 := by simp only [num]; omega
  obtain ⟨n, hn⟩ := Int.eq_ofNat_of_zero_le hnum
  have main : ∀ r, Evt (fun k => if (decide (num v0 v1 v2 v3 > (IntKind.i64.wrap (((v0 :: v1 :: v2 :: v3 :: t).length : Int) - 8)))) = true then (some (([] : List Int), false)) else (if (decide (0 ≤ 8 ∧ 8 ≤ (IntKind.i64.wrap (8 + num v0 v1 v2 v3)) ∧ (IntKind.i64.wrap (8 + num v0 v1 v2 v3)) ≤ ((v0 :: v1 :: v2 :: v3 :: t).length : Int))) = true then ((slices_Clone_byte_byte.f k (sub (v0 :: v1 :: v2 :: v3 :: t) 8 (IntKind.i64.wrap (8 + num v0 v1 v2 v3)))).bind fun r9 => (journal_frame.f k (sub (v0 :: v1 :: v2 :: v3 :: t) 8 (IntKind.i64.wrap (8 + num v0 v1 v2 v3)))).bind fun r10 => if (decide (0 ≤ 0 ∧ 0 ≤ 8 ∧ 8 ≤ (r10.length : Int))) = true then (if (decide (0 ≤ 0 ∧ 0 ≤ 8 ∧ 8 ≤ ((v0 :: v1 :: v2 :: v3 :: t).length : Int))) = true then ((slices_Equal_byte_byte.f k (sub r10 0 8) (sub (v0 :: v1 :: v2 :: v3 :: t) 0 8)).bind fun r13 => some (r9, r13)) else none) else none) else none)) r →
    Evt (fun k => journal_next.f k (v0 :: v1 :: v2 :: v3 :: t)) r := by
   intro r hr
   simp only [journal_next.f]
   refine Evt.neg (by rw [decide_eq_true_eq]; simp only [List.length_cons]; omega) (Evt.pos (by rw [decide_eq_true_eq]; simp only [List.length_cons]; omega) ?_)
   have es : sub (v0 :: v1 :: v2 :: v3 :: t) 0 4 = [v0, v1, v2, v3] := rfl
   refine Evt.succ (fun k => by rw [journal_next.l0, es]) (Evt.pos (by rfl) (Evt.some_bind (a := v0) (by rfl) ?_))
   rw [or_step (x := 0) (by omega) (by omega) g0.1 g0.2, show IntKind.i64.wrap (0 + 1) = 1 from rfl]
   refine Evt.succ (fun k => by rw [journal_next.l0, es]) (Evt.pos (by rfl) (Evt.some_bind (a := v1) (by rfl) ?_))
   rw [or_step (by omega) (by omega) g1.1 g1.2, show IntKind.i64.wrap (1 + 1) = 2 from rfl]
   refine Evt.succ (fun k => by rw [journal_next.l0, es]) (Evt.pos (by rfl) (Evt.some_bind (a := v2) (by rfl) ?_))
   rw [or_step (by omega) (by omega) g2.1 g2.2, show IntKind.i64.wrap (2 + 1) = 3 from rfl]
   refine Evt.succ (fun k => by rw [journal_next.l0, es]) (Evt.pos (by rfl) (Evt.some_bind (a := v3) (by rfl) ?_))
   rw [or_step (by omega) (by omega) g3.1 g3.2, show IntKind.i64.wrap (3 + 1) = 4 from rfl]
   have en : (((0 * 256 + v0) * 256 + v1) * 256 + v2) * 256 + v3 = num v0 v1 v2 v3 := by simp only [num]; omega
   rw [en]
   refine Evt.succ (fun k => by rw [journal_next.l0, es]) (Evt.neg (by simp) ?_)
   exact hr
  have ew : IntKind.i64.wrap (8 + num v0 v1 v2 v3) = 8 + (n : Int) := by rw [hn]; exact wrap_i64 (by omega) (by omega)
  have ew2 : IntKind.i64.wrap (((v0 :: v1 :: v2 :: v3 :: t).length : Int) - 8) = (t.length : Int) - 4 := by rw [wrap_i64] <;> simp only [List.length_cons] <;> omega
  rw [ew, ew2, sub8] at main
  by_cases h9 : num v0 v1 v2 v3 > (t.length : Int) - 4
  ·refine ⟨[], ?_, ?_⟩
   ·have : nx (v0 :: v1 :: v2 :: v3 :: t) = none := by simp only [nx]; rw [if_neg (by omega), if_pos h9]
    rw [this]
    exact main _ (Evt.pos (by rw [decide_eq_true_eq]; exact h9) (.pure _))
   ·intro body h
    simp only [nx] at h
    rw [if_neg (by omega), if_pos h9] at h
    cases h
  ·have hd8 : (v0 :: v1 :: v2 :: v3 :: t).drop 8 = t.drop 4 := rfl
   have ht8 : (v0 :: v1 :: v2 :: v3 :: t).take 8 = v0 :: v1 :: v2 :: v3 :: t.take 4 := rfl
   have hbl : ((t.drop 4).take n).length = n := by simp only [List.length_take, List.length_drop]; omega
   have e8 : sub (frm ((t.drop 4).take n)) 0 8 = hdr ((t.drop 4).take n) := by
    show sub (hdr _ ++ _) 0 ((8 : Nat) : Int) = _
    rw [sub_take, List.take_append_of_le_length (by rw [hdr_len]; omega), List.take_of_length_le (by rw [hdr_len]; omega)]
   have e8' : sub (v0 :: v1 :: v2 :: v3 :: t) 0 8 = v0 :: v1 :: v2 :: v3 :: t.take 4 := by
    show sub _ 0 ((8 : Nat) : Int) = _
    rw [sub_take, ht8]
   have hnx : nx (v0 :: v1 :: v2 :: v3 :: t) = if hdr ((t.drop 4).take n) = v0 :: v1 :: v2 :: v3 :: t.take 4 then some ((t.drop 4).take n) else none := by
    simp only [nx]
    rw [if_neg (by omega), if_neg h9, hn]
    rfl
   refine ⟨(t.drop 4).take n, ?_, ?_⟩
   ·have hq : (nx (v0 :: v1 :: v2 :: v3 :: t)).isSome = decide (hdr ((t.drop 4).take n) = v0 :: v1 :: v2 :: v3 :: t.take 4) := by
     rw [hnx]; split <;> simp [*]
    rw [hq]
    apply main
    rw [hd8]
    refine Evt.neg (by rw [decide_eq_true_eq]; exact h9) (Evt.pos (by rw [decide_eq_true_eq]; simp only [List.length_cons]; omega) ?_)
    refine (bclone_ev _ (by rw [hbl]; omega)).bind ((frameP_ev _ (by rw [hbl]; omega)).bind ?_)
    refine Evt.pos (by rw [decide_eq_true_eq, frm_len]; omega) (Evt.pos (by rw [decide_eq_true_eq]; simp only [List.length_cons]; omega) ?_)
    rw [e8, e8']
    refine (eqB_ev _ _ (by rw [hdr_len]; simp only [List.length_cons, List.length_take]; omega) (by rw [hdr_len]; omega)).bind (.pure _)
   ·intro body h
    rw [hnx] at h
    split at h
    ·cases h; rfl
    ·cases h
end Go.Abs.GenK
