import Derived.Test.YtknfjmongeddgaaDoorGenCc
import Derived.Test.YtknfjmongeddgaaDoorPlStr
set_option linter.unusedVariables false
set_option linter.unusedSimpArgs false
set_option maxRecDepth 100000
set_option maxHeartbeats 2000000
namespace Go.Abs.GenC
open Go.Abs

/-! ### the bytes of a character -/
def E (r : Int) : List Int :=
  if r < 0 ∨ r > 1114111 ∨ (55296 ≤ r ∧ r ≤ 57343) then []
  else if r < 128 then [r]
  else if r < 2048 then [192 + r / 64, 128 + r % 64]
  else if r < 65536 then [224 + r / 4096, 128 + r / 64 % 64, 128 + r % 64]
  else [240 + r / 262144, 128 + r / 4096 % 64, 128 + r / 64 % 64, 128 + r % 64]

theorem u8w {n : Int} (h0 : 0 ≤ n) (h1 : n < 256) : IntKind.u8.wrap n = n := by rw [wrap_u8]; omega
theorem u8o {a b : Int} (h0 : 0 ≤ a) (h1 : a < 256) (hb0 : 0 ≤ b) (hb : b < 64) (hm : a % 64 = 0) : Go.bits .or .u8 a b = a + b := u8_or 6 h0 h1 hb0 (by simpa using hb) (by decide) (by simpa using hm)

theorem refE (k : Nat) (r : Int) (h0 : -9223372036854775808 ≤ r) (h1 : r ≤ 9223372036854775807) : dossierref01_Encode.f k r = some (E r) := by
  unfold dossierref01_Encode.f E
  by_cases a : r < 0
  · rw [if_pos (by simpa using a), if_pos (.inl a)]
  rw [if_neg (by simpa using a)]
  by_cases b : r > 1114111
  · rw [if_pos (by simpa using b), if_pos (.inr (.inl b))]
  rw [if_neg (by simpa using b)]
  have d6 := fdiv_pow (a := r) 6 (by omega)
  have d12 := fdiv_pow (a := r) 12 (by omega)
  have d18 := fdiv_pow (a := r) 18 (by omega)
  have m0 : Int.tmod r 64 = r % 64 := Int.tmod_eq_emod_of_nonneg (by omega)
  have m1 : Int.tmod (r / 2 ^ 6) 64 = r / 2 ^ 6 % 64 := Int.tmod_eq_emod_of_nonneg (by omega)
  have m2 : Int.tmod (r / 2 ^ 12) 64 = r / 2 ^ 12 % 64 := Int.tmod_eq_emod_of_nonneg (by omega)
  rw [d6, d12, d18, m0, m1, m2]
  have tail : ¬ (55296 ≤ r ∧ r ≤ 57343) → (if (decide (r < 128)) = true then (some ([IntKind.u8.wrap r] : List Int)) else (if (decide (r < 2048)) = true then (some ([IntKind.u8.wrap (IntKind.i64.wrap (192 + (r / 2 ^ 6))), IntKind.u8.wrap (IntKind.i64.wrap (128 + (r % 64)))] : List Int)) else (if (decide (r < 65536)) = true then (some ([IntKind.u8.wrap (IntKind.i64.wrap (224 + (r / 2 ^ 12))), IntKind.u8.wrap (IntKind.i64.wrap (128 + (r / 2 ^ 6 % 64))), IntKind.u8.wrap (IntKind.i64.wrap (128 + (r % 64)))] : List Int)) else (some ([IntKind.u8.wrap (IntKind.i64.wrap (240 + (r / 2 ^ 18))), IntKind.u8.wrap (IntKind.i64.wrap (128 + (r / 2 ^ 12 % 64))), IntKind.u8.wrap (IntKind.i64.wrap (128 + (r / 2 ^ 6 % 64))), IntKind.u8.wrap (IntKind.i64.wrap (128 + (r % 64)))] : List Int)))))
      = some (if r < 128 then [r] else if r < 2048 then [192 + r / 64, 128 + r % 64] else if r < 65536 then [224 + r / 4096, 128 + r / 64 % 64, 128 + r % 64] else [240 + r / 262144, 128 + r / 4096 % 64, 128 + r / 64 % 64, 128 + r % 64]) := by
    intro c
    by_cases e1 : r < 128
    · rw [if_pos (by simpa using e1), if_pos e1, u8w (by omega) (by omega)]
    rw [if_neg (by simpa using e1), if_neg e1]
    by_cases e2 : r < 2048
    · rw [if_pos (by simpa using e2), if_pos e2, wrap_i64 (by omega) (by omega), wrap_i64 (by omega) (by omega), u8w (by omega) (by omega), u8w (by omega) (by omega)]
      rfl
    rw [if_neg (by simpa using e2), if_neg e2]
    by_cases e3 : r < 65536
    · rw [if_pos (by simpa using e3), if_pos e3, wrap_i64 (by omega) (by omega), wrap_i64 (by omega) (by omega), wrap_i64 (by omega) (by omega), u8w (by omega) (by omega), u8w (by omega) (by omega), u8w (by omega) (by omega)]
      rfl
    rw [if_neg (by simpa using e3), if_neg e3, wrap_i64 (by omega) (by omega), wrap_i64 (by omega) (by omega), wrap_i64 (by omega) (by omega), wrap_i64 (by omega) (by omega), u8w (by omega) (by omega), u8w (by omega) (by omega), u8w (by omega) (by omega), u8w (by omega) (by omega)]
    rfl
  by_cases c : 55296 ≤ r
  · rw [if_pos (by simpa using c)]
    by_cases d : r ≤ 57343
    · rw [if_pos (by simpa using d), if_pos (.inr (.inr ⟨c, d⟩))]
    · rw [if_neg (by simpa using d), if_neg (show ¬ (r < 0 ∨ r > 1114111 ∨ (55296 ≤ r ∧ r ≤ 57343)) by omega)]
      exact tail (by omega)
  · rw [if_neg (by simpa using c), if_neg (show ¬ (r < 0 ∨ r > 1114111 ∨ (55296 ≤ r ∧ r ≤ 57343)) by omega)]
    exact tail (by omega)

theorem progE (k : Nat) (r : Int) (h0 : -9223372036854775808 ≤ r) (h1 : r ≤ 9223372036854775807) : Evt (fun k => chars_Encode.f k r) (E r) := by
  simp only [chars_Encode.f]
  unfold E
  by_cases a : r < 0
  · rw [if_pos (.inl a)]; exact Evt.pos (by simpa using a) (.pure _)
  refine Evt.neg (by simpa using a) ?_
  by_cases b : r > 1114111
  · rw [if_pos (.inr (.inl b))]; exact Evt.pos (by simpa using b) (.pure _)
  refine Evt.neg (by simpa using b) ?_
  rw [wrap_i32 (by omega) (by omega)]
  by_cases c : 55296 ≤ r ∧ r ≤ 57343
  · rw [if_pos (.inr (.inr c))]
    refine Evt.bind (a := false) ?_ (Evt.neg (by decide) (.pure _))
    simp only [utf8_ValidRune.f]
    exact Evt.pos (by simp; omega) (Evt.neg (by simp; omega) (Evt.neg (by simp; omega) (.pure _)))
  rw [if_neg (by omega)]
  refine Evt.bind (a := true) ?_ (Evt.pos rfl ?_)
  · simp only [utf8_ValidRune.f]
    refine Evt.pos (by simp; omega) ?_
    by_cases d : r < 55296
    · exact Evt.pos (by simpa using d) (.pure _)
    · exact Evt.neg (by simpa using d) (Evt.pos (by simp; omega) (Evt.pos (by simp; omega) (.pure _)))
  have w : IntKind.u32.wrap r = r := by rw [wrap_u32]; omega
  have d6 := fdiv_pow (a := r) 6 (by omega)
  have d12 := fdiv_pow (a := r) 12 (by omega)
  have d18 := fdiv_pow (a := r) 18 (by omega)
  have m0 : Go.bits .or .u8 128 (Go.bits .and .u8 (IntKind.u8.wrap r) 63) = 128 + r % 64 := by
    rw [wrap_u8, (u8_and (by omega) (by omega)).1, u8o (by omega) (by omega) (by omega) (by omega) (by omega)]; omega
  have m1 : Go.bits .or .u8 128 (Go.bits .and .u8 (IntKind.u8.wrap (Int.fdiv r (2 ^ 6))) 63) = 128 + r / 64 % 64 := by
    rw [d6, wrap_u8, (u8_and (by omega) (by omega)).1, u8o (by omega) (by omega) (by omega) (by omega) (by omega)]; omega
  have m2 : Go.bits .or .u8 128 (Go.bits .and .u8 (IntKind.u8.wrap (Int.fdiv r (2 ^ 12))) 63) = 128 + r / 4096 % 64 := by
    rw [d12, wrap_u8, (u8_and (by omega) (by omega)).1, u8o (by omega) (by omega) (by omega) (by omega) (by omega)]; omega
  refine Evt.map ?_
  simp only [utf8_AppendRune_nil0.f, w]
  by_cases e1 : r < 128
  · rw [if_pos e1]
    refine Evt.pos (by simp; omega) (Evt.pos (by simp) ?_)
    rw [u8w (by omega) (by omega)]; exact .pure _
  rw [if_neg e1]
  refine Evt.neg (by simp; omega) (Evt.map ?_)
  simp only [utf8_appendRuneNonASCII_nil0.f, w]
  by_cases e2 : r < 2048
  · rw [if_pos e2]
    refine Evt.pos (by simp; omega) (Evt.pos (by simp) ?_)
    have m3 : Go.bits .or .u8 192 (IntKind.u8.wrap (Int.fdiv r (2 ^ 6))) = 192 + r / 64 := by
      rw [d6, u8w (by omega) (by omega), u8o (by omega) (by omega) (by omega) (by omega) (by omega)]; omega
    rw [m0, m3]; exact .pure _
  rw [if_neg e2]
  refine Evt.neg (by simp; omega) ?_
  have three : r < 65536 → Evt (fun k => utf8_appendRuneNonASCII_nil0.j0 k true r) [224 + r / 4096, 128 + r / 64 % 64, 128 + r % 64] := by
    intro e3
    refine Evt.succ (fun k => by rw [utf8_appendRuneNonASCII_nil0.j0]) (Evt.pos rfl (Evt.pos (by simp) ?_))
    have m3 : Go.bits .or .u8 224 (IntKind.u8.wrap (Int.fdiv r (2 ^ 12))) = 224 + r / 4096 := by
      rw [d12, u8w (by omega) (by omega), u8_or 5 (by omega) (by omega) (by omega) (by omega) (by omega) (by omega)]; omega
    rw [m0, m1, m3]; exact .pure _
  by_cases e3 : r < 65536
  · rw [if_pos e3]
    by_cases f : r < 55296
    · refine Evt.pos (by simpa using f) ?_
      have e : decide (r < 55296) = true := by simpa using f
      rw [e]; exact three e3
    · refine Evt.neg (by simpa using f) (Evt.pos (by simp; omega) ?_)
      have e : decide (r ≤ 65535) = true := by simp; omega
      rw [e]; exact three e3
  · rw [if_neg e3]
    refine Evt.neg (by simp; omega) (Evt.pos (by simp; omega) ?_)
    have e : decide (r ≤ 65535) = false := by simp; omega
    rw [e]
    refine Evt.succ (fun k => by rw [utf8_appendRuneNonASCII_nil0.j0, w]) (Evt.neg (by decide) (Evt.pos (by simp; omega) (Evt.pos (by simp; omega) (Evt.pos (by simp) ?_))))
    have m3 : Go.bits .or .u8 240 (IntKind.u8.wrap (Int.fdiv r (2 ^ 18))) = 240 + r / 262144 := by
      rw [d18, u8w (by omega) (by omega), u8_or 4 (by omega) (by omega) (by omega) (by omega) (by omega) (by omega)]; omega
    rw [m0, m1, m2, m3]; exact .pure _
theorem E_u8 (r : Int) : U8s (E r) := by
  unfold E
  split
  · exact U8s.nil
  split
  · exact U8s.cons (by omega) (by omega) U8s.nil
  split
  · exact U8s.cons (by omega) (by omega) (U8s.cons (by omega) (by omega) U8s.nil)
  split
  · exact U8s.cons (by omega) (by omega) (U8s.cons (by omega) (by omega) (U8s.cons (by omega) (by omega) U8s.nil))
  · exact U8s.cons (by omega) (by omega) (U8s.cons (by omega) (by omega) (U8s.cons (by omega) (by omega) (U8s.cons (by omega) (by omega) U8s.nil)))
end Go.Abs.GenC
