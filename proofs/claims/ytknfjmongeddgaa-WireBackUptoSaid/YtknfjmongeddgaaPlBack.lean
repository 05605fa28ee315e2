import Derived.Test.YtknfjmongeddgaaPlWire
import Derived.Lib.VarintBits
set_option linter.unusedVariables false
set_option linter.unusedSimpArgs false
namespace Go.Abs.GenA
open Go.Abs Go.Lib

/-! ### reading a number -/
def unzz (v : Int) : Int := if v % 2 = 0 then v / 2 else -(v / 2) - 1
theorem unzz_zz {n : Int} : unzz (zz n) = n := by unfold unzz zz; split <;> split <;> omega
theorem zz_unzz {v : Int} (h : 0 ≤ v) : zz (unzz v) = v := by unfold unzz zz; split <;> split <;> omega
theorem unzz_I64 {v : Int} (h0 : 0 ≤ v) (h1 : v < 18446744073709551616) : I64 (unzz v) := by unfold unzz I64; split <;> omega

set_option maxRecDepth 100000 in
theorem and127_nat : ∀ a : Fin 256, (a.val &&& 127) = a.val % 128 := by decide
theorem and127 (a : Int) (h₀ : 0 ≤ a) (h₁ : a < 256) : Go.bits .and .u8 a 127 = a % 128 := by
  obtain ⟨n, rfl⟩ := Int.eq_ofNat_of_zero_le h₀
  have hn : n < 256 := by omega
  have h := (bits_nat .u8 8 (by decide) wraps_u8 n 127 (by simpa using hn) (by decide)).1
  have e : ((127 : Nat) : Int) = 127 := rfl
  rw [e] at h
  have h2 : (n &&& 127) = n % 128 := and127_nat ⟨n, hn⟩
  rw [h, h2]
  omega
theorem and_one64 {x : Int} (h0 : 0 ≤ x) (h1 : x < 18446744073709551616) : Go.bits .and .u64 x 1 = x % 2 := by
  obtain ⟨n, rfl⟩ := Int.eq_ofNat_of_zero_le h0
  have h := (bits_nat .u64 64 (by decide) (fun n h0 h1 => by rw [wrap_u64]; omega) n 1 (by simp; omega) (by decide)).1
  have e : ((1 : Nat) : Int) = 1 := rfl
  rw [e] at h
  rw [h, Nat.and_one_is_mod]
  omega
theorem wrap_i64' (n : Int) : IntKind.i64.wrap n = if n % 18446744073709551616 ≥ 9223372036854775808 then n % 18446744073709551616 - 18446744073709551616 else n % 18446744073709551616 := by
  simp [IntKind.wrap, IntKind.bits, IntKind.signed]
theorem xor_zero_i64 {x : Int} (h0 : 0 ≤ x) (h1 : x < 9223372036854775808) : Go.bits .xor .i64 x 0 = x := by
  show IntKind.i64.wrap (((BitVec.ofInt 64 x ^^^ BitVec.ofInt 64 0).toNat : Nat) : Int) = x
  have e : BitVec.ofInt 64 0 = 0#64 := by decide
  rw [e, BitVec.xor_zero, wrap_i64', BitVec.toNat_ofInt]
  split <;> omega
theorem xor_ones_i64 {x : Int} (h0 : 0 ≤ x) (h1 : x < 9223372036854775808) : Go.bits .xor .i64 x (-1) = -x - 1 := by
  show IntKind.i64.wrap (((BitVec.ofInt 64 x ^^^ BitVec.ofInt 64 (-1)).toNat : Nat) : Int) = _
  have e : BitVec.ofInt 64 (-1) = BitVec.allOnes 64 := by decide
  rw [e, BitVec.xor_allOnes, BitVec.toNat_not, wrap_i64', BitVec.toNat_ofInt]
  split <;> omega
theorem fin_eq {v : Int} (h0 : 0 ≤ v) (h1 : v < 18446744073709551616) :
    Go.bits .xor .i64 (IntKind.i64.wrap (Int.fdiv v (2 ^ 1))) (IntKind.i64.wrap (0 - (IntKind.i64.wrap (Go.bits .and .u64 v 1)))) = unzz v := by
  have hd : Int.fdiv v (2 ^ 1) = v / 2 := by rw [Int.fdiv_eq_ediv_of_nonneg _ (by decide)]; rfl
  rw [and_one64 h0 h1, hd, wrap_i64 (n := v / 2) (by omega) (by omega), wrap_i64 (n := v % 2) (by omega) (by omega), wrap_i64 (n := 0 - v % 2) (by omega) (by omega)]
  unfold unzz
  split
  · rename_i h
    rw [h]; exact xor_zero_i64 (by omega) (by omega)
  · rename_i h
    rw [show v % 2 = 1 by omega]; exact xor_ones_i64 (by omega) (by omega)

/-- a digit joined. -/
theorem join_eq {u x : Int} {i : Nat} (hi : i ≤ 9) (hu0 : 0 ≤ u) (hu1 : u < 2 ^ (7 * i)) (hx0 : 0 ≤ x) (hx1 : x < 256) (hx9 : i = 9 → x ≤ 1) :
    Go.bits .or .u64 u (IntKind.u64.wrap ((IntKind.u64.wrap (Go.bits .and .u8 x 127)) * 2 ^ (min (IntKind.i64.wrap (7 * (i : Int))).toNat 64))) = u + x % 128 * 2 ^ (7 * i) := by
  rw [and127 x hx0 hx1, wrap_i64 (n := 7 * (i : Int)) (by omega) (by omega), wrap_u64, wrap_u64]
  have e : min (7 * (i : Int)).toNat 64 = 7 * i := by omega
  rw [e]
  have hm : x % 128 % 18446744073709551616 = x % 128 := by omega
  rw [hm]
  match i, hi with
  | 0, _ => simp at *; first | exact u64_orv0 _ _ (by omega) (by omega) (by omega) (by omega) (by omega) | (rw [Int.emod_eq_of_lt (by omega) (by omega)]; exact u64_orv0 _ _ (by omega) (by omega) (by omega) (by omega) (by omega))
  | 1, _ => simp at *; rw [Int.emod_eq_of_lt (by omega) (by omega)]; exact u64_orv7 _ _ (by omega) (by omega) (by omega) (by omega) (by omega)
  | 2, _ => simp at *; rw [Int.emod_eq_of_lt (by omega) (by omega)]; exact u64_orv14 _ _ (by omega) (by omega) (by omega) (by omega) (by omega)
  | 3, _ => simp at *; rw [Int.emod_eq_of_lt (by omega) (by omega)]; exact u64_orv21 _ _ (by omega) (by omega) (by omega) (by omega) (by omega)
  | 4, _ => simp at *; rw [Int.emod_eq_of_lt (by omega) (by omega)]; exact u64_orv28 _ _ (by omega) (by omega) (by omega) (by omega) (by omega)
  | 5, _ => simp at *; rw [Int.emod_eq_of_lt (by omega) (by omega)]; exact u64_orv35 _ _ (by omega) (by omega) (by omega) (by omega) (by omega)
  | 6, _ => simp at *; rw [Int.emod_eq_of_lt (by omega) (by omega)]; exact u64_orv42 _ _ (by omega) (by omega) (by omega) (by omega) (by omega)
  | 7, _ => simp at *; rw [Int.emod_eq_of_lt (by omega) (by omega)]; exact u64_orv49 _ _ (by omega) (by omega) (by omega) (by omega) (by omega)
  | 8, _ => simp at *; rw [Int.emod_eq_of_lt (by omega) (by omega)]; exact u64_orv56 _ _ (by omega) (by omega) (by omega) (by omega) (by omega)
  | 9, _ => simp at *; rw [Int.emod_eq_of_lt (by omega) (by omega)]; exact u64_orv63 _ _ (by omega) (by omega) (by omega) (by omega) (by omega)

inductive Dec where
  | err (e : Int)
  | ok (v : Int) (rest : List Int)
/-- the reading of a number. -/
def dc : Nat → Int → List Int → Dec
  | _, _, [] => .err 3
  | i, u, x :: bs => if (0 < i ∧ x = 0) ∨ (i = 9 ∧ x > 1) then .err 5 else if x < 128 then .ok (u + x * 2 ^ (7 * i)) bs else dc (i + 1) (u + (x - 128) * 2 ^ (7 * i)) bs
def fin (a1 a2 : Int) : Dec → Int × wire_Reader
  | .err e => (0, ⟨true, [], e⟩)
  | .ok v rest => if unzz v < a1 ∨ unzz v > a2 then (0, ⟨true, [], 4⟩) else (unzz v, ⟨true, rest, 0⟩)

theorem byte_nil (k : Nat) : wire_Reader_byte.f k ⟨true, [], 0⟩ = some (0, false, ⟨true, [], 3⟩) := rfl
theorem sub_tail (x : Int) (bs : List Int) : sub (x :: bs) 1 (((x :: bs).length : Nat) : Int) = bs := by
  simp [sub]
theorem byte_cons (k : Nat) (x : Int) (bs : List Int) : wire_Reader_byte.f k ⟨true, x :: bs, 0⟩ = some (x, true, ⟨true, bs, 0⟩) := by
  rw [wire_Reader_byte.f, wire_Reader_none.f]
  simp only [Option.bind_some, Bool.not_true, if_false, Bool.false_eq_true]
  rw [if_neg (by decide), if_neg (by simp; omega)]
  have e : rd (x :: bs) 0 = some x := rfl
  rw [e, Option.bind_some, if_pos (by simp; omega), sub_tail]
theorem fail_eq (k : Nat) (bs : List Int) (e : Int) : wire_Reader_fail.f k ⟨true, bs, 0⟩ e = some ⟨true, [], e⟩ := rfl

theorem pow7 (i : Nat) : (2 : Int) ^ (7 * (i + 1)) = 128 * 2 ^ (7 * i) := by
  rw [Nat.mul_add, Int.pow_add]
  have : (2 : Int) ^ (7 * 1) = 128 := by decide
  rw [this, Int.mul_comm]
theorem pow7_pos (i : Nat) : (0 : Int) < 2 ^ (7 * i) := Int.pow_pos (by decide)

theorem top_lt {u x : Int} {i : Nat} (hi : i ≤ 9) (hu0 : 0 ≤ u) (hu1 : u < 2 ^ (7 * i)) (hx0 : 0 ≤ x) (hx1 : x < 128) (hx9 : i = 9 → x ≤ 1) : 0 ≤ u + x * 2 ^ (7 * i) ∧ u + x * 2 ^ (7 * i) < 18446744073709551616 := by
  have hq := pow7_pos i
  have h1 := Int.mul_nonneg hx0 (Int.le_of_lt hq)
  refine ⟨by omega, ?_⟩
  by_cases e : i = 9
  · have h2 : x * 2 ^ (7 * i) ≤ 1 * 2 ^ (7 * i) := Int.mul_le_mul_of_nonneg_right (hx9 e) (Int.le_of_lt hq)
    have h3 : (2 : Int) ^ (7 * i) = 9223372036854775808 := by rw [e]; decide
    rw [h3] at h2 hu1 ⊢
    omega
  · have h2 : x * 2 ^ (7 * i) ≤ 127 * 2 ^ (7 * i) := Int.mul_le_mul_of_nonneg_right (by omega) (Int.le_of_lt hq)
    have h3 : (2 : Int) ^ (7 * i) ≤ 2 ^ 56 := by
      have h : 7 * i ≤ 56 := by omega
      exact_mod_cast (Nat.pow_le_pow_right (n := 2) (by decide) h)
    have h4 : (2 : Int) ^ 56 = 72057594037927936 := by decide
    omega

def accu (u x : Int) (i : Nat) : Int := u + x % 128 * 2 ^ (7 * i)

theorem j1_eq {k i : Nat} {c : Bool} {a1 a2 u x : Int} {bs : List Int} (hi : i ≤ 9) (hu0 : 0 ≤ u) (hu1 : u < 2 ^ (7 * i)) (hx : 0 ≤ x ∧ x < 256) (hx9 : c = false → i = 9 → x ≤ 1) :
    wire_Reader_Int.j1 (k + 1) c a1 a2 u i (x, true, ⟨true, bs, 0⟩) =
      if c = true then some (0, ⟨true, [], 5⟩) else if x < 128 then some (fin a1 a2 (.ok (u + x * 2 ^ (7 * i)) bs)) else wire_Reader_Int.l0 k true bs 0 (u + (x - 128) * 2 ^ (7 * i)) ((i + 1 : Nat) : Int) a1 a2 := by
  rw [wire_Reader_Int.j1]
  cases c with
  | true => rw [if_pos rfl, if_pos rfl, fail_eq]; rfl
  | false =>
    rw [if_neg (show ¬ (false = true) by decide), if_neg (show ¬ (false = true) by decide)]
    have e7 : IntKind.i64.wrap (7 * (i : Int)) = 7 * (i : Int) := wrap_i64 (by omega) (by omega)
    rw [if_pos (by rw [e7]; exact decide_eq_true (by omega))]
    have ej := join_eq hi hu0 hu1 hx.1 hx.2 (hx9 rfl)
    have e1 : IntKind.i64.wrap ((i : Int) + 1) = ((i + 1 : Nat) : Int) := by rw [wrap_i64] <;> omega
    rw [ej, e1]
    by_cases hl : x < 128
    · have ht := top_lt hi hu0 hu1 hx.1 hl (hx9 rfl)
      rw [if_pos (decide_eq_true hl), if_pos hl, show x % 128 = x by omega, fin_eq ht.1 ht.2, fail_eq]
      simp only [fin, Option.bind_some]
      generalize unzz (u + x * 2 ^ (7 * i)) = z
      by_cases c1 : z < a1
      · rw [if_pos (decide_eq_true c1), if_pos (.inl c1)]
      · rw [if_neg (by simpa using c1)]
        by_cases c2 : z > a2
        · rw [if_pos (decide_eq_true c2), if_pos (.inr c2)]
        · rw [if_neg (by simpa using c2), if_neg (by rintro (h | h) <;> contradiction)]
    · rw [if_neg (by simpa using hl), if_neg hl, show x % 128 = x - 128 by omega]

theorem read_eq : ∀ (bs : List Int) (i : Nat) (u : Int) (k : Nat) (a1 a2 : Int), (∀ b ∈ bs, 0 ≤ b ∧ b < 256) → i ≤ 9 → 0 ≤ u → u < 2 ^ (7 * i) → 2 * (10 - i) ≤ k →
    wire_Reader_Int.l0 k true bs 0 u i a1 a2 = some (fin a1 a2 (dc i u bs))
  | [], i, u, k, a1, a2, _, hi, hu0, hu1, hk => by
    obtain ⟨k, rfl⟩ : ∃ m, k = m + 1 := ⟨k - 1, by omega⟩
    rw [wire_Reader_Int.l0, byte_nil]; rfl
  | x :: bs, i, u, k, a1, a2, hb, hi, hu0, hu1, hk => by
    obtain ⟨k, rfl⟩ : ∃ m, k = m + 2 := ⟨k - 2, by omega⟩
    have hx := hb x (by simp)
    have ih := read_eq bs (i + 1)
    rw [wire_Reader_Int.l0, byte_cons, Option.bind_some, dc]
    dsimp only
    rw [if_pos rfl]
    have key : ∀ c : Bool, (c = true ↔ (0 < i ∧ x = 0) ∨ (i = 9 ∧ x > 1)) → wire_Reader_Int.j1 (k + 1) c a1 a2 u i (x, true, ⟨true, bs, 0⟩) = some (fin a1 a2 (if (0 < i ∧ x = 0) ∨ (i = 9 ∧ x > 1) then .err 5 else if x < 128 then .ok (u + x * 2 ^ (7 * i)) bs else dc (i + 1) (u + (x - 128) * 2 ^ (7 * i)) bs)) := by
      intro c hc
      have hx9 : c = false → i = 9 → x ≤ 1 := fun e1 e2 => by
        by_cases h : x > 1
        · rw [hc.mpr (.inr ⟨e2, h⟩)] at e1; cases e1
        · omega
      rw [j1_eq hi hu0 hu1 hx hx9]
      by_cases h : c = true
      · rw [if_pos h, if_pos (hc.mp h)]; rfl
      · rw [if_neg h, if_neg (fun e => h (hc.mpr e))]
        by_cases hl : x < 128
        · rw [if_pos hl, if_pos hl]
        · rw [if_neg hl, if_neg hl]
          have h9 : c = false := by cases c <;> simp_all
          have hi' : i ≤ 8 := by
            by_cases e : i = 9
            · have := hx9 h9 e; omega
            · omega
          have hq := pow7_pos i
          have hm : 0 ≤ (x - 128) * 2 ^ (7 * i) := Int.mul_nonneg (by omega) (Int.le_of_lt hq)
          have hm2 : (x - 128) * 2 ^ (7 * i) ≤ 127 * 2 ^ (7 * i) := Int.mul_le_mul_of_nonneg_right (by omega) (Int.le_of_lt hq)
          exact ih _ k a1 a2 (fun b h => hb b (by simp [h])) (by omega) (by omega) (by rw [pow7]; omega) (by omega)
    by_cases h0 : 0 < i
    · rw [if_pos (decide_eq_true (by omega))]
      by_cases hx0 : x = 0
      · rw [if_pos (by simpa using hx0)]
        exact key _ (by simp [hx0, h0])
      · rw [if_neg (by simpa using hx0)]
        by_cases h9 : i = 9
        · rw [if_pos (by simp; omega)]
          exact key _ (by simp [hx0, h9])
        · rw [if_neg (by simp; omega)]
          exact key _ (by simp [hx0, h9])
    · have e : i = 0 := by omega
      subst e
      rw [if_neg (by simp), if_neg (by simp)]
      exact key _ (by simp)

/-! ### what is put is read -/
theorem split_mul (m q : Int) : m % 128 * q + m / 128 * (128 * q) = m * q := by
  have h := Int.emod_add_mul_ediv m 128
  conv => rhs; rw [← h]
  rw [Int.add_mul, ← Int.mul_assoc (m / 128), Int.mul_comm (m / 128) 128]

theorem dc_vi : ∀ (n i : Nat) (u m : Int) (rest : List Int), i + n = 9 → 0 ≤ m → (0 < i → 0 < m) → m < 2 * 128 ^ n → dc i u (vi (n + 1) m ++ rest) = .ok (u + m * 2 ^ (7 * i)) rest
  | n, i, u, m, rest, hn, h0, h1, h2 => by
    rw [vi]
    by_cases hm : 128 ≤ m
    · rw [if_pos hm, List.cons_append, dc]
      cases n with
      | zero => simp at h2; omega
      | succ n =>
        rw [if_neg (by omega), if_neg (by omega)]
        have h3 : m / 128 < 2 * 128 ^ n := by
          have : (128 : Int) ^ (n + 1) = 128 ^ n * 128 := by rw [Int.pow_succ]
          rw [this] at h2
          exact Int.ediv_lt_of_lt_mul (by decide) (by omega)
        rw [dc_vi n (i + 1) _ (m / 128) rest (by omega) (by omega) (by omega) h3, show m % 128 + 128 - 128 = m % 128 by omega, pow7, Int.add_assoc, split_mul]
    · rw [if_neg hm]
      show dc i u (m :: rest) = _
      rw [dc, if_neg ?_, if_pos (by omega)]
      rintro (⟨a, b⟩ | ⟨a, b⟩)
      · have := h1 a; omega
      · have : n = 0 := by omega
        subst this
        simp at h2; omega

theorem vi_dc : ∀ (bs : List Int) (n i : Nat) (u v : Int) (rest : List Int), (∀ b ∈ bs, 0 ≤ b ∧ b < 256) → i + n = 9 → dc i u bs = .ok v rest →
    ∃ m, bs = vi (n + 1) m ++ rest ∧ v = u + m * 2 ^ (7 * i) ∧ 0 ≤ m ∧ (0 < i → 0 < m) ∧ m < 2 * 128 ^ n
  | [], n, i, u, v, rest, _, _, h => by simp [dc] at h
  | x :: bs, n, i, u, v, rest, hb, hn, h => by
    have hx := hb x (by simp)
    rw [dc] at h
    by_cases c1 : (0 < i ∧ x = 0) ∨ (i = 9 ∧ x > 1)
    · rw [if_pos c1] at h; cases h
    · rw [if_neg c1] at h
      have c3 : 0 < i → x ≠ 0 := fun a b => c1 (.inl ⟨a, b⟩)
      have c4 : i = 9 → x ≤ 1 := fun a => by
        by_cases b : x > 1
        · exact absurd (.inr ⟨a, b⟩) c1
        · omega
      by_cases c2 : x < 128
      · rw [if_pos c2] at h
        cases h
        refine ⟨x, ?_, rfl, hx.1, fun a => by have := c3 a; omega, ?_⟩
        · rw [vi, if_neg (by omega)]; rfl
        · cases n with
          | zero => simp; have := c4 (by omega); omega
          | succ n =>
            have h1 : (128 : Int) ^ (n + 1) = 128 ^ n * 128 := by rw [Int.pow_succ]
            have h2 : (0 : Int) < 128 ^ n := Int.pow_pos (by decide)
            rw [h1]; omega
      · rw [if_neg c2] at h
        cases n with
        | zero => have := c4 (by omega); omega
        | succ n =>
          obtain ⟨m, rfl, rfl, h1, h2, h3⟩ := vi_dc bs n (i + 1) _ v rest (fun b h => hb b (by simp [h])) (by omega) h
          have h2' := h2 (by omega)
          have e1 : (128 * m + (x - 128)) % 128 = x - 128 := by omega
          have e2 : (128 * m + (x - 128)) / 128 = m := by omega
          refine ⟨128 * m + (x - 128), ?_, ?_, by omega, by omega, ?_⟩
          · have e3 : vi (n + 1 + 1) (128 * m + (x - 128)) = x :: vi (n + 1) m := by
              rw [vi.eq_2 (128 * m + (x - 128)) (n + 1), if_pos (by omega), e1, e2, show x - 128 + 128 = x by omega]
            rw [e3]; rfl
          · have := split_mul (128 * m + (x - 128)) (2 ^ (7 * i))
            rw [e1, e2] at this
            rw [pow7, Int.add_assoc, this]
          · have h4 : (128 : Int) ^ (n + 1) = 128 ^ n * 128 := by rw [Int.pow_succ]
            rw [h4]; omega
end Go.Abs.GenA
