import Derived.Test.YtknfjmongeddgaaGenA
import Derived.Lib.Zigzag
import Derived.Lib.Varint
import Derived.OpenShut
set_option linter.unusedVariables false
set_option linter.unusedSimpArgs false
namespace Go.Abs.GenA
open Go.Abs Go.Lib

theorem wrap_i64 {n : Int} (h0 : -9223372036854775808 ≤ n) (h1 : n ≤ 9223372036854775807) : IntKind.i64.wrap n = n := by
  simp [IntKind.wrap, IntKind.bits, IntKind.signed]; omega
theorem wrap_u64 (n : Int) : IntKind.u64.wrap n = n % 18446744073709551616 := by simp [IntKind.wrap, IntKind.bits, IntKind.signed]
theorem wrap_u32 (n : Int) : IntKind.u32.wrap n = n % 4294967296 := by simp [IntKind.wrap, IntKind.bits, IntKind.signed]
theorem wrap_u8 (n : Int) : IntKind.u8.wrap n = n % 256 := by simp [IntKind.wrap, IntKind.bits, IntKind.signed]

theorem xor_zero64 {x : Int} (h0 : 0 ≤ x) (h1 : x < 18446744073709551616) : bits .xor .u64 x 0 = x := by
  show IntKind.u64.wrap (((BitVec.ofInt 64 x ^^^ BitVec.ofInt 64 0).toNat : Nat) : Int) = x
  have e : BitVec.ofInt 64 0 = 0#64 := by decide
  rw [e, BitVec.xor_zero, wrap_u64, BitVec.toNat_ofInt]
  omega
theorem xor_zero32 {x : Int} (h0 : 0 ≤ x) (h1 : x < 4294967296) : bits .xor .u32 x 0 = x := by
  show IntKind.u32.wrap (((BitVec.ofInt 32 x ^^^ BitVec.ofInt 32 0).toNat : Nat) : Int) = x
  have e : BitVec.ofInt 32 0 = 0#32 := by decide
  rw [e, BitVec.xor_zero, wrap_u32, BitVec.toNat_ofInt]
  omega
theorem xor_ones64 {x : Int} (h0 : 0 ≤ x) (h1 : x < 18446744073709551616) : bits .xor .u64 x 18446744073709551615 = 18446744073709551615 - x := by
  show IntKind.u64.wrap (((BitVec.ofInt 64 x ^^^ BitVec.ofInt 64 18446744073709551615).toNat : Nat) : Int) = _
  have e : BitVec.ofInt 64 18446744073709551615 = BitVec.allOnes 64 := by decide
  rw [e, BitVec.xor_allOnes, BitVec.toNat_not, wrap_u64, BitVec.toNat_ofInt]
  omega
theorem bits_comm (k : IntKind) (x y : Int) : bits .xor k x y = bits .xor k y x := by
  simp only [bits, BitVec.xor_comm]
theorem bits_u32 (op : BinOp) (x y : Int) : 0 ≤ bits op .u32 x y ∧ bits op .u32 x y < 4294967296 := by
  have := wf_bits op .u32 x y
  simp [Lit.wf, IntKind.min, IntKind.max, IntKind.signed, IntKind.bits] at this
  omega
theorem and_one32 {x : Int} (h0 : 0 ≤ x) (h1 : x < 4294967296) : bits .and .u32 x 1 = x % 2 := by
  obtain ⟨n, rfl⟩ := Int.eq_ofNat_of_zero_le h0
  have h := (bits_nat .u32 32 (by decide) (fun n h0 h1 => by rw [wrap_u32]; omega) n 1 (by simp; omega) (by decide)).1
  have e : ((1 : Nat) : Int) = 1 := rfl
  rw [e] at h
  rw [h, Nat.and_one_is_mod]
  omega

/-- the digits. -/
def vi : Nat → Int → List Int
  | 0, _ => []
  | n + 1, x => if 128 ≤ x then (x % 128 + 128) :: vi n (x / 128) else [x]
theorem vi_len : ∀ n x, (vi n x).length ≤ n
  | 0, _ => by simp [vi]
  | n + 1, x => by
    simp only [vi]; split
    · simpa using vi_len n (x / 128)
    · simp
theorem vi_u8 : ∀ n x, 0 ≤ x → ∀ b ∈ vi n x, 0 ≤ b ∧ b < 256
  | 0, _, _ => by simp [vi]
  | n + 1, x, h0 => by
    simp only [vi]; split
    · intro b hb
      rcases List.mem_cons.mp hb with rfl | hb
      · omega
      · exact vi_u8 n _ (by omega) b hb
    · intro b hb
      simp at hb; subst hb; omega
def zz (x : Int) : Int := if x < 0 then -2 * x - 1 else 2 * x

theorem loop_wire : ∀ (n : Nat) (x : Int) (acc : List Int) (k : Nat), 0 ≤ x → x < 128 ^ (n + 1) → n + 1 ≤ k → acc.length + (n + 1) ≤ 140737488355328 → wire_Int.l0 k acc x = some (acc ++ vi (n + 1) x)
  | n, x, acc, 0, _, _, hk, _ => by omega
  | n, x, acc, k + 1, h0, h1, hk, hl => by
    rw [wire_Int.l0, vi]
    by_cases hx : 128 ≤ x
    · rw [if_pos (by simpa using hx), if_pos (by simp; omega), if_pos hx]
      cases n with
      | zero => simp at h1; omega
      | succ n =>
        have e1 : Go.bits .or .u8 (IntKind.u8.wrap x) 128 = x % 128 + 128 := by
          rw [wrap_u8, u8_or128_any _ (by omega) (by omega)]; omega
        have e2 : Int.fdiv x (2 ^ 7) = x / 128 := by rw [Int.fdiv_eq_ediv_of_nonneg _ (by decide)]; rfl
        rw [e1, e2, loop_wire n (x / 128) _ k (by omega) ?_ (by omega) (by simp; omega)]
        · simp
        · have : (128 : Int) ^ (n + 1 + 1) = 128 ^ (n + 1) * 128 := by rw [Int.pow_succ]
          rw [this] at h1
          exact Int.ediv_lt_of_lt_mul (by decide) h1
    · rw [if_neg (by simpa using hx), if_pos (by simp; omega), if_neg hx, wrap_u8]
      rw [show x % 256 = x by omega]

theorem loop_ref : ∀ (n : Nat) (x : Int) (acc : List Int) (k : Nat), 0 ≤ x → x < 128 ^ (n + 1) → x < 18446744073709551616 → n + 1 ≤ k → acc.length + (n + 1) ≤ 140737488355328 → dossierref02_Int.l1 k acc x = some (acc ++ vi (n + 1) x)
  | n, x, acc, 0, _, _, _, hk, _ => by omega
  | n, x, acc, k + 1, h0, h1, h2, hk, hl => by
    rw [dossierref02_Int.l1, vi]
    by_cases hx : 128 ≤ x
    · rw [if_pos (by simpa using hx), if_pos (by simp; omega), if_pos hx]
      cases n with
      | zero => simp at h1; omega
      | succ n =>
        have e0 : Int.tmod x 128 = x % 128 := Int.tmod_eq_emod_of_nonneg h0
        have e1 : IntKind.u8.wrap (IntKind.u8.wrap (Int.tmod x 128) + 128) = x % 128 + 128 := by
          rw [e0, wrap_u8, wrap_u8]; omega
        have e2 : IntKind.u64.wrap (Int.tdiv x 128) = x / 128 := by rw [Int.tdiv_eq_ediv_of_nonneg h0, wrap_u64]; omega
        rw [e1, e2, loop_ref n (x / 128) _ k (by omega) ?_ (by omega) (by omega) (by simp; omega)]
        · simp
        · have : (128 : Int) ^ (n + 1 + 1) = 128 ^ (n + 1) * 128 := by rw [Int.pow_succ]
          rw [this] at h1
          exact Int.ediv_lt_of_lt_mul (by decide) h1
    · rw [if_neg (by simpa using hx), if_pos (by simp; omega), if_neg hx, wrap_u8]
      rw [show x % 256 = x by omega]

def I64 (x : Int) : Prop := -9223372036854775808 ≤ x ∧ x ≤ 9223372036854775807
theorem zz_lt {x : Int} (h : I64 x) : 0 ≤ zz x ∧ zz x < 18446744073709551616 := by unfold zz I64 at *; split <;> omega
theorem zz_128 {x : Int} (h : I64 x) : zz x < 128 ^ (9 + 1) := by
  have := (zz_lt h).2
  have e : (128 : Int) ^ (9 + 1) = 1180591620717411303424 := by decide
  omega

theorem wire_zz {x : Int} (h : I64 x) : Go.bits .xor .u64 (IntKind.u64.wrap ((IntKind.u64.wrap x) * 2 ^ 1)) (IntKind.u64.wrap (Int.fdiv x (2 ^ 63))) = zz x := by
  obtain ⟨h0, h1⟩ := h
  rw [Int.fdiv_eq_ediv_of_nonneg _ (by decide)]
  by_cases hx : x < 0
  · have e1 : IntKind.u64.wrap (x / 2 ^ 63) = 18446744073709551615 := by rw [wrap_u64]; omega
    rw [e1, wrap_u64, wrap_u64, xor_ones64 (by omega) (by omega)]
    unfold zz; rw [if_pos hx]; omega
  · have e1 : IntKind.u64.wrap (x / 2 ^ 63) = 0 := by rw [wrap_u64]; omega
    rw [e1, wrap_u64, wrap_u64, xor_zero64 (by omega) (by omega)]
    unfold zz; rw [if_neg hx]; omega

def Lim (xs : List Int) : Prop := xs.length ≤ 4194304

theorem clone_eq {k : Nat} {a : List Int} (h : Lim a) : slices_Clone_byte_byte.f k a = some a := by
  unfold Lim at h
  rw [slices_Clone_byte_byte.f, if_pos (by simp; omega)]
theorem bclone_eq {k : Nat} {a : List Int} (h : Lim a) : bytes_Clone.f k a = some a := by
  unfold Lim at h
  rw [bytes_Clone.f, if_pos (by simp; omega)]
theorem wire_int {k : Nat} {a : List Int} {x : Int} (hk : 10 ≤ k) (ha : Lim a) (hx : I64 x) : wire_Int.f k a x = some (a ++ vi 10 (zz x)) := by
  rw [wire_Int.f, clone_eq ha, Option.bind_some, wire_zz hx]
  exact loop_wire 9 _ _ _ (zz_lt hx).1 (zz_128 hx) hk (by unfold Lim at ha; omega)
theorem ref_int {k : Nat} {a : List Int} {x : Int} (hk : 11 ≤ k) (ha : Lim a) (hx : I64 x) : dossierref02_Int.f k a x = some (a ++ vi 10 (zz x)) := by
  obtain ⟨k, rfl⟩ : ∃ m, k = m + 1 := ⟨k - 1, by omega⟩
  have hx' := hx
  obtain ⟨h0, h1⟩ := hx'
  have key : ∀ y, y = zz x → dossierref02_Int.j0 (k + 1) y a = some (a ++ vi 10 (zz x)) := by
    rintro y rfl
    rw [dossierref02_Int.j0, if_pos (by unfold Lim at ha; simp; omega)]
    exact loop_ref 9 _ _ _ (zz_lt hx).1 (zz_128 hx) (zz_lt hx).2 (by omega) (by unfold Lim at ha; omega)
  rw [dossierref02_Int.f]
  by_cases hn : x < 0
  · rw [if_pos (by simpa using hn)]
    apply key
    rw [wrap_i64 (n := x + 1) (by omega) (by omega), wrap_i64 (n := 0 - (x + 1)) (by omega) (by omega)]
    simp only [wrap_u64, zz, if_pos hn]
    omega
  · rw [if_neg (by simpa using hn)]
    apply key
    simp only [wrap_u64, zz, if_neg hn]
    omega

theorem eq_self (k : Nat) (a : List Int) : bytes_Equal.f k a a = some true := by simp [bytes_Equal.f]

theorem wire_text {k : Nat} {a : List Int} {s : ByteArray} (hk : 10 ≤ k) (ha : Lim a) (hs : s.size ≤ 4194304) : wire_Text.f k a s = some (a ++ vi 10 (zz s.size) ++ bytesI s) := by
  have := vi_len 10 (zz s.size)
  unfold Lim at ha
  rw [wire_Text.f, wire_int hk ha (by unfold I64; omega), Option.bind_some, if_pos (by simp; omega)]
theorem ref_text {k : Nat} {a : List Int} {s : ByteArray} (hk : 11 ≤ k) (ha : Lim a) (hs : s.size ≤ 4194304) : dossierref02_Text.f k a s = some (a ++ vi 10 (zz s.size) ++ bytesI s) := by
  have := vi_len 10 (zz s.size)
  unfold Lim at ha
  rw [dossierref02_Text.f, ref_int hk ha (by unfold I64; omega), Option.bind_some, if_pos (by simp; omega)]

def fl (b : Bool) : Int := if b then 1 else 0
theorem wire_flag {k : Nat} {a : List Int} {b : Bool} (ha : Lim a) : wire_Flag.f k a b = some (a ++ [fl b]) := by
  have hl : a.length ≤ 4194304 := ha
  rw [wire_Flag.f, clone_eq ha, Option.bind_some, if_pos (by simp; omega)]
  cases b with
  | false => rw [if_neg (by decide)]; rfl
  | true =>
    have e : IntKind.i64.wrap (((a ++ ([0] : List Int)).length : Int) - 1) = (a.length : Int) := by
      rw [wrap_i64] <;> simp <;> omega
    rw [if_pos rfl, e]
    have e2 : rd (a ++ ([0] : List Int)) (a.length : Int) = some 0 := by simp [rd]
    rw [e2, Option.bind_some]
    simp [fl]
theorem ref_flag {k : Nat} {a : List Int} {b : Bool} (ha : Lim a) : dossierref02_Flag.f k a b = some (a ++ [fl b]) := by
  have hl : a.length ≤ 4194304 := ha
  rw [dossierref02_Flag.f]
  cases b with
  | false => rw [if_neg (by decide), if_pos (by simp; omega), if_pos (by simp; omega)]; rfl
  | true => rw [if_pos rfl, if_pos (by simp; omega), if_pos (by simp; omega)]; rfl

/-! ### the sum -/
theorem crc_step {x : Int} (h0 : 0 ≤ x) (h1 : x < 4294967296) :
    Go.bits .xor .u32 (Int.fdiv x (2 ^ 1)) (Go.bits .and .u32 3988292384 (IntKind.u32.wrap (0 - (Go.bits .and .u32 x 1)))) =
      if ((Int.tmod x 2) == 1) = true then Go.bits .xor .u32 (Int.fdiv x (2 ^ 1)) 3988292384 else Int.fdiv x (2 ^ 1) := by
  rw [and_one32 h0 h1, Int.tmod_eq_emod_of_nonneg h0, Int.fdiv_eq_ediv_of_nonneg _ (by decide)]
  rcases (by omega : x % 2 = 0 ∨ x % 2 = 1) with h | h
  · rw [h]
    have e : Go.bits .and .u32 3988292384 (IntKind.u32.wrap (0 - 0)) = 0 := by decide
    rw [e, if_neg (by decide)]
    exact xor_zero32 (by omega) (by omega)
  · rw [h]
    have e : Go.bits .and .u32 3988292384 (IntKind.u32.wrap (0 - 1)) = 3988292384 := by decide
    rw [e, if_pos (by decide)]

theorem crc_same : ∀ (k : Nat) (a : List Int),
    (∀ x i, 0 ≤ x → x < 4294967296 → wire_Crc.l0 k x i a = dossierref02_Crc.l0 k x i a) ∧
    (∀ x j i, 0 ≤ x → x < 4294967296 → wire_Crc.l1 k x j a i = dossierref02_Crc.l1 k x j a i)
  | 0, a => ⟨fun x i _ _ => by rw [wire_Crc.l0, dossierref02_Crc.l0], fun x j i _ _ => by rw [wire_Crc.l1, dossierref02_Crc.l1]⟩
  | k + 1, a => by
    obtain ⟨ih0, ih1⟩ := crc_same k a
    constructor
    · intro x i h0 h1
      rw [wire_Crc.l0, dossierref02_Crc.l0, bits_comm .u32 4294967295 x]
      split
      · cases rd a i with
        | none => rfl
        | some v => exact ih1 _ _ _ (bits_u32 _ _ _).1 (bits_u32 _ _ _).2
      · rfl
    · intro x j i h0 h1
      rw [wire_Crc.l1, dossierref02_Crc.l1, crc_step h0 h1]
      have hd : Int.fdiv x (2 ^ 1) = x / 2 := by rw [Int.fdiv_eq_ediv_of_nonneg _ (by decide)]; rfl
      split
      · split
        · exact ih1 _ _ _ (bits_u32 _ _ _).1 (bits_u32 _ _ _).2
        · exact ih1 _ _ _ (by omega) (by omega)
      · exact ih0 _ _ h0 h1

theorem crc_ends : ∀ (k : Nat) (a : List Int), a.length ≤ 4294967296 →
    (∀ x (i : Nat), i ≤ a.length → 10 * (a.length - i) + 1 ≤ k → ∃ r, wire_Crc.l0 k x i a = some r) ∧
    (∀ x (j i : Nat), i < a.length → j ≤ 8 → 10 * (a.length - i) + 1 ≤ k + 1 + j → ∃ r, wire_Crc.l1 k x j a i = some r)
  | 0, a, ha => ⟨fun x i _ h => by omega, fun x j i _ _ h => by omega⟩
  | k + 1, a, ha => by
    obtain ⟨ih0, ih1⟩ := crc_ends k a ha
    constructor
    · intro x i hi hk
      rw [wire_Crc.l0]
      by_cases h : i < a.length
      · rw [if_pos (by simp; omega)]
        have e : rd a (i : Int) = some a[i] := by simp [rd, h]
        rw [e, Option.bind_some]
        exact ih1 _ 0 i h (by omega) (by omega)
      · rw [if_neg (by simp; omega)]; exact ⟨_, rfl⟩
    · intro x j i hi hj hk
      rw [wire_Crc.l1]
      by_cases h : j < 8
      · rw [if_pos (by simp; omega)]
        have e : IntKind.i64.wrap ((j : Int) + 1) = ((j + 1 : Nat) : Int) := by rw [wrap_i64] <;> omega
        rw [e]
        exact ih1 _ (j + 1) i hi (by omega) (by omega)
      · rw [if_neg (by simp; omega)]
        have e : IntKind.i64.wrap ((i : Int) + 1) = ((i + 1 : Nat) : Int) := by rw [wrap_i64] <;> omega
        rw [e]
        exact ih0 _ (i + 1) (by omega) (by omega)

theorem awake_eq {k : Nat} (hk : 10 ≤ k) : dossierlaw02_awake.f k = some true := by
  rw [dossierlaw02_awake.f, wire_int hk (by simp [Lim]) (by unfold I64; omega), Option.bind_some]
  have e : ([] : List Int) ++ vi 10 (zz 64) = [128, 1] := by decide
  rw [e, eq_self]; rfl

theorem wirePuts_true (a : List Int) (s : ByteArray) (x : Int) (b : Bool) (ha : Lim a) (hs : s.size ≤ 4194304) (hx : I64 x) : ∃ k, dossierlaw02_WirePuts.f k a s x b = some true := by
  have hl : a.length ≤ 4194304 := ha
  refine ⟨10 * a.length + 20, ?_⟩
  obtain ⟨r, hr⟩ := (crc_ends (10 * a.length + 20) a (by omega)).1 4294967295 0 (by omega) (by omega)
  have hr1 : wire_Crc.f (10 * a.length + 20) a = some r := hr
  have hr2 : dossierref02_Crc.f (10 * a.length + 20) a = some r := by
    rw [dossierref02_Crc.f, ← (crc_same _ a).1 _ _ (by omega) (by omega)]; exact hr
  rw [dossierlaw02_WirePuts.f, bclone_eq ha]
  simp only [Option.bind_some, wire_int (show 10 ≤ 10 * a.length + 20 by omega) ha hx, ref_int (show 11 ≤ 10 * a.length + 20 by omega) ha hx, eq_self, wire_text (show 10 ≤ 10 * a.length + 20 by omega) ha hs, ref_text (show 11 ≤ 10 * a.length + 20 by omega) ha hs,
    wire_flag ha, ref_flag ha, hr1, hr2, awake_eq (show 10 ≤ 10 * a.length + 20 by omega), beq_self_eq_true, if_true]
end Go.Abs.GenA
