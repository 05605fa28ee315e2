import Derived.Test.YtdpakmmkponfmaaPlZH
import Derived.OpenShut
set_option linter.unusedVariables false
set_option linter.unusedSimpArgs false
set_option maxRecDepth 100000
set_option maxHeartbeats 4000000
namespace Go.Abs.GenZ
open Go.Abs
open Go
/-! ### the sum -/
theorem xor_zero32 {x : Int} (h0 : 0 ≤ x) (h1 : x < 4294967296) : bits .xor .u32 x 0 = x := by
 show IntKind.u32.wrap (((BitVec.ofInt 32 x ^^^ BitVec.ofInt 32 0).toNat : Nat) : Int) = x
 have e : BitVec.ofInt 32 0 = 0#32 := by decide
 rw [e, BitVec.xor_zero, wrap_u32, BitVec.toNat_ofInt]
 omega
theorem bits_comm (k : IntKind) (x y : Int) : bits .xor k x y = bits .xor k y x := by
 simp only [bits, BitVec.xor_comm]
theorem bits_u32 (op : BinOp) (x y : Int) : 0 ≤ bits op .u32 x y ∧ bits op .u32 x y < 4294967296 := by
 have := wf_bits op .u32 x y
 simp [Lit.wf, IntKind.min, IntKind.max, IntKind.signed, IntKind.bits] at this
 omega
theorem and_one32 {x : Int} (h0 : 0 ≤ x) (h1 : x < 4294967296) : bits .and .u32 x 1 = x % 2 := by
 obtain ⟨n, rfl⟩ := Int.eq_ofNat_of_zero_le h0
 have h := (bits_nat .u32 32 (by decide) (fun n h0 h1 => by rw [wrap_u32]; omega) n 1 (by simp; omega) (by decide)).1
 have e : ((1 : Nat) : Int) = 1 := rfl
 rw [e] at h
 rw [h, Nat.and_one_is_mod]
 omega

theorem concatL_ev (x y : List Int) (hx : x.length ≤ 1099511627776) (hy : y.length ≤ 1099511627776) : Evt (fun k => slices_Concat_byte_byte.f k ([x, y] : List (List Int))) (x ++ y) := by
 simp only [slices_Concat_byte_byte.f]
 have h1 : IntKind.i64.wrap (0 + (x.length : Int)) = (x.length : Int) := by rw [wrap_i64 (by omega) (by omega)]; omega
 have h2 : IntKind.i64.wrap ((x.length : Int) + (y.length : Int)) = (x.length : Int) + (y.length : Int) := wrap_i64 (by omega) (by omega)
 have w1 : IntKind.i64.wrap (0 + 1) = 1 := by decide
 have w2 : IntKind.i64.wrap (1 + 1) = 2 := by decide
 refine Evt.succ (fun k => by rw [slices_Concat_byte_byte.l0]) ?_
 refine Evt.pos rfl ?_
 refine Evt.some_bind (a := x) rfl ?_
 rw [h1, w1]
 refine Evt.neg (by simp) ?_
 refine Evt.succ (fun k => by rw [slices_Concat_byte_byte.l0]) ?_
 refine Evt.pos rfl ?_
 refine Evt.some_bind (a := y) rfl ?_
 rw [h2, w2]
 refine Evt.neg (by simp; omega) ?_
 refine Evt.succ (fun k => by rw [slices_Concat_byte_byte.l0]) ?_
 refine Evt.neg (by simp) ?_
 refine Evt.bind (a := ([] : List Int)) ?_ ?_
 ·have w3 : IntKind.i64.wrap ((x.length : Int) + (y.length : Int) - 0) = (x.length : Int) + (y.length : Int) := by rw [wrap_i64 (by omega) (by omega)]; omega
  simp only [slices_Grow_byte_byte_nil0.f]
  rw [w3]
  refine Evt.neg (by simp; omega) ?_
  by_cases hz : (x.length : Int) + (y.length : Int) > 0
  ·exact Evt.pos (by simpa using hz) (Evt.pos (by rw [decide_eq_true_eq]; omega) (.pure _))
  ·exact Evt.neg (by simpa using hz) (.pure _)
 ·refine Evt.succ (fun k => by rw [slices_Concat_byte_byte.l1]) ?_
  refine Evt.pos rfl ?_
  refine Evt.some_bind (a := x) rfl ?_
  rw [w1]
  refine Evt.pos (by simp; omega) ?_
  refine Evt.succ (fun k => by rw [slices_Concat_byte_byte.l1]) ?_
  refine Evt.pos rfl ?_
  refine Evt.some_bind (a := y) rfl ?_
  rw [w2]
  refine Evt.pos (by simp; omega) ?_
  refine Evt.succ (fun k => by rw [slices_Concat_byte_byte.l1]) ?_
  refine Evt.neg (by simp) ?_
  simpa using Evt.pure (x ++ y)
theorem crc_step {x : Int} (h0 : 0 ≤ x) (h1 : x < 4294967296) :
  Go.bits .xor .u32 (Int.fdiv x (2 ^ 1)) (Go.bits .and .u32 3988292384 (IntKind.u32.wrap (0 - (Go.bits .and .u32 x 1)))) =
   if ((Int.tmod x 2) == 1) = true then Go.bits .xor .u32 (Int.fdiv x (2 ^ 1)) 3988292384 else Int.fdiv x (2 ^ 1) := by
 rw [and_one32 h0 h1, Int.tmod_eq_emod_of_nonneg h0, Int.fdiv_eq_ediv_of_nonneg _ (by decide)]
 rcases (by omega : x % 2 = 0 ∨ x % 2 = 1) with h | h
 ·rw [h]
  have e : Go.bits .and .u32 3988292384 (IntKind.u32.wrap (0 - 0)) = 0 := by decide
  rw [e, if_neg (by decide)]
  exact xor_zero32 (by omega) (by omega)
 ·rw [h]
  have e : Go.bits .and .u32 3988292384 (IntKind.u32.wrap (0 - 1)) = 3988292384 := by decide
  rw [e, if_pos (by decide)]
theorem crc_same : ∀ (k : Nat) (a : List Int),
  (∀ x i, 0 ≤ x → x < 4294967296 → wire_Crc.l0 k x i a = dossierref02_Crc.l0 k x i a) ∧
  (∀ x j i, 0 ≤ x → x < 4294967296 → wire_Crc.l1 k x j a i = dossierref02_Crc.l1 k x j a i)
 | 0, a => ⟨fun x i _ _ => by rw [wire_Crc.l0, dossierref02_Crc.l0], fun x j i _ _ => by rw [wire_Crc.l1, dossierref02_Crc.l1]⟩
 | k + 1, a => by
  obtain ⟨ih0, ih1⟩ := crc_same k a
  constructor
  ·intro x i h0 h1
   rw [wire_Crc.l0, dossierref02_Crc.l0, bits_comm .u32 4294967295 x]
   split
   ·cases rd a i with
    | none => rfl
    | some v => exact ih1 _ _ _ (bits_u32 _ _ _).1 (bits_u32 _ _ _).2
   ·rfl
  ·intro x j i h0 h1
   rw [wire_Crc.l1, dossierref02_Crc.l1, crc_step h0 h1]
   have hd : Int.fdiv x (2 ^ 1) = x / 2 := by rw [Int.fdiv_eq_ediv_of_nonneg _ (by decide)]; rfl
   split
   ·split
    ·exact ih1 _ _ _ (bits_u32 _ _ _).1 (bits_u32 _ _ _).2
    ·exact ih1 _ _ _ (by omega) (by omega)
   ·exact ih0 _ _ h0 h1
theorem crc_tot (a : List Int) (ha : a.length < 9223372036854775806) : ∀ n,
  (∀ x (i : Nat), i ≤ a.length → 10 * (a.length - i) ≤ n → Tot fun k => wire_Crc.l0 k x (i : Int) a) ∧
  (∀ x (j i : Nat), i < a.length → j ≤ 8 → 10 * (a.length - i) ≤ n + 1 + j → Tot fun k => wire_Crc.l1 k x (j : Int) a (i : Int))
 | 0 => ⟨fun x i hi h => by
   have hz : i = a.length := by omega
   subst hz
   exact Tot.succ (fun k => by rw [wire_Crc.l0]) (Evt.tot (Evt.neg (by simp) (.pure _))), fun x j i h1 h2 h3 => by omega⟩
 | n + 1 => by
  obtain ⟨ih0, ih1⟩ := crc_tot a ha n
  refine ⟨fun x i hi h => ?_, fun x j i hi hj h => ?_⟩
  ·by_cases hl : i < a.length
   ·obtain ⟨r, hr⟩ := ih1 (Go.bits .xor .u32 x (IntKind.u32.wrap a[i])) 0 i hl (by omega) (by omega)
    exact ⟨r, Evt.succ (fun k => by rw [wire_Crc.l0]) (Evt.pos (by simpa using hl) (Evt.some_bind (rd_lt hl) hr))⟩
   ·exact Tot.succ (fun k => by rw [wire_Crc.l0]) (Evt.tot (Evt.neg (by simpa using hl) (.pure _)))
  ·by_cases hl : j < 8
   ·obtain ⟨r, hr⟩ := ih1 (Go.bits .xor .u32 (Int.fdiv x (2 ^ 1)) (Go.bits .and .u32 3988292384 (IntKind.u32.wrap (0 - (Go.bits .and .u32 x 1))))) (j + 1) i hi (by omega) (by omega)
    refine ⟨r, Evt.succ (fun k => by rw [wire_Crc.l1]) (Evt.pos (by rw [decide_eq_true_eq]; omega) ?_)⟩
    rw [wrap_nat (by omega)]; exact hr
   ·obtain ⟨r, hr⟩ := ih0 x (i + 1) (by omega) (by omega)
    refine ⟨r, Evt.succ (fun k => by rw [wire_Crc.l1]) (Evt.neg (by rw [decide_eq_true_eq]; omega) ?_)⟩
    rw [wrap_nat (by omega)]; exact hr
theorem crc_ex (a : List Int) (ha : a.length < 9223372036854775806) : ∃ r, Evt (fun k => wire_Crc.f k a) r ∧ Evt (fun k => dossierref02_Crc.f k a) r := by
 obtain ⟨r, hr⟩ := (crc_tot a ha (10 * a.length)).1 4294967295 0 (by omega) (by omega)
 refine ⟨r, hr, Evt.congr (fun k => ?_) hr⟩
 rw [dossierref02_Crc.f, ← (crc_same k a).1 _ _ (by omega) (by omega)]; rfl
open Classical in
noncomputable def crcV (a : List Int) : Int := if h : a.length < 9223372036854775806 then (crc_ex a h).choose else 0
theorem crcP_ev (a : List Int) (h : a.length < 9223372036854775806) : Evt (fun k => wire_Crc.f k a) (crcV a) := by rw [crcV, dif_pos h]; exact (crc_ex a h).choose_spec.1
theorem crcR_ev (a : List Int) (h : a.length < 9223372036854775806) : Evt (fun k => dossierref02_Crc.f k a) (crcV a) := by rw [crcV, dif_pos h]; exact (crc_ex a h).choose_spec.2
/-! ### frames -/
def fo (n : Int) : List Int := [IntKind.u8.wrap (Int.fdiv n (2 ^ 24)), IntKind.u8.wrap (Int.fdiv n (2 ^ 16)), IntKind.u8.wrap (Int.fdiv n (2 ^ 8)), IntKind.u8.wrap n]
noncomputable def hdr (a : List Int) : List Int := fo (a.length : Int) ++ fo (crcV a)
noncomputable def frm (a : List Int) : List Int := hdr a ++ a
theorem hdr_len (a : List Int) : (hdr a).length = 8 := rfl
theorem frm_len (a : List Int) : (frm a).length = 8 + a.length := by rw [frm, List.length_append, hdr_len]
theorem fo_u8 (n : Int) : U8s (fo n) := by
 intro x hx
 simp only [fo, List.mem_cons, List.mem_nil_iff, or_false] at hx
 rcases hx with rfl | rfl | rfl | rfl <;> rw [wrap_u8] <;> omega
theorem hdr_u8 (a : List Int) : U8s (hdr a) := (fo_u8 _).app (fo_u8 _)
theorem frm_u8 {a : List Int} (h : U8s a) : U8s (frm a) := (hdr_u8 a).app h
theorem frameR_ev (a : List Int) (h : a.length ≤ 1099511627776) : Evt (fun k => dossierref04_frame.f k a) (frm a) := by
 simp only [dossierref04_frame.f, dossierref04_four.f, Option.bind_some]
 refine (crcR_ev a (by omega)).bind (Evt.pos (by simp) (Evt.pos (by rw [decide_eq_true_eq]; simp only [List.length_append, List.length_cons, List.length_nil]; omega) (.pure _)))
theorem fd0 (n : Int) : Int.fdiv n (2 ^ 0) = n := by rw [Int.pow_zero]; exact Int.fdiv_one n
theorem frameP_ev (a : List Int) (h : a.length ≤ 1099511627776) : Evt (fun k => journal_frame.f k a) (frm a) := by
 simp only [journal_frame.f]
 refine (crcP_ev a (by omega)).bind ?_
 have e0 : ∀ z : Int, Int.fdiv z (2 ^ (min (IntKind.i64.wrap (24 - (IntKind.i64.wrap (8 * 0)))).toNat 64)) = Int.fdiv z (2 ^ 24) := fun _ => rfl
 have e1 : ∀ z : Int, Int.fdiv z (2 ^ (min (IntKind.i64.wrap (24 - (IntKind.i64.wrap (8 * 1)))).toNat 64)) = Int.fdiv z (2 ^ 16) := fun _ => rfl
 have e2 : ∀ z : Int, Int.fdiv z (2 ^ (min (IntKind.i64.wrap (24 - (IntKind.i64.wrap (8 * 2)))).toNat 64)) = Int.fdiv z (2 ^ 8) := fun _ => rfl
 have e3 : ∀ z : Int, Int.fdiv z (2 ^ (min (IntKind.i64.wrap (24 - (IntKind.i64.wrap (8 * 3)))).toNat 64)) = z := fun z => fd0 z
 refine Evt.succ (fun k => by rw [journal_frame.l0]) ?_
 refine Evt.pos (by rfl) (Evt.pos (by rfl) (Evt.pos (by rfl) ?_))
 refine Evt.some_bind (a := (0 : Int)) (by rfl) (Evt.pos (by rfl) ?_)
 refine Evt.some_bind (a := (0 : Int)) (by rfl) ?_
 rw [e0, e0, show IntKind.i64.wrap (0 + 1) = 1 from rfl]
 refine Evt.succ (fun k => by rw [journal_frame.l0]) ?_
 refine Evt.pos (by rfl) (Evt.pos (by rfl) (Evt.pos (by rfl) ?_))
 refine Evt.some_bind (a := (0 : Int)) (by rfl) (Evt.pos (by rfl) ?_)
 refine Evt.some_bind (a := (0 : Int)) (by rfl) ?_
 rw [e1, e1, show IntKind.i64.wrap (1 + 1) = 2 from rfl]
 refine Evt.succ (fun k => by rw [journal_frame.l0]) ?_
 refine Evt.pos (by rfl) (Evt.pos (by rfl) (Evt.pos (by rfl) ?_))
 refine Evt.some_bind (a := (0 : Int)) (by rfl) (Evt.pos (by rfl) ?_)
 refine Evt.some_bind (a := (0 : Int)) (by rfl) ?_
 rw [e2, e2, show IntKind.i64.wrap (2 + 1) = 3 from rfl]
 refine Evt.succ (fun k => by rw [journal_frame.l0]) ?_
 refine Evt.pos (by rfl) (Evt.pos (by rfl) (Evt.pos (by rfl) ?_))
 refine Evt.some_bind (a := (0 : Int)) (by rfl) (Evt.pos (by rfl) ?_)
 refine Evt.some_bind (a := (0 : Int)) (by rfl) ?_
 rw [e3, e3, show IntKind.i64.wrap (3 + 1) = 4 from rfl]
 refine Evt.succ (fun k => by rw [journal_frame.l0]) (Evt.neg (by decide) (Evt.pos (by rfl) ?_))
 have := (concatL_ev (hdr a) a (by rw [hdr_len]; omega) h).map
 refine Evt.congr (fun k => ?_) this
 congr 2
end Go.Abs.GenZ
