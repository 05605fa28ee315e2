import Derived.Test.YtdpakmmkponfmaaPlBase
import Derived.Laws.BitsLemmas
set_option linter.unusedVariables false
set_option linter.unusedSimpArgs false
namespace Go.Abs

/-! ### texts as lists of numbers -/
theorem loop_toList (s : ByteArray) : ∀ (n i : Nat) (r : List UInt8), s.size - i = n → ByteArray.toList.loop s i r = r.reverse ++ s.data.toList.drop i := by
 intro n
 induction n with
 | zero =>
  intro i r h
  unfold ByteArray.toList.loop
  rw [if_neg (by omega), List.drop_eq_nil_of_le (by rw [Array.length_toList, ByteArray.size_data]; omega), List.append_nil]
 | succ n ih =>
  intro i r h
  have hi : i < s.size := by omega
  unfold ByteArray.toList.loop
  rw [if_pos hi, ih (i + 1) _ (by omega)]
  have hl : i < s.data.toList.length := by rw [Array.length_toList, ByteArray.size_data]; exact hi
  rw [List.drop_eq_getElem_cons hl, List.reverse_cons, List.append_assoc]
  congr 1
  show [s.get! i] ++ _ = _
  have : s.get! i = s.data.toList[i] := by
   show s.data[i]! = _
   rw [getElem!_pos s.data i (by rw [ByteArray.size_data]; exact hi)]
   simp
  rw [this]; rfl
theorem toList_eq (s : ByteArray) : s.toList = s.data.toList := by
 show ByteArray.toList.loop s 0 [] = _
 rw [loop_toList s s.size 0 [] (by omega)]; simp
/-- bytes. -/
def U8s (xs : List Int) : Prop := ∀ x ∈ xs, 0 ≤ x ∧ x < 256
theorem bytesI_u8 (s : ByteArray) : U8s (bytesI s) := by
 intro x hx
 simp only [bytesI, List.mem_map] at hx
 obtain ⟨b, _, rfl⟩ := hx
 have := b.toNat_lt
 omega
theorem bytesI_inj {s t : ByteArray} (h : bytesI s = bytesI t) : s = t := by
 apply ByteArray.ext
 apply Array.toList_inj.mp
 have : ∀ (l m : List UInt8), l.map (fun b => (b.toNat : Int)) = m.map (fun b => (b.toNat : Int)) → l = m := by
  intro l
  induction l with
  | nil => intro m hm; cases m with | nil => rfl | cons _ _ => simp at hm
  | cons a l ih =>
   intro m hm
   cases m with
   | nil => simp at hm
   | cons b m =>
    simp only [List.map_cons, List.cons.injEq] at hm
    rw [ih m hm.2]
    congr 1
    exact UInt8.toNat_inj.mp (by omega)
 exact this _ _ h
theorem bytesI_ofNums (xs : List Int) (h : U8s xs) : bytesI (ofNums xs) = xs := by
 simp only [bytesI, ofNums, List.map_map]
 conv => rhs; rw [← List.map_id xs]
 apply List.map_congr_left
 intro x hx
 have := h x hx
 simp only [Function.comp, id]
 have h2 : (UInt8.ofNat x.toNat).toNat = x.toNat := UInt8.toNat_ofNat_of_lt' (by show x.toNat < 256; omega)
 rw [h2]; omega
theorem ofNums_bytesI (s : ByteArray) : ofNums (bytesI s) = s := bytesI_inj (bytesI_ofNums _ (bytesI_u8 s))
theorem toList_beq (s t : ByteArray) : (s.toList == t.toList) = decide (bytesI s = bytesI t) := by
 rw [toList_eq, toList_eq]
 by_cases h : s = t
 ·subst h; simp
 ·have h1 : ¬ bytesI s = bytesI t := fun e => h (bytesI_inj e)
  have h2 : ¬ s.data = t.data := fun e => h (ByteArray.ext e)
  simp [h1, h2]
theorem ofNums_beq {xs ys : List Int} (hx : U8s xs) (hy : U8s ys) : ((ofNums xs).toList == (ofNums ys).toList) = decide (xs = ys) := by
 rw [toList_beq, bytesI_ofNums xs hx, bytesI_ofNums ys hy]
theorem size_ofNums (xs : List Int) : (ofNums xs).size = xs.length := by simp [ofNums, ByteArray.size]
theorem bt_eq (s : ByteArray) (i : Int) : bt s i = rd (bytesI s) i := by
 unfold bt rd bytesI
 split
 ·rw [List.getElem?_map]
  congr 1
  rw [Array.getElem?_toList]
  rfl
 ·rfl
theorem bytesI_extract (s : ByteArray) (a b : Nat) : bytesI (s.extract a b) = ((bytesI s).drop a).take (b - a) := by
 unfold bytesI
 rw [ByteArray.data_extract, Array.toList_extract, List.extract_eq_take_drop, List.map_take, List.map_drop]
theorem bytesI_append (s t : ByteArray) : bytesI (s ++ t) = bytesI s ++ bytesI t := by
 unfold bytesI; rw [ByteArray.data_append, Array.toList_append, List.map_append]
theorem size_bytesI (s : ByteArray) : s.size = (bytesI s).length := (bytesI_len s).symm
theorem U8s.nil : U8s [] := fun x h => by cases h
theorem U8s.cons {x : Int} {xs : List Int} (h0 : 0 ≤ x) (h1 : x < 256) (h : U8s xs) : U8s (x :: xs) := by
 intro y hy
 rcases List.mem_cons.mp hy with rfl | hy
 ·exact ⟨h0, h1⟩
 ·exact h y hy
theorem U8s.app {xs ys : List Int} (h : U8s xs) (k : U8s ys) : U8s (xs ++ ys) := by
 intro y hy
 rcases List.mem_append.mp hy with hy | hy
 ·exact h y hy
 ·exact k y hy
theorem U8s.drop {xs : List Int} (h : U8s xs) (n : Nat) : U8s (xs.drop n) := fun x hx => h x (List.mem_of_mem_drop hx)
theorem U8s.take {xs : List Int} (h : U8s xs) (n : Nat) : U8s (xs.take n) := fun x hx => h x (List.mem_of_mem_take hx)
theorem sub_all {α : Type} (xs : List α) (n : Nat) : sub xs (n : Int) (xs.length : Int) = xs.drop n := by
 simp only [sub, Int.toNat_natCast]
 exact List.take_of_length_le (by simp)
theorem sub_take {α : Type} (xs : List α) (n : Nat) : sub xs 0 (n : Int) = xs.take n := by simp [sub]

/-! ### bits -/
theorem bits_or_add (k : IntKind) (j : Nat) (hj : j ≤ k.bits) (hk : ∀ n : Int, 0 ≤ n → n < 2 ^ j → k.wrap n = n) (i : Nat) {a b : Int} (ha0 : 0 ≤ a) (ha : a < 2 ^ j) (hb0 : 0 ≤ b) (hb : b < 2 ^ i) (hij : i ≤ j) (hm : a % 2 ^ i = 0) : Go.bits .or k a b = a + b := by
 obtain ⟨m, rfl⟩ := Int.eq_ofNat_of_zero_le ha0
 obtain ⟨n, rfl⟩ := Int.eq_ofNat_of_zero_le hb0
 have e2 : ∀ i : Nat, ((2 : Int) ^ i) = ((2 ^ i : Nat) : Int) := fun i => by simp
 rw [e2] at ha hb
 rw [e2] at hm
 have ha' : m < 2 ^ j := by exact_mod_cast ha
 have hb' : n < 2 ^ i := by exact_mod_cast hb
 have hm' : m % 2 ^ i = 0 := by exact_mod_cast hm
 have hb2 : n < 2 ^ j := Nat.lt_of_lt_of_le hb' (Nat.pow_le_pow_right (by decide) hij)
 rw [(bits_nat k j hj hk m n ha' hb2).2]
 have hq : m = 2 ^ i * (m / 2 ^ i) := by
  have := Nat.div_add_mod m (2 ^ i)
  omega
 rw [hq, ← Nat.two_pow_add_eq_or_of_lt hb', ← hq]
 rfl
theorem bits_and_mask (k : IntKind) (j : Nat) (hj : j ≤ k.bits) (hk : ∀ n : Int, 0 ≤ n → n < 2 ^ j → k.wrap n = n) (i : Nat) {a : Int} (ha0 : 0 ≤ a) (ha : a < 2 ^ j) (hij : i ≤ j) : Go.bits .and k a ((2 ^ i - 1 : Nat) : Int) = a % ((2 ^ i : Nat) : Int) := by
 obtain ⟨m, rfl⟩ := Int.eq_ofNat_of_zero_le ha0
 have e2 : ∀ i : Nat, ((2 : Int) ^ i) = ((2 ^ i : Nat) : Int) := fun i => by simp
 rw [e2] at ha
 have ha' : m < 2 ^ j := by exact_mod_cast ha
 have hb2 : 2 ^ i - 1 < 2 ^ j := by
  have := Nat.pow_le_pow_right (n := 2) (by decide) hij
  have := Nat.two_pow_pos i
  omega
 have h := (bits_nat k j hj hk m (2 ^ i - 1) ha' hb2).1
 rw [Nat.and_two_pow_sub_one_eq_mod] at h
 have e : ((2 ^ i - 1 : Nat) : Int) = (((2 ^ i - 1 : Nat) : Nat) : Int) := rfl
 rw [h]
 exact Int.natCast_emod _ _
theorem u8_and {a : Int} (h0 : 0 ≤ a) (h1 : a < 256) : Go.bits .and .u8 a 63 = a % 64 ∧ Go.bits .and .u8 a 31 = a % 32 ∧ Go.bits .and .u8 a 15 = a % 16 ∧ Go.bits .and .u8 a 7 = a % 8 :=
 ⟨bits_and_mask .u8 8 (by decide) wraps_u8 6 h0 h1 (by decide), bits_and_mask .u8 8 (by decide) wraps_u8 5 h0 h1 (by decide), bits_and_mask .u8 8 (by decide) wraps_u8 4 h0 h1 (by decide), bits_and_mask .u8 8 (by decide) wraps_u8 3 h0 h1 (by decide)⟩
theorem u8_or {a b : Int} (i : Nat) (h0 : 0 ≤ a) (h1 : a < 256) (hb0 : 0 ≤ b) (hb : b < 2 ^ i) (hi : i ≤ 8) (hm : a % 2 ^ i = 0) : Go.bits .or .u8 a b = a + b := bits_or_add .u8 8 (by decide) wraps_u8 i h0 h1 hb0 hb hi hm
theorem i32_or {a b : Int} (i : Nat) (h0 : 0 ≤ a) (h1 : a < 2147483648) (hb0 : 0 ≤ b) (hb : b < 2 ^ i) (hi : i ≤ 31) (hm : a % 2 ^ i = 0) : Go.bits .or .i32 a b = a + b := bits_or_add .i32 31 (by decide) wraps_i32 i h0 h1 hb0 hb hi hm
theorem wrap_i32 {n : Int} (h0 : -2147483648 ≤ n) (h1 : n ≤ 2147483647) : IntKind.i32.wrap n = n := by
 simp [IntKind.wrap, IntKind.bits, IntKind.signed]; omega
theorem fdiv_pow {a : Int} (n : Nat) (h : 0 ≤ a) : Int.fdiv a (2 ^ n) = a / 2 ^ n := Int.fdiv_eq_ediv_of_nonneg _ (Int.pow_nonneg (by decide))
end Go.Abs
