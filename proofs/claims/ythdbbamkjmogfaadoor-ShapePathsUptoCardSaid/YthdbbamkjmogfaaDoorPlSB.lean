import Derived.Test.YthdbbamkjmogfaaDoorPlSA
set_option linter.unnecessarySimpa false
set_option linter.unusedVariables false
set_option linter.unusedSimpArgs false
set_option maxRecDepth 100000
set_option maxHeartbeats 4000000
namespace Go.Abs.GenS
open Go.Abs
def lastN (s : List Int) (x : Int) : Nat → Int
 | 0 => -1
 | n + 1 => if s[n]? = some x then (n : Int) else lastN s x n
theorem lastN_ge (s : List Int) (x : Int) : ∀ n, -1 ≤ lastN s x n ∧ lastN s x n < (n : Int)
 | 0 => by simp [lastN]
 | n + 1 => by
  have := lastN_ge s x n
  unfold lastN
  split <;> omega
theorem last_loop (s : ByteArray) (x : Int) (hs : s.size ≤ 1048576) (F : Nat → Int → Option Int) (hF : ∀ k i, F (k + 1) i = if (decide (i ≥ 0)) = true then ((bt s i).bind fun v => if (v == x) = true then (some i) else (F k (IntKind.i64.wrap (i - 1)))) else (some (-1))) :
  ∀ n, n ≤ s.size → Evt (fun k => F k ((n : Int) - 1)) (lastN (bytesI s) x n) := by
 intro n
 induction n with
 | zero =>
  intro _
  exact Evt.succ (fun k => hF k _) (Evt.neg (by decide) (.pure _))
 | succ n ih =>
  intro hn
  have hl : n < (bytesI s).length := by rw [← size_bytesI]; omega
  have e : ((n + 1 : Nat) : Int) - 1 = (n : Int) := by omega
  rw [e]
  refine Evt.succ (fun k => hF k _) (Evt.pos (by simp) (Evt.some_bind (a := (bytesI s)[n]) (by rw [bt_eq, rd_lt hl]) ?_))
  unfold lastN
  by_cases h : (bytesI s)[n] = x
  ·rw [if_pos (by rw [List.getElem?_eq_getElem hl, h])]
   exact Evt.pos (by simpa using h) (.pure _)
  ·rw [if_neg (by rw [List.getElem?_eq_getElem hl]; simpa using h)]
   refine Evt.neg (by simpa using h) ?_
   rw [wrap_i64 (by omega) (by omega)]
   exact ih (by omega)
def lastS (s : ByteArray) (x : Int) : Int := lastN (bytesI s) x s.size
theorem lastS_ge (s : ByteArray) (x : Int) : -1 ≤ lastS s x ∧ lastS s x < (s.size : Int) := lastN_ge _ _ _
theorem lib_last (s : ByteArray) (x : Int) (hs : s.size ≤ 1048576) : Evt (fun k => strings_LastIndexByte.f k s x) (lastS s x) := by
 simp only [strings_LastIndexByte.f, bytealg_LastIndexByteString.f]
 refine Evt.map ?_
 rw [wrap_i64 (by omega) (by omega)]
 exact last_loop s x hs (fun k i => bytealg_LastIndexByteString.l0 k i s x) (fun k i => by rw [bytealg_LastIndexByteString.l0]) _ (Nat.le_refl _)
theorem size_extract_le (s : ByteArray) (a b : Nat) : (s.extract a b).size ≤ s.size := by
 rw [size_bytesI, size_bytesI s, bytesI_extract]
 simp; omega
def us (s : ByteArray) : List UInt8 := s.data.toList
def ofU (l : List UInt8) : ByteArray := ⟨l.toArray⟩
theorem us_ofU (l : List UInt8) : us (ofU l) = l := by simp [us, ofU]
theorem ofU_us (s : ByteArray) : ofU (us s) = s := by obtain ⟨⟨l⟩⟩ := s; rfl
theorem us_inj {s t : ByteArray} (h : us s = us t) : s = t := by rw [← ofU_us s, h, ofU_us]
theorem us_len (s : ByteArray) : (us s).length = s.size := by
 show s.data.toList.length = s.size
 rw [Array.length_toList, ByteArray.size_data]
theorem us_extract (s : ByteArray) (a b : Nat) : us (s.extract a b) = ((us s).drop a).take (b - a) := by
 unfold us
 rw [ByteArray.data_extract, Array.toList_extract]
theorem bytes_us (s : ByteArray) : bytesI s = (us s).map fun b => ((b.toNat : Nat) : Int) := by
 unfold bytesI us; rfl
theorem toList_us (s t : ByteArray) : (s.toList == t.toList) = decide (us s = us t) := by
 rw [toList_eq, toList_eq]
 unfold us
 by_cases h : s.data.toList = t.data.toList
 ·rw [h]; simp
 ·rw [decide_eq_false h]; simpa using h

def splA : List UInt8 → List UInt8 → List ByteArray
 | cur, [] => [ofU cur]
 | cur, x :: xs => if x = 46 then ofU cur :: splA [] xs else splA (cur ++ [x]) xs
def splS (s : ByteArray) : List ByteArray := splA [] (us s)
theorem spl_idx : ∀ (l cur : List UInt8), (Lib.indexByte l 46 = -1 ∧ splA cur l = [ofU (cur ++ l)] ∧ l.count 46 = 0) ∨
  (∃ m : Nat, Lib.indexByte l 46 = (m : Int) ∧ m < l.length ∧ splA cur l = ofU (cur ++ l.take m) :: splA [] (l.drop (m + 1)) ∧ l.count 46 = (l.drop (m + 1)).count 46 + 1)
 | [], cur => .inl ⟨rfl, by simp [splA], rfl⟩
 | x :: xs, cur => by
  by_cases hx : x = 46
  ·subst hx
   exact .inr ⟨0, by simp [Lib.indexByte], by simp, by simp [splA], by simp⟩
  ·have hb : (x == (46 : UInt8)) = false := by simpa using hx
   rcases spl_idx xs (cur ++ [x]) with ⟨h1, h2, h3⟩ | ⟨m, h1, h2, h3, h4⟩
   ·refine .inl ⟨by rw [Lib.indexByte, hb, h1]; rfl, by rw [splA, if_neg hx, h2]; simp, by rw [List.count_cons, h3, hb]; rfl⟩
   ·refine .inr ⟨m + 1, ?_, by simpa using h2, by rw [splA, if_neg hx, h3]; simp, by rw [List.count_cons, h4, hb]; simp⟩
    rw [Lib.indexByte, hb, h1]
    have : (((m : Nat) : Int) == -1) = false := by rw [beq_eq_false_iff_ne]; omega
    rw [this]; simp
theorem index_ev (s : ByteArray) : Evt (fun k => strings_Index_57.f k s) (Lib.indexByte (us s) 46) := by
 simp only [strings_Index_57.f, stringslite_Index_69.f, stringslite_IndexByte.f]
 refine Evt.map ?_
 by_cases h : ((⟨#[46]⟩ : ByteArray).toList == s.toList) = true
 ·refine Evt.pos h ?_
  rw [toList_us, decide_eq_true_eq] at h
  rw [← h]
  exact .pure _
 ·exact Evt.neg h (Evt.map (.pure _))
theorem cnt_le (s : ByteArray) : (us s).count 46 ≤ s.size := by rw [← us_len]; exact List.count_le_length
theorem cntS_eq (s : ByteArray) : cntS s 46 = (us s).count 46 := rfl
theorem take_set {α : Type} (l : List α) (i : Nat) (a : α) (h : i < l.length) : (l.set i a).take (i + 1) = l.take i ++ [a] := by
 rw [List.take_add_one, List.take_set_of_le (Nat.le_refl _)]
 simp [h]
theorem split_loop (a0 : ByteArray) (ha : a0.size ≤ 1048576) (C : Nat) (hC : C = (us a0).count 46) : ∀ (m : Nat) (x3 : List ByteArray) (x4 : ByteArray) (i : Nat), (us x4).count 46 = m → x4.size ≤ 1048576 → x3.length = C + 1 → i + m = C →
  Evt (fun k => strings_genSplit_47.l0 k x3 x4 (i : Int) a0 (C : Int)) (x3.take i ++ splA [] (us x4)) := by
 have hcle := cnt_le a0
 have hn : IntKind.i64.wrap ((if (IntKind.i64.wrap ((a0.size : Int) + 1)) < (IntKind.i64.wrap ((C : Int) + 1)) then (IntKind.i64.wrap ((a0.size : Int) + 1)) else (IntKind.i64.wrap ((C : Int) + 1))) - 1) = (C : Int) := by
  rw [wrap_nat (by omega), wrap_nat (by omega), if_neg (by omega), wrap_i64 (by omega) (by omega)]
  omega
 intro m
 induction m with
 | zero =>
  intro x3 x4 i h1 h2 h3 h4
  have hi : i = C := by omega
  subst hi
  refine Evt.succ (fun k => by rw [strings_genSplit_47.l0]) ?_
  rw [hn]
  refine Evt.neg (by simp) (Evt.some_bind (a := x3[i]'(by omega)) (by rw [rd_lt]) ?_)
  rw [wrap_nat (by omega)]
  refine Evt.pos (by rw [decide_eq_true_eq, List.length_set]; omega) ?_
  rw [sub_take, Int.toNat_natCast, take_set _ _ _ (by omega)]
  rcases spl_idx (us x4) [] with ⟨_, e, _⟩ | ⟨_, _, _, _, e⟩
  ·rw [e, List.nil_append, ofU_us]; exact .pure _
  ·omega
 | succ m ih =>
  intro x3 x4 i h1 h2 h3 h4
  refine Evt.succ (fun k => by rw [strings_genSplit_47.l0]) ?_
  rw [hn]
  refine Evt.pos (by simp; omega) (Evt.bind (index_ev x4) ?_)
  rcases spl_idx (us x4) [] with ⟨_, _, e⟩ | ⟨j, e1, e2, e3, e4⟩
  ·omega
  ·rw [us_len] at e2
   rw [e1]
   have w0 : IntKind.i64.wrap ((j : Int) + 0) = (j : Int) := wrap_i64 (by omega) (by omega)
   rw [w0, wrap_nat (by omega), wrap_nat (by omega)]
   refine Evt.neg (by simp) (Evt.pos (by rw [decide_eq_true_eq]; omega) (Evt.some_bind (a := x3[i]'(by omega)) (by rw [rd_lt]) (Evt.pos (by rw [decide_eq_true_eq]; omega) ?_)))
   have eu : us (x4.extract (j + 1) x4.size) = (us x4).drop (j + 1) := by
    rw [us_extract, List.take_of_length_le]
    rw [List.length_drop, us_len]; omega
   have := ih (x3.set i (x4.extract 0 j)) (x4.extract (j + 1) x4.size) (i + 1) (by rw [eu]; omega) (Nat.le_trans (size_extract_le _ _ _) h2) (by rw [List.length_set]; exact h3) (by omega)
   rw [take_set _ _ _ (by omega), eu, List.append_assoc] at this
   have ep : x4.extract 0 j = ofU ([] ++ (us x4).take j) := by
    apply us_inj
    rw [us_ofU, us_extract]; simp
   rw [e3, ← ep]
   simpa using this
theorem split_ev (s : ByteArray) (hs : s.size ≤ 1048576) : Evt (fun k => strings_Split.f k s) (splS s) := by
 simp only [strings_Split.f, strings_genSplit_47.f, strings_Count_56.f]
 refine Evt.map (Evt.bind (.pure _) ?_)
 have hcle := cnt_le s
 have hn : (if (IntKind.i64.wrap ((s.size : Int) + 1)) < (IntKind.i64.wrap ((cntS s 46 : Int) + 1)) then (IntKind.i64.wrap ((s.size : Int) + 1)) else (IntKind.i64.wrap ((cntS s 46 : Int) + 1))) = (((us s).count 46 + 1 : Nat) : Int) := by
  rw [cntS_eq, wrap_nat (by omega), wrap_nat (by omega), if_neg (by omega)]
 rw [hn]
 refine Evt.pos (by rw [decide_eq_true_eq]; omega) ?_
 have := split_loop s hs _ rfl _ (List.replicate ((us s).count 46 + 1) (⟨#[]⟩ : ByteArray)) s 0 rfl hs (by simp) (by omega)
 simpa [cntS_eq, splS] using this

def joinU : List ByteArray → List UInt8
 | [] => []
 | [p] => us p
 | p :: q :: ps => us p ++ 46 :: joinU (q :: ps)
theorem spl_ne : ∀ (l cur : List UInt8), ∃ p ps, splA cur l = p :: ps
 | [], cur => ⟨_, _, rfl⟩
 | x :: xs, cur => by
  rw [splA]
  split
  ·exact ⟨_, _, rfl⟩
  ·exact spl_ne xs _
theorem join_spl : ∀ (l cur : List UInt8), joinU (splA cur l) = cur ++ l
 | [], cur => by simp [splA, joinU, us_ofU]
 | x :: xs, cur => by
  rw [splA]
  split
  ·rename_i h
   obtain ⟨p, ps, e⟩ := spl_ne xs []
   have := join_spl xs []
   rw [e] at this ⊢
   rw [joinU, this, us_ofU, h]; rfl
  ·rw [join_spl xs (cur ++ [x])]; simp
theorem spl_inj {s t : ByteArray} (h : splS s = splS t) : s = t := by
 apply us_inj
 have h1 := join_spl (us s) []
 have h2 := join_spl (us t) []
 unfold splS at h
 rw [h] at h1
 simpa using h1.symm.trans h2
theorem spl_part_size (s : ByteArray) : ∀ (l cur : List UInt8), ∀ p ∈ splA cur l, p.size ≤ cur.length + l.length
 | [], cur, p, hp => by
  rw [splA, List.mem_singleton] at hp
  subst hp
  rw [← us_len, us_ofU]; simp
 | x :: xs, cur, p, hp => by
  rw [splA] at hp
  split at hp
  ·rcases List.mem_cons.mp hp with rfl | hp
   ·rw [← us_len, us_ofU]; simp
   ·have := spl_part_size s xs [] p hp; simp at this ⊢; omega
  ·have := spl_part_size s xs _ p hp; simp at this ⊢; omega
theorem spl_len : ∀ (l cur : List UInt8), (splA cur l).length ≤ l.length + 1
 | [], cur => by simp [splA]
 | x :: xs, cur => by
  rw [splA]
  split
  ·have := spl_len xs []; simp; omega
  ·have := spl_len xs (cur ++ [x]); simp; omega
theorem splS_len (s : ByteArray) : (splS s).length ≤ s.size + 1 := by rw [← us_len]; exact spl_len _ _
theorem splS_size (s : ByteArray) : ∀ p ∈ splS s, p.size ≤ s.size := by
 intro p hp
 have := spl_part_size s (us s) [] p hp
 rw [us_len] at this; simpa using this
end Go.Abs.GenS
