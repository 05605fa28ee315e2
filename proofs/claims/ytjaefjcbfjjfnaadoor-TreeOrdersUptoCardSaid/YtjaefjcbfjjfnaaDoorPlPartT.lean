import Derived.Test.YtjaefjcbfjjfnaaDoorPlNumT
set_option linter.unusedVariables false
set_option linter.unusedSimpArgs false
set_option maxRecDepth 100000
set_option maxHeartbeats 4000000
namespace Go.Abs.GenT
open Go.Abs

/-! ### the last index of a byte -/
def lastN (s : List Int) (x : Int) : Nat → Int
  | 0 => -1
  | n + 1 => if s[n]? = some x then (n : Int) else lastN s x n
theorem lastN_ge (s : List Int) (x : Int) : ∀ n, -1 ≤ lastN s x n ∧ lastN s x n < (n : Int)
  | 0 => by simp [lastN]
  | n + 1 => by
    have := lastN_ge s x n
    unfold lastN
    split <;> omega
theorem last_loop (s : ByteArray) (x : Int) (hs : s.size ≤ 1048576) (F : Nat → Int → Option Int) (hF : ∀ k i, F (k + 1) i = if (decide (i ≥ 0)) = true then ((bt s i).bind fun v => if (v == x) = true then (some i) else (F k (IntKind.i64.wrap (i - 1)))) else (some (-1))) :
    ∀ n, n ≤ s.size → Evt (fun k => F k ((n : Int) - 1)) (lastN (bytesI s) x n) := by
  intro n
  induction n with
  | zero =>
    intro _
    exact Evt.succ (fun k => hF k _) (Evt.neg (by decide) (.pure _))
  | succ n ih =>
    intro hn
    have hl : n < (bytesI s).length := by rw [← size_bytesI]; omega
    have e : ((n + 1 : Nat) : Int) - 1 = (n : Int) := by omega
    rw [e]
    refine Evt.succ (fun k => hF k _) (Evt.pos (by simp) (Evt.some_bind (a := (bytesI s)[n]) (by rw [bt_eq, rd_lt hl]) ?_))
    unfold lastN
    by_cases h : (bytesI s)[n] = x
    · rw [if_pos (by rw [List.getElem?_eq_getElem hl, h])]
      exact Evt.pos (by simpa using h) (.pure _)
    · rw [if_neg (by rw [List.getElem?_eq_getElem hl]; simpa using h)]
      refine Evt.neg (by simpa using h) ?_
      rw [wrap_i64 (by omega) (by omega)]
      exact ih (by omega)
def lastS (s : ByteArray) (x : Int) : Int := lastN (bytesI s) x s.size
theorem lastS_ge (s : ByteArray) (x : Int) : -1 ≤ lastS s x ∧ lastS s x < (s.size : Int) := lastN_ge _ _ _
theorem lib_last (s : ByteArray) (x : Int) (hs : s.size ≤ 1048576) : Evt (fun k => strings_LastIndexByte.f k s x) (lastS s x) := by
  simp only [strings_LastIndexByte.f, bytealg_LastIndexByteString.f]
  refine Evt.map ?_
  rw [wrap_i64 (by omega) (by omega)]
  exact last_loop s x hs (fun k i => bytealg_LastIndexByteString.l0 k i s x) (fun k i => by rw [bytealg_LastIndexByteString.l0]) _ (Nat.le_refl _)
theorem ref_last (s : ByteArray) (x : Int) (hs : s.size ≤ 1048576) : Evt (fun k => dossierref18_last.f k s x) (lastS s x) := by
  simp only [dossierref18_last.f]
  rw [wrap_i64 (by omega) (by omega)]
  exact last_loop s x hs (fun k i => dossierref18_last.l0 k i s x) (fun k i => by rw [dossierref18_last.l0]) _ (Nat.le_refl _)

/-! ### the parent, the last part -/
def upS (s : ByteArray) : ByteArray := s.extract 0 (if lastS s 47 > 0 then lastS s 47 else 0).toNat
theorem up_ok (s : ByteArray) : (decide (0 ≤ 0 ∧ 0 ≤ (if lastS s 47 > 0 then lastS s 47 else 0) ∧ (if lastS s 47 > 0 then lastS s 47 else 0) ≤ (s.size : Int))) = true := by
  have := lastS_ge s 47
  rw [decide_eq_true_eq]
  split <;> omega
theorem tree_up (s : ByteArray) (hs : s.size ≤ 1048576) : Evt (fun k => tree_Up.f k s) (upS s) := by
  simp only [tree_Up.f]
  exact Evt.bind (lib_last s 47 hs) (Evt.pos (up_ok s) (.pure _))
theorem size_extract_le (s : ByteArray) (a b : Nat) : (s.extract a b).size ≤ s.size := by
  rw [size_bytesI, size_bytesI s, bytesI_extract]
  simp; omega
def partS (s : ByteArray) : ByteArray × Int :=
  if lastS s 46 < 1 then (⟨#[]⟩, 0) else
    let r := numS (bytesI (s.extract (lastS s 46 + 1).toNat s.size))
    if r.2 ≠ 0 then (⟨#[]⟩, 0) else if r.1 < 1 then (⟨#[]⟩, 0) else (s.extract 0 (lastS s 46).toNat, r.1)
theorem part_evt (s : ByteArray) (hs : s.size ≤ 1048576) (L : Nat → Option Int) (N : Nat → ByteArray → Option (Int × Int)) (hL : Evt L (lastS s 46)) (hN : ∀ t : ByteArray, t.size ≤ 1048576 → Evt (fun k => N k t) (numS (bytesI t))) :
    Evt (fun k => (L k).bind fun r1 => if (decide (r1 < 1)) = true then (some ((⟨#[]⟩ : ByteArray), (0 : Int))) else (if (decide (0 ≤ (IntKind.i64.wrap (r1 + 1)) ∧ (IntKind.i64.wrap (r1 + 1)) ≤ (s.size : Int) ∧ (s.size : Int) ≤ (s.size : Int))) = true then ((N k (s.extract (IntKind.i64.wrap (r1 + 1)).toNat s.size)).bind fun r4 => if (r4.2 != 0) = true then (some ((⟨#[]⟩ : ByteArray), 0)) else (if (decide (r4.1 < 1)) = true then (some ((⟨#[]⟩ : ByteArray), 0)) else (if (decide (0 ≤ 0 ∧ 0 ≤ r1 ∧ r1 ≤ (s.size : Int))) = true then (some (s.extract 0 r1.toNat, r4.1)) else none))) else none)) (partS s) := by
  have hb := lastS_ge s 46
  refine Evt.bind hL ?_
  unfold partS
  refine Evt.iteD (fun _ => .pure _) fun h1 => ?_
  have hw : IntKind.i64.wrap (lastS s 46 + 1) = lastS s 46 + 1 := wrap_i64 (by omega) (by omega)
  rw [hw]
  refine Evt.pos (by rw [decide_eq_true_eq]; omega) (Evt.bind (hN _ (Nat.le_trans (size_extract_le _ _ _) hs)) ?_)
  by_cases h2 : (numS (bytesI (s.extract (lastS s 46 + 1).toNat s.size))).2 = 0
  · refine Evt.neg (by simpa using h2) ?_
    simp only [ne_eq, h2, not_true_eq_false, if_false]
    exact Evt.iteD (fun _ => .pure _) fun h3 => Evt.pos (by rw [decide_eq_true_eq]; omega) (.pure _)
  · refine Evt.pos (by simpa using h2) ?_
    simp only [ne_eq, h2, not_false_eq_true, if_true]
    exact .pure _
theorem tree_part (s : ByteArray) (hs : s.size ≤ 1048576) : Evt (fun k => tree_part.f k s) (partS s) := by
  simp only [tree_part.f]
  exact part_evt s hs _ _ (lib_last s 46 hs) number_ev
theorem ref_part (s : ByteArray) (hs : s.size ≤ 1048576) : Evt (fun k => dossierref18_part.f k s) (partS s) := by
  simp only [dossierref18_part.f]
  exact part_evt s hs _ _ (ref_last s 46 hs) refnumber_ev
/-! ### awake -/
theorem text2 : textS 2 = [50] := by rw [textS, if_neg (by decide)]; exact dig_lt (by decide)
theorem awake_ev : Evt (fun k => dossierlaw18_awake.f k) true := by
  simp only [dossierlaw18_awake.f]
  refine Evt.bind (a := ((⟨#[112, 46, 49]⟩ : ByteArray) ++ (⟨#[47]⟩ : ByteArray)) ++ (((⟨#[116]⟩ : ByteArray) ++ (⟨#[46]⟩ : ByteArray)) ++ ofNums [50])) ?_ ?_
  · simp only [tree_Path.f]
    refine Evt.pos rfl (Evt.bind (a := ofNums [50]) (by rw [← text2]; exact text_ev 2 (by decide) (by decide)) (Evt.pos rfl (Evt.neg ?_ (Evt.pos rfl (Evt.pos rfl (.pure _))))))
    rw [toList_beq]; decide
  · refine Evt.pos (by rw [toList_beq]; decide) (Evt.bind (tree_up _ (by decide)) ?_)
    have e : ((upS (⟨#[112, 46, 49, 47, 116, 46, 50]⟩ : ByteArray)).toList == (⟨#[112, 46, 49]⟩ : ByteArray).toList) = true := by
      rw [toList_beq, upS, bytesI_extract]; decide
    rw [e]
    exact .pure _

end Go.Abs.GenT
