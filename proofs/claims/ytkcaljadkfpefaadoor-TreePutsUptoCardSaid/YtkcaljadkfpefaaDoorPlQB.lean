import Derived.Test.YtkcaljadkfpefaaDoorPlQA
import Derived.Sort.Walk0
set_option linter.unnecessarySimpa false
set_option linter.unusedVariables false
set_option linter.unusedSimpArgs false
set_option maxRecDepth 100000
set_option maxHeartbeats 4000000
namespace Go.Abs.GenQ
open Go.Abs
def lastN (s : List Int) (x : Int) : Nat → Int
  | 0 => -1
  | n + 1 => if s[n]? = some x then (n : Int) else lastN s x n
theorem lastN_ge (s : List Int) (x : Int) : ∀ n, -1 ≤ lastN s x n ∧ lastN s x n < (n : Int)
  | 0 => by simp [lastN]
  | n + 1 => by
    have := lastN_ge s x n
    unfold lastN
    split <;> omega
theorem last_loop (s : ByteArray) (x : Int) (hs : s.size ≤ 1048576) (F : Nat → Int → Option Int) (hF : ∀ k i, F (k + 1) i = if (decide (i ≥ 0)) = true then ((bt s i).bind fun v => if (v == x) = true then (some i) else (F k (IntKind.i64.wrap (i - 1)))) else (some (-1))) :
    ∀ n, n ≤ s.size → Evt (fun k => F k ((n : Int) - 1)) (lastN (bytesI s) x n) := by
  intro n
  induction n with
  | zero =>
    intro _
    exact Evt.succ (fun k => hF k _) (Evt.neg (by decide) (.pure _))
  | succ n ih =>
    intro hn
    have hl : n < (bytesI s).length := by rw [← size_bytesI]; omega
    have e : ((n + 1 : Nat) : Int) - 1 = (n : Int) := by omega
    rw [e]
    refine Evt.succ (fun k => hF k _) (Evt.pos (by simp) (Evt.some_bind (a := (bytesI s)[n]) (by rw [bt_eq, rd_lt hl]) ?_))
    unfold lastN
    by_cases h : (bytesI s)[n] = x
    · rw [if_pos (by rw [List.getElem?_eq_getElem hl, h])]
      exact Evt.pos (by simpa using h) (.pure _)
    · rw [if_neg (by rw [List.getElem?_eq_getElem hl]; simpa using h)]
      refine Evt.neg (by simpa using h) ?_
      rw [wrap_i64 (by omega) (by omega)]
      exact ih (by omega)
def lastS (s : ByteArray) (x : Int) : Int := lastN (bytesI s) x s.size
theorem lastS_ge (s : ByteArray) (x : Int) : -1 ≤ lastS s x ∧ lastS s x < (s.size : Int) := lastN_ge _ _ _
theorem lib_last (s : ByteArray) (x : Int) (hs : s.size ≤ 1048576) : Evt (fun k => strings_LastIndexByte.f k s x) (lastS s x) := by
  simp only [strings_LastIndexByte.f, bytealg_LastIndexByteString.f]
  refine Evt.map ?_
  rw [wrap_i64 (by omega) (by omega)]
  exact last_loop s x hs (fun k i => bytealg_LastIndexByteString.l0 k i s x) (fun k i => by rw [bytealg_LastIndexByteString.l0]) _ (Nat.le_refl _)
theorem ref_last (s : ByteArray) (x : Int) (hs : s.size ≤ 1048576) : Evt (fun k => dossierref18_last.f k s x) (lastS s x) := by
  simp only [dossierref18_last.f]
  rw [wrap_i64 (by omega) (by omega)]
  exact last_loop s x hs (fun k i => dossierref18_last.l0 k i s x) (fun k i => by rw [dossierref18_last.l0]) _ (Nat.le_refl _)

def upS (s : ByteArray) : ByteArray := s.extract 0 (if lastS s 47 > 0 then lastS s 47 else 0).toNat
theorem up_ok (s : ByteArray) : (decide (0 ≤ 0 ∧ 0 ≤ (if lastS s 47 > 0 then lastS s 47 else 0) ∧ (if lastS s 47 > 0 then lastS s 47 else 0) ≤ (s.size : Int))) = true := by
  have := lastS_ge s 47
  rw [decide_eq_true_eq]
  split <;> omega
theorem tree_up (s : ByteArray) (hs : s.size ≤ 1048576) : Evt (fun k => tree_Up.f k s) (upS s) := by
  simp only [tree_Up.f]
  exact Evt.bind (lib_last s 47 hs) (Evt.pos (up_ok s) (.pure _))
theorem size_extract_le (s : ByteArray) (a b : Nat) : (s.extract a b).size ≤ s.size := by
  rw [size_bytesI, size_bytesI s, bytesI_extract]
  simp; omega
def partS (s : ByteArray) : ByteArray × Int :=
  if lastS s 46 < 1 then (⟨#[]⟩, 0) else
    let r := numS (bytesI (s.extract (lastS s 46 + 1).toNat s.size))
    if r.2 ≠ 0 then (⟨#[]⟩, 0) else if r.1 < 1 then (⟨#[]⟩, 0) else (s.extract 0 (lastS s 46).toNat, r.1)
theorem part_evt (s : ByteArray) (hs : s.size ≤ 1048576) (L : Nat → Option Int) (N : Nat → ByteArray → Option (Int × Int)) (hL : Evt L (lastS s 46)) (hN : ∀ t : ByteArray, t.size ≤ 1048576 → Evt (fun k => N k t) (numS (bytesI t))) :
    Evt (fun k => (L k).bind fun r1 => if (decide (r1 < 1)) = true then (some ((⟨#[]⟩ : ByteArray), (0 : Int))) else (if (decide (0 ≤ (IntKind.i64.wrap (r1 + 1)) ∧ (IntKind.i64.wrap (r1 + 1)) ≤ (s.size : Int) ∧ (s.size : Int) ≤ (s.size : Int))) = true then ((N k (s.extract (IntKind.i64.wrap (r1 + 1)).toNat s.size)).bind fun r4 => if (r4.2 != 0) = true then (some ((⟨#[]⟩ : ByteArray), 0)) else (if (decide (r4.1 < 1)) = true then (some ((⟨#[]⟩ : ByteArray), 0)) else (if (decide (0 ≤ 0 ∧ 0 ≤ r1 ∧ r1 ≤ (s.size : Int))) = true then (some (s.extract 0 r1.toNat, r4.1)) else none))) else none)) (partS s) := by
  have hb := lastS_ge s 46
  refine Evt.bind hL ?_
  unfold partS
  refine Evt.iteD (fun _ => .pure _) fun h1 => ?_
  have hw : IntKind.i64.wrap (lastS s 46 + 1) = lastS s 46 + 1 := wrap_i64 (by omega) (by omega)
  rw [hw]
  refine Evt.pos (by rw [decide_eq_true_eq]; omega) (Evt.bind (hN _ (Nat.le_trans (size_extract_le _ _ _) hs)) ?_)
  by_cases h2 : (numS (bytesI (s.extract (lastS s 46 + 1).toNat s.size))).2 = 0
  · refine Evt.neg (by simpa using h2) ?_
    simp only [ne_eq, h2, not_true_eq_false, if_false]
    exact Evt.iteD (fun _ => .pure _) fun h3 => Evt.pos (by rw [decide_eq_true_eq]; omega) (.pure _)
  · refine Evt.pos (by simpa using h2) ?_
    simp only [ne_eq, h2, not_false_eq_true, if_true]
    exact .pure _
theorem tree_part (s : ByteArray) (hs : s.size ≤ 1048576) : Evt (fun k => tree_part.f k s) (partS s) := by
  simp only [tree_part.f]
  exact part_evt s hs _ _ (lib_last s 46 hs) number_ev
theorem ref_part (s : ByteArray) (hs : s.size ≤ 1048576) : Evt (fun k => dossierref18_part.f k s) (partS s) := by
  simp only [dossierref18_part.f]
  exact part_evt s hs _ _ (ref_last s 46 hs) refnumber_ev
def us (s : ByteArray) : List UInt8 := s.data.toList
def ofU (l : List UInt8) : ByteArray := ⟨l.toArray⟩
theorem us_ofU (l : List UInt8) : us (ofU l) = l := by simp [us, ofU]
theorem ofU_us (s : ByteArray) : ofU (us s) = s := by obtain ⟨⟨l⟩⟩ := s; rfl
theorem us_inj {s t : ByteArray} (h : us s = us t) : s = t := by rw [← ofU_us s, h, ofU_us]
theorem us_len (s : ByteArray) : (us s).length = s.size := by
  show s.data.toList.length = s.size
  rw [Array.length_toList, ByteArray.size_data]
theorem us_extract (s : ByteArray) (a b : Nat) : us (s.extract a b) = ((us s).drop a).take (b - a) := by
  unfold us
  rw [ByteArray.data_extract, Array.toList_extract]
theorem bytes_us (s : ByteArray) : bytesI s = (us s).map fun b => ((b.toNat : Nat) : Int) := by
  unfold bytesI us; rfl
theorem toList_us (s t : ByteArray) : (s.toList == t.toList) = decide (us s = us t) := by
  rw [toList_eq, toList_eq]
  unfold us
  by_cases h : s.data.toList = t.data.toList
  · rw [h]; simp
  · rw [decide_eq_false h]; simpa using h

def splA : List UInt8 → List UInt8 → List ByteArray
  | cur, [] => [ofU cur]
  | cur, x :: xs => if x = 47 then ofU cur :: splA [] xs else splA (cur ++ [x]) xs
def splS (s : ByteArray) : List ByteArray := splA [] (us s)
theorem spl_idx : ∀ (l cur : List UInt8), (Lib.indexByte l 47 = -1 ∧ splA cur l = [ofU (cur ++ l)] ∧ l.count 47 = 0) ∨
    (∃ m : Nat, Lib.indexByte l 47 = (m : Int) ∧ m < l.length ∧ splA cur l = ofU (cur ++ l.take m) :: splA [] (l.drop (m + 1)) ∧ l.count 47 = (l.drop (m + 1)).count 47 + 1)
  | [], cur => .inl ⟨rfl, by simp [splA], rfl⟩
  | x :: xs, cur => by
    by_cases hx : x = 47
    · subst hx
      exact .inr ⟨0, by simp [Lib.indexByte], by simp, by simp [splA], by simp⟩
    · have hb : (x == (47 : UInt8)) = false := by simpa using hx
      rcases spl_idx xs (cur ++ [x]) with ⟨h1, h2, h3⟩ | ⟨m, h1, h2, h3, h4⟩
      · refine .inl ⟨by rw [Lib.indexByte, hb, h1]; rfl, by rw [splA, if_neg hx, h2]; simp, by rw [List.count_cons, h3, hb]; rfl⟩
      · refine .inr ⟨m + 1, ?_, by simpa using h2, by rw [splA, if_neg hx, h3]; simp, by rw [List.count_cons, h4, hb]; simp⟩
        rw [Lib.indexByte, hb, h1]
        have : (((m : Nat) : Int) == -1) = false := by rw [beq_eq_false_iff_ne]; omega
        rw [this]; simp
theorem index_ev (s : ByteArray) : Evt (fun k => strings_Index_52.f k s) (Lib.indexByte (us s) 47) := by
  simp only [strings_Index_52.f, stringslite_Index_59.f, stringslite_IndexByte.f]
  refine Evt.map ?_
  by_cases h : ((⟨#[47]⟩ : ByteArray).toList == s.toList) = true
  · refine Evt.pos h ?_
    rw [toList_us, decide_eq_true_eq] at h
    rw [← h]
    exact .pure _
  · exact Evt.neg h (Evt.map (.pure _))
theorem cnt_le (s : ByteArray) : (us s).count 47 ≤ s.size := by rw [← us_len]; exact List.count_le_length
theorem cntS_eq (s : ByteArray) : cntS s 47 = (us s).count 47 := rfl
theorem take_set {α : Type} (l : List α) (i : Nat) (a : α) (h : i < l.length) : (l.set i a).take (i + 1) = l.take i ++ [a] := by
  rw [List.take_add_one, List.take_set_of_le (Nat.le_refl _)]
  simp [h]
theorem split_loop (a0 : ByteArray) (ha : a0.size ≤ 1048576) (C : Nat) (hC : C = (us a0).count 47) : ∀ (m : Nat) (x3 : List ByteArray) (x4 : ByteArray) (i : Nat), (us x4).count 47 = m → x4.size ≤ 1048576 → x3.length = C + 1 → i + m = C →
    Evt (fun k => strings_genSplit_43x.l0 k x3 x4 (i : Int) a0 (C : Int)) (x3.take i ++ splA [] (us x4)) := by
  have hcle := cnt_le a0
  have hn : IntKind.i64.wrap ((if (IntKind.i64.wrap ((a0.size : Int) + 1)) < (IntKind.i64.wrap ((C : Int) + 1)) then (IntKind.i64.wrap ((a0.size : Int) + 1)) else (IntKind.i64.wrap ((C : Int) + 1))) - 1) = (C : Int) := by
    rw [wrap_nat (by omega), wrap_nat (by omega), if_neg (by omega), wrap_i64 (by omega) (by omega)]
    omega
  intro m
  induction m with
  | zero =>
    intro x3 x4 i h1 h2 h3 h4
    have hi : i = C := by omega
    subst hi
    refine Evt.succ (fun k => by rw [strings_genSplit_43x.l0]) ?_
    rw [hn]
    refine Evt.neg (by simp) (Evt.some_bind (a := x3[i]'(by omega)) (by rw [rd_lt]) ?_)
    rw [wrap_nat (by omega)]
    refine Evt.pos (by rw [decide_eq_true_eq, List.length_set]; omega) ?_
    rw [sub_take, Int.toNat_natCast, take_set _ _ _ (by omega)]
    rcases spl_idx (us x4) [] with ⟨_, e, _⟩ | ⟨_, _, _, _, e⟩
    · rw [e, List.nil_append, ofU_us]; exact .pure _
    · omega
  | succ m ih =>
    intro x3 x4 i h1 h2 h3 h4
    refine Evt.succ (fun k => by rw [strings_genSplit_43x.l0]) ?_
    rw [hn]
    refine Evt.pos (by simp; omega) (Evt.bind (index_ev x4) ?_)
    rcases spl_idx (us x4) [] with ⟨_, _, e⟩ | ⟨j, e1, e2, e3, e4⟩
    · omega
    · rw [us_len] at e2
      rw [e1]
      have w0 : IntKind.i64.wrap ((j : Int) + 0) = (j : Int) := wrap_i64 (by omega) (by omega)
      rw [w0, wrap_nat (by omega), wrap_nat (by omega)]
      refine Evt.neg (by simp) (Evt.pos (by rw [decide_eq_true_eq]; omega) (Evt.some_bind (a := x3[i]'(by omega)) (by rw [rd_lt]) (Evt.pos (by rw [decide_eq_true_eq]; omega) ?_)))
      have eu : us (x4.extract (j + 1) x4.size) = (us x4).drop (j + 1) := by
        rw [us_extract, List.take_of_length_le]
        rw [List.length_drop, us_len]; omega
      have := ih (x3.set i (x4.extract 0 j)) (x4.extract (j + 1) x4.size) (i + 1) (by rw [eu]; omega) (Nat.le_trans (size_extract_le _ _ _) h2) (by rw [List.length_set]; exact h3) (by omega)
      rw [take_set _ _ _ (by omega), eu, List.append_assoc] at this
      have ep : x4.extract 0 j = ofU ([] ++ (us x4).take j) := by
        apply us_inj
        rw [us_ofU, us_extract]; simp
      rw [e3, ← ep]
      simpa using this
theorem split_ev (s : ByteArray) (hs : s.size ≤ 1048576) : Evt (fun k => strings_Split_30.f k s) (splS s) := by
  simp only [strings_Split_30.f, strings_genSplit_43x.f, strings_Count_51.f]
  refine Evt.map (Evt.bind (.pure _) ?_)
  have hcle := cnt_le s
  have hn : (if (IntKind.i64.wrap ((s.size : Int) + 1)) < (IntKind.i64.wrap ((cntS s 47 : Int) + 1)) then (IntKind.i64.wrap ((s.size : Int) + 1)) else (IntKind.i64.wrap ((cntS s 47 : Int) + 1))) = (((us s).count 47 + 1 : Nat) : Int) := by
    rw [cntS_eq, wrap_nat (by omega), wrap_nat (by omega), if_neg (by omega)]
  rw [hn]
  refine Evt.pos (by rw [decide_eq_true_eq]; omega) ?_
  have := split_loop s hs _ rfl _ (List.replicate ((us s).count 47 + 1) (⟨#[]⟩ : ByteArray)) s 0 rfl hs (by simp) (by omega)
  simpa [cntS_eq, splS] using this

theorem parts_loop (s : ByteArray) (hs : s.size ≤ 1048576) : ∀ (n i at_ : Nat) (out : List ByteArray), s.size - i = n → i ≤ s.size → at_ ≤ i → out.length ≤ i →
    Evt (fun k => dossierref18_parts.l0 k out (at_ : Int) (i : Int) s) (out ++ splA (((us s).drop at_).take (i - at_)) ((us s).drop i)) := by
  intro n
  have hw : IntKind.i64.wrap ((s.size : Int) + 1) = ((s.size + 1 : Nat) : Int) := wrap_nat (by omega)
  have ee : ∀ a i : Nat, s.extract a i = ofU (((us s).drop a).take (i - a)) := fun a i => us_inj (by rw [us_ofU, us_extract])
  induction n with
  | zero =>
    intro i at_ out h1 h2 h3 h4
    have hi : i = s.size := by omega
    subst hi
    refine Evt.succ (fun k => by rw [dossierref18_parts.l0]) ?_
    rw [hw]
    refine Evt.pos (by simp; omega) (Evt.pos (by simp) (Evt.pos (by rw [decide_eq_true_eq]; omega) (Evt.pos (by simp; omega) ?_)))
    refine Evt.succ (fun k => by rw [dossierref18_parts.l0]) ?_
    refine Evt.neg (by rw [hw]; simp) ?_
    rw [List.drop_eq_nil_of_le (i := s.size) (by rw [us_len]; exact Nat.le_refl _), splA, ← ee]
    exact .pure _
  | succ n ih =>
    intro i at_ out h1 h2 h3 h4
    have hl : i < (us s).length := by rw [us_len]; omega
    have hb : i < (bytesI s).length := by rw [← size_bytesI]; omega
    refine Evt.succ (fun k => by rw [dossierref18_parts.l0]) ?_
    rw [hw]
    refine Evt.pos (by simp; omega) (Evt.neg (by simp; omega) (Evt.some_bind (a := (bytesI s)[i]) (by rw [bt_eq, rd_lt hb]) ?_))
    have hv : (bytesI s)[i] = (((us s)[i].toNat : Nat) : Int) := by simp [bytes_us]
    rw [List.drop_eq_getElem_cons hl, splA]
    rw [wrap_nat (by omega)]
    by_cases h : (us s)[i] = 47
    · rw [if_pos h]
      refine Evt.pos (by rw [hv, h]; rfl) (Evt.pos (by rw [decide_eq_true_eq]; omega) (Evt.pos (by simp; omega) ?_))
      have := ih (i + 1) (i + 1) (out ++ [s.extract at_ i]) (by omega) (by omega) (Nat.le_refl _) (by simp; omega)
      rw [Nat.sub_self, List.take_zero, List.append_assoc] at this
      rw [← ee]
      exact this
    · rw [if_neg h]
      refine Evt.neg (by rw [hv]; intro hc; apply h; have : (us s)[i].toNat = 47 := by simp at hc; omega
                         exact UInt8.toNat_inj.mp this) ?_
      have := ih (i + 1) at_ out (by omega) (by omega) (by omega) (by omega)
      have e : ((us s).drop at_).take (i + 1 - at_) = ((us s).drop at_).take (i - at_) ++ [(us s)[i]] := by
        rw [Nat.succ_sub h3, List.take_add_one, List.getElem?_drop, Nat.add_sub_cancel' h3, List.getElem?_eq_getElem hl]; rfl
      rw [e] at this
      exact this
theorem parts_ev (s : ByteArray) (hs : s.size ≤ 1048576) : Evt (fun k => dossierref18_parts.f k s) (splS s) := by
  simp only [dossierref18_parts.f]
  have := parts_loop s hs _ 0 0 [] rfl (by omega) (by omega) (by simp)
  simpa [splS] using this
def joinU : List ByteArray → List UInt8
  | [] => []
  | [p] => us p
  | p :: q :: ps => us p ++ 47 :: joinU (q :: ps)
theorem spl_ne : ∀ (l cur : List UInt8), ∃ p ps, splA cur l = p :: ps
  | [], cur => ⟨_, _, rfl⟩
  | x :: xs, cur => by
    rw [splA]
    split
    · exact ⟨_, _, rfl⟩
    · exact spl_ne xs _
theorem join_spl : ∀ (l cur : List UInt8), joinU (splA cur l) = cur ++ l
  | [], cur => by simp [splA, joinU, us_ofU]
  | x :: xs, cur => by
    rw [splA]
    split
    · rename_i h
      obtain ⟨p, ps, e⟩ := spl_ne xs []
      have := join_spl xs []
      rw [e] at this ⊢
      rw [joinU, this, us_ofU, h]; rfl
    · rw [join_spl xs (cur ++ [x])]; simp
theorem spl_inj {s t : ByteArray} (h : splS s = splS t) : s = t := by
  apply us_inj
  have h1 := join_spl (us s) []
  have h2 := join_spl (us t) []
  unfold splS at h
  rw [h] at h1
  simpa using h1.symm.trans h2
theorem spl_part_size (s : ByteArray) : ∀ (l cur : List UInt8), ∀ p ∈ splA cur l, p.size ≤ cur.length + l.length
  | [], cur, p, hp => by
    rw [splA, List.mem_singleton] at hp
    subst hp
    rw [← us_len, us_ofU]; simp
  | x :: xs, cur, p, hp => by
    rw [splA] at hp
    split at hp
    · rcases List.mem_cons.mp hp with rfl | hp
      · rw [← us_len, us_ofU]; simp
      · have := spl_part_size s xs [] p hp; simp at this ⊢; omega
    · have := spl_part_size s xs _ p hp; simp at this ⊢; omega
theorem spl_len : ∀ (l cur : List UInt8), (splA cur l).length ≤ l.length + 1
  | [], cur => by simp [splA]
  | x :: xs, cur => by
    rw [splA]
    split
    · have := spl_len xs []; simp; omega
    · have := spl_len xs (cur ++ [x]); simp; omega
theorem splS_len (s : ByteArray) : (splS s).length ≤ s.size + 1 := by rw [← us_len]; exact spl_len _ _
theorem splS_size (s : ByteArray) : ∀ p ∈ splS s, p.size ≤ s.size := by
  intro p hp
  have := spl_part_size s (us s) [] p hp
  rw [us_len] at this; simpa using this
structure Lin {α : Type} (f : α → α → Int) : Prop where
  neg : ∀ a b, f b a = - f a b
  tr : ∀ a b c, f a b ≤ 0 → f b c ≤ 0 → f a c ≤ 0
def orI (a b : Int) : Int := if a ≠ 0 then a else b
theorem Lin.on {α β : Type} {f : α → α → Int} (h : Lin f) (k : β → α) : Lin (fun a b => f (k a) (k b)) := ⟨fun a b => h.neg _ _, fun a b c => h.tr _ _ _⟩
theorem Lin.lt {α : Type} {f : α → α → Int} (h : Lin f) {a b c : α} (h1 : f a b ≤ 0) (h2 : f b c ≤ 0) (h3 : f a c = 0) : f a b = 0 ∧ f b c = 0 := by
  have e1 := h.neg a c
  have e2 := h.neg a b
  have e3 := h.neg b c
  have t1 := h.tr b c a h2 (by omega)
  have t2 := h.tr c a b (by omega) h1
  omega
theorem Lin.lex {α : Type} {f g : α → α → Int} (hf : Lin f) (hg : Lin g) : Lin (fun a b => orI (f a b) (g a b)) := by
  refine ⟨fun a b => ?_, fun a b c h1 h2 => ?_⟩
  · have e1 := hf.neg a b
    have e2 := hg.neg a b
    simp only [orI]
    split <;> split <;> omega
  · simp only [orI] at h1 h2 ⊢
    have hfa : f a b ≤ 0 := by split at h1 <;> omega
    have hfb : f b c ≤ 0 := by split at h2 <;> omega
    have hfc := hf.tr a b c hfa hfb
    by_cases h : f a c = 0
    · obtain ⟨q1, q2⟩ := hf.lt hfa hfb h
      rw [if_neg (by omega)] at h1 h2 ⊢
      exact hg.tr a b c h1 h2
    · rw [if_pos h]; exact hfc
def ordL {α : Type} (f : α → α → Int) : List α → List α → Int
  | [], [] => 0
  | [], _ :: _ => -1
  | _ :: _, [] => 1
  | x :: xs, y :: ys => orI (f x y) (ordL f xs ys)
theorem ordL_neg {α : Type} {f : α → α → Int} (h : Lin f) : ∀ a b, ordL f b a = - ordL f a b
  | [], [] => rfl
  | [], _ :: _ => rfl
  | _ :: _, [] => rfl
  | x :: xs, y :: ys => by
    have e1 := h.neg x y
    have e2 := ordL_neg h xs ys
    simp only [ordL, orI]
    split <;> split <;> omega
theorem ordL_tr {α : Type} {f : α → α → Int} (h : Lin f) : ∀ a b c, ordL f a b ≤ 0 → ordL f b c ≤ 0 → ordL f a c ≤ 0
  | [], _, [], _, _ => by simp [ordL]
  | [], _, _ :: _, _, _ => by simp [ordL]
  | _ :: _, [], _, h1, _ => by simp [ordL] at h1
  | _ :: _, _ :: _, [], _, h2 => by simp [ordL] at h2
  | x :: xs, y :: ys, z :: zs, h1, h2 => by
    simp only [ordL, orI] at h1 h2 ⊢
    have hfa : f x y ≤ 0 := by split at h1 <;> omega
    have hfb : f y z ≤ 0 := by split at h2 <;> omega
    have hfc := h.tr x y z hfa hfb
    by_cases h0 : f x z = 0
    · obtain ⟨q1, q2⟩ := h.lt hfa hfb h0
      rw [if_neg (by omega)] at h1 h2 ⊢
      exact ordL_tr h xs ys zs h1 h2
    · rw [if_pos h0]; exact hfc
theorem Lin.list {α : Type} {f : α → α → Int} (h : Lin f) : Lin (ordL f) := ⟨ordL_neg h, ordL_tr h⟩
theorem ordL_zero {α : Type} {f : α → α → Int} (h : ∀ a b, f a b = 0 → a = b) : ∀ a b, ordL f a b = 0 → a = b
  | [], [], _ => rfl
  | [], _ :: _, h0 => by simp [ordL] at h0
  | _ :: _, [], h0 => by simp [ordL] at h0
  | x :: xs, y :: ys, h0 => by
    simp only [ordL, orI] at h0
    split at h0
    · omega
    · rw [h x y (by omega), ordL_zero h xs ys h0]
theorem Lin.refl {α : Type} {f : α → α → Int} (h : Lin f) (a : α) : f a a = 0 := by have := h.neg a a; omega

def cmpI (a b : Int) : Int := if a < b then -1 else if a > b then 1 else 0
theorem cmpI_lin : Lin cmpI := by
  refine ⟨fun a b => ?_, fun a b c h1 h2 => ?_⟩
  · unfold cmpI; split <;> split <;> (try split) <;> omega
  · unfold cmpI at *; split at h1 <;> split at h2 <;> (try split at h1) <;> (try split at h2) <;> (try split) <;> (try split) <;> omega
theorem cmpI_lt {a b : Int} (h : a < b) : cmpI a b = -1 := by unfold cmpI; rw [if_pos h]
theorem cmpI_gt {a b : Int} (h : b < a) : cmpI a b = 1 := by unfold cmpI; rw [if_neg (by omega), if_pos h]
theorem cmpI_eq {a b : Int} (h : a = b) : cmpI a b = 0 := by unfold cmpI; rw [if_neg (by omega), if_neg (by omega)]
theorem compareBytes_ord : ∀ a b : List UInt8, Lib.compareBytes a b = ordL (fun x y : UInt8 => cmpI (x.toNat : Int) (y.toNat : Int)) a b
  | [], [] => rfl
  | [], _ :: _ => rfl
  | _ :: _, [] => rfl
  | x :: xs, y :: ys => by
    rw [Lib.compareBytes, ordL, compareBytes_ord xs ys]
    by_cases h1 : x < y
    · rw [if_pos h1, cmpI_lt (by rw [UInt8.lt_iff_toNat_lt] at h1; omega)]; rfl
    · by_cases h2 : y < x
      · rw [if_neg h1, if_pos h2, cmpI_gt (by rw [UInt8.lt_iff_toNat_lt] at h2; omega)]; rfl
      · rw [if_neg h1, if_neg h2, cmpI_eq (by rw [UInt8.lt_iff_toNat_lt] at h1 h2; omega)]; rfl
theorem u8_lin : Lin (fun x y : UInt8 => cmpI (x.toNat : Int) (y.toNat : Int)) := cmpI_lin.on _
theorem cmpS_ord (s t : ByteArray) : cmpS s t = ordL (fun x y : UInt8 => cmpI (x.toNat : Int) (y.toNat : Int)) (us s) (us t) := compareBytes_ord _ _
theorem cmpS_lin : Lin cmpS := by
  have h := u8_lin.list.on us
  refine ⟨fun a b => ?_, fun a b c h1 h2 => ?_⟩
  · rw [cmpS_ord, cmpS_ord]; exact h.neg a b
  · rw [cmpS_ord] at *; exact h.tr a b c h1 h2
theorem cmpS_zero {s t : ByteArray} (h : cmpS s t = 0) : s = t := by
  rw [cmpS_ord] at h
  refine us_inj (ordL_zero (fun a b hab => ?_) _ _ h)
  unfold cmpI at hab
  split at hab
  · omega
  · split at hab
    · omega
    · exact UInt8.toNat_inj.mp (by omega)
theorem bytesLess_ord : ∀ a b : List UInt8, Op.bytesLess a b = decide (Lib.compareBytes a b < 0)
  | [], [] => rfl
  | [], _ :: _ => rfl
  | _ :: _, [] => rfl
  | x :: xs, y :: ys => by
    rw [Op.bytesLess, Lib.compareBytes, bytesLess_ord xs ys]
    by_cases h1 : x < y
    · simp [h1]
    · by_cases h2 : y < x
      · have : ¬ (x == y) = true := by
          intro h; have := eq_of_beq h; subst this; exact h1 h2
        simp [h1, h2, this]
      · have h3 : x = y := by
          rw [UInt8.lt_iff_toNat_lt] at h1 h2
          exact UInt8.toNat_inj.mp (by omega)
        subst h3
        simp [h1]
theorem cmpS_val (s t : ByteArray) : cmpS s t = -1 ∨ cmpS s t = 0 ∨ cmpS s t = 1 := by
  unfold cmpS
  generalize s.data.toList = a
  generalize t.data.toList = b
  induction a generalizing b with
  | nil => cases b <;> simp [Lib.compareBytes]
  | cons x xs ih =>
    cases b with
    | nil => simp [Lib.compareBytes]
    | cons y ys =>
      rw [Lib.compareBytes]
      split
      · simp
      · split
        · simp
        · exact ih ys
theorem texts_ev (s t : ByteArray) : Evt (fun k => dossierref18_texts.f k s t) (cmpS s t) := by
  simp only [dossierref18_texts.f]
  have h1 : Op.bytesLess s.toList t.toList = decide (cmpS s t < 0) := by rw [toList_eq, toList_eq, bytesLess_ord]; rfl
  have h2 : (s.toList == t.toList) = decide (cmpS s t = 0) := by
    rw [toList_us]
    by_cases h : cmpS s t = 0
    · rw [cmpS_zero h, cmpS_lin.refl]; simp
    · rw [decide_eq_false h, decide_eq_false]
      intro hc
      apply h
      rw [us_inj hc, cmpS_lin.refl]
  rw [h1, h2]
  rcases cmpS_val s t with h | h | h
  · rw [h]; exact Evt.pos rfl (.pure _)
  · rw [h]; exact Evt.neg (by decide) (Evt.pos rfl (.pure _))
  · rw [h]; exact Evt.neg (by decide) (Evt.neg (by decide) (.pure _))
theorem cmpI_val (a b : Int) : cmpI a b = -1 ∨ cmpI a b = 0 ∨ cmpI a b = 1 := by
  unfold cmpI; split
  · simp
  · split <;> simp
theorem cmpI_zero {a b : Int} (h : cmpI a b = 0) : a = b := by
  unfold cmpI at h
  split at h
  · omega
  · split at h <;> omega

def ord1 (x y : ByteArray) : Int := orI (cmpS (partS x).1 (partS y).1) (orI (cmpI (partS x).2 (partS y).2) (cmpS x y))
theorem ord1_lin : Lin ord1 := (cmpS_lin.on fun x => (partS x).1).lex ((cmpI_lin.on fun x => (partS x).2).lex cmpS_lin)
theorem ord1_zero (x y : ByteArray) (h : ord1 x y = 0) : x = y := by
  unfold ord1 orI at h
  split at h
  · omega
  · split at h
    · omega
    · exact cmpS_zero h
theorem ord1_val (x y : ByteArray) : ord1 x y = -1 ∨ ord1 x y = 0 ∨ ord1 x y = 1 := by
  unfold ord1 orI
  split
  · exact cmpS_val _ _
  · split
    · exact cmpI_val _ _
    · exact cmpS_val _ _
def ordP (a b : ByteArray) : Int := ordL ord1 (splS a) (splS b)
theorem ordP_lin : Lin ordP := ord1_lin.list.on splS
theorem ordP_zero {a b : ByteArray} (h : ordP a b = 0) : a = b := spl_inj (ordL_zero ord1_zero _ _ h)
theorem ordP_val (a b : ByteArray) : ordP a b = -1 ∨ ordP a b = 0 ∨ ordP a b = 1 := by
  unfold ordP
  generalize splS a = l
  generalize splS b = m
  induction l generalizing m with
  | nil => cases m <;> simp [ordL]
  | cons x xs ih =>
    cases m with
    | nil => simp [ordL]
    | cons y ys =>
      simp only [ordL, orI]
      split
      · exact ord1_val _ _
      · exact ih ys

theorem compare_ev (a b : ByteArray) : Evt (fun k => strings_Compare.f k a b) (cmpS a b) := by
  simp only [strings_Compare.f, bytealg_CompareString.f]
  exact Evt.map (.pure _)
theorem cmpint_ev (a b : Int) : Evt (fun k => cmp_Compare_int.f k a b) (cmpI a b) := by
  simp only [cmp_Compare_int.f, cmp_isNaN_int.f]
  refine Evt.bind (.pure _) (Evt.bind (.pure _) (Evt.neg (by simp) (Evt.neg (by simp) ?_)))
  exact Evt.iteD (fun _ => .pure _) fun _ => Evt.iteD (fun _ => .pure _) fun _ => .pure _
theorem or_ev (a b c : Int) : Evt (fun k => cmp_Or_int.f k ([a, b, c] : List Int)) (orI a (orI b c)) := by
  simp only [cmp_Or_int.f, orI]
  refine Evt.succ (fun k => by rw [cmp_Or_int.l0]) ?_
  refine Evt.pos rfl ?_
  refine Evt.some_bind (a := a) rfl ?_
  by_cases ha : a = 0
  · subst ha
    refine Evt.neg (by simp) ?_
    rw [if_neg (by simp)]
    refine Evt.succ (fun k => by rw [cmp_Or_int.l0]) ?_
    refine Evt.pos rfl ?_
    refine Evt.some_bind (a := b) rfl ?_
    by_cases hb : b = 0
    · subst hb
      refine Evt.neg (by simp) ?_
      rw [if_neg (by simp)]
      refine Evt.succ (fun k => by rw [cmp_Or_int.l0]) ?_
      refine Evt.pos rfl ?_
      refine Evt.some_bind (a := c) rfl ?_
      by_cases hc : c = 0
      · subst hc
        refine Evt.neg (by simp) ?_
        refine Evt.succ (fun k => by rw [cmp_Or_int.l0]) ?_
        exact Evt.neg (by simp [IntKind.wrap, IntKind.bits, IntKind.signed]) (.pure _)
      · exact Evt.pos (by simpa using hc) (.pure _)
    · rw [if_pos hb]; exact Evt.pos (by simpa using hb) (.pure _)
  · rw [if_pos ha]; exact Evt.pos (by simpa using ha) (.pure _)
theorem order1_ev (a b : ByteArray) (ha : a.size ≤ 1048576) (hb : b.size ≤ 1048576) : Evt (fun k => tree_Order_1.f k a b) (ord1 a b) := by
  simp only [tree_Order_1.f]
  exact Evt.bind (tree_part a ha) (Evt.bind (tree_part b hb) (Evt.bind (compare_ev _ _) (Evt.bind (cmpint_ev _ _) (Evt.bind (compare_ev _ _) (Evt.map (or_ev _ _ _))))))
theorem lists_loop (xs ys : List ByteArray) (hx : ∀ p ∈ xs, p.size ≤ 1048576) (hy : ∀ p ∈ ys, p.size ≤ 1048576) (lx : xs.length ≤ 2097152) (ly : ys.length ≤ 2097152) :
    ∀ (n i : Nat), xs.length - i = n → i ≤ xs.length → i ≤ ys.length → Evt (fun k => slices_CompareFunc_string__string_string_string.l0 k (i : Int) xs ys) (ordL ord1 (xs.drop i) (ys.drop i)) := by
  intro n
  induction n with
  | zero =>
    intro i h1 h2 h3
    refine Evt.succ (fun k => by rw [slices_CompareFunc_string__string_string_string.l0]) (Evt.neg (by simp; omega) ?_)
    rw [List.drop_eq_nil_of_le (by omega)]
    by_cases h : xs.length < ys.length
    · rw [List.drop_eq_getElem_cons (by omega : i < ys.length)]
      exact Evt.pos (by simpa using h) (.pure _)
    · rw [List.drop_eq_nil_of_le (by omega)]
      exact Evt.neg (by simpa using h) (.pure _)
  | succ n ih =>
    intro i h1 h2 h3
    have hi : i < xs.length := by omega
    refine Evt.succ (fun k => by rw [slices_CompareFunc_string__string_string_string.l0]) (Evt.pos (by simpa using hi) (Evt.some_bind (rd_lt hi) ?_))
    rw [List.drop_eq_getElem_cons hi]
    by_cases hj : i < ys.length
    · rw [List.drop_eq_getElem_cons hj, ordL]
      refine Evt.neg (by simp; omega) (Evt.some_bind (rd_lt hj) (Evt.bind (order1_ev _ _ (hx _ (List.getElem_mem hi)) (hy _ (List.getElem_mem hj))) ?_))
      unfold orI
      by_cases h0 : ord1 xs[i] ys[i] = 0
      · rw [if_neg (by simpa using h0), wrap_nat (by omega)]
        exact Evt.neg (by simpa using h0) (ih (i + 1) (by omega) (by omega) (by omega))
      · rw [if_pos h0]
        exact Evt.pos (by simpa using h0) (.pure _)
    · rw [(List.drop_eq_nil_of_le (by omega) : ys.drop i = []), ordL]
      exact Evt.pos (by simp; omega) (.pure _)
theorem tree_order (a b : ByteArray) (ha : a.size ≤ 1048576) (hb : b.size ≤ 1048576) : Evt (fun k => tree_Order.f k a b) (ordP a b) := by
  simp only [tree_Order.f, slices_CompareFunc_string__string_string_string.f]
  have la := splS_len a
  have lb := splS_len b
  refine Evt.bind (split_ev a ha) (Evt.bind (split_ev b hb) (Evt.map ?_))
  exact lists_loop (splS a) (splS b) (fun p hp => Nat.le_trans (splS_size a p hp) ha) (fun p hp => Nat.le_trans (splS_size b p hp) hb) (by omega) (by omega) _ 0 rfl (by omega) (by omega)
theorem clamp (d : Int) : (if (if d < 1 then d else 1) > (-1) then (if d < 1 then d else 1) else (-1)) = if d < 0 then -1 else if d > 0 then 1 else 0 := by
  by_cases h1 : d < 1
  · rw [if_pos h1]
    by_cases h2 : d < 0
    · rw [if_neg (by omega), if_pos h2]
    · rw [if_pos (by omega), if_neg h2, if_neg (by omega)]; omega
  · rw [if_neg h1, if_pos (by omega), if_neg (by omega), if_pos (by omega)]
theorem ref_loop (xs ys : List ByteArray) (hx : ∀ p ∈ xs, p.size ≤ 1048576) (hy : ∀ p ∈ ys, p.size ≤ 1048576) (lx : xs.length ≤ 2097152) (ly : ys.length ≤ 2097152) :
    ∀ (n i : Nat), xs.length - i = n → i ≤ xs.length → i ≤ ys.length → Evt (fun k => dossierref18_Order.l0 k (i : Int) xs ys) (ordL ord1 (xs.drop i) (ys.drop i)) := by
  have hw : IntKind.i64.wrap ((xs.length : Int) - (ys.length : Int)) = (xs.length : Int) - (ys.length : Int) := wrap_i64 (by omega) (by omega)
  intro n
  induction n with
  | zero =>
    intro i h1 h2 h3
    refine Evt.succ (fun k => by rw [dossierref18_Order.l0]) (Evt.neg (by simp; omega) ?_)
    rw [hw, clamp, (List.drop_eq_nil_of_le (by omega) : xs.drop i = [])]
    by_cases h : xs.length < ys.length
    · rw [List.drop_eq_getElem_cons (by omega : i < ys.length), ordL, if_pos (by omega)]
      exact .pure _
    · rw [(List.drop_eq_nil_of_le (by omega) : ys.drop i = []), ordL, if_neg (by omega), if_neg (by omega)]
      exact .pure _
  | succ n ih =>
    intro i h1 h2 h3
    have hi : i < xs.length := by omega
    refine Evt.succ (fun k => by rw [dossierref18_Order.l0]) (Evt.pos (by simpa using hi) ?_)
    rw [List.drop_eq_getElem_cons hi]
    by_cases hj : i < ys.length
    · have sx := hx _ (List.getElem_mem hi)
      have sy := hy _ (List.getElem_mem hj)
      rw [List.drop_eq_getElem_cons hj, ordL]
      refine Evt.pos (by simpa using hj) (Evt.some_bind (rd_lt hi) (Evt.bind (ref_part _ sx) (Evt.some_bind (rd_lt hj) (Evt.bind (ref_part _ sy) (Evt.bind (texts_ev _ _) ?_)))))
      unfold orI ord1 orI
      by_cases h0 : cmpS (partS xs[i]).1 (partS ys[i]).1 = 0
      · rw [if_neg (by simpa using h0) (c := cmpS (partS xs[i]).1 (partS ys[i]).1 ≠ 0)]
        refine Evt.neg (by simpa using h0) ?_
        by_cases h4 : cmpI (partS xs[i]).2 (partS ys[i]).2 = 0
        · have e := cmpI_zero h4
          refine Evt.neg (by simpa using e) (Evt.some_bind (rd_lt hi) (Evt.some_bind (rd_lt hj) (Evt.bind (texts_ev _ _) ?_)))
          rw [if_neg (by simpa using h4) (c := cmpI (partS xs[i]).2 (partS ys[i]).2 ≠ 0)]
          by_cases h5 : cmpS xs[i] ys[i] = 0
          · rw [if_neg (by simpa using h5), wrap_nat (by omega)]
            exact Evt.neg (by simpa using h5) (ih (i + 1) (by omega) (by omega) (by omega))
          · rw [if_pos h5]
            exact Evt.pos (by simpa using h5) (.pure _)
        · rw [if_pos (c := cmpI (partS xs[i]).2 (partS ys[i]).2 ≠ 0) h4, if_pos h4]
          have hne : (partS xs[i]).2 ≠ (partS ys[i]).2 := by
            intro he; apply h4; rw [he]; exact cmpI_lin.refl _
          refine Evt.pos (by simpa using hne) ?_
          unfold cmpI
          refine Evt.iteD (fun _ => .pure _) fun hlt => ?_
          rw [if_pos (by omega)]; exact .pure _
      · rw [if_pos (c := cmpS (partS xs[i]).1 (partS ys[i]).1 ≠ 0) h0, if_pos h0]
        exact Evt.pos (by simpa using h0) (.pure _)
    · refine Evt.neg (by simp; omega) ?_
      rw [hw, clamp, (List.drop_eq_nil_of_le (by omega) : ys.drop i = []), ordL, if_neg (by omega), if_pos (by omega)]
      exact .pure _
theorem ref_order (a b : ByteArray) (ha : a.size ≤ 1048576) (hb : b.size ≤ 1048576) : Evt (fun k => dossierref18_Order.f k a b) (ordP a b) := by
  simp only [dossierref18_Order.f]
  have la := splS_len a
  have lb := splS_len b
  refine Evt.bind (parts_ev a ha) (Evt.bind (parts_ev b hb) ?_)
  exact ref_loop (splS a) (splS b) (fun p hp => Nat.le_trans (splS_size a p hp) ha) (fun p hp => Nat.le_trans (splS_size b p hp) hb) (by omega) (by omega) _ 0 rfl (by omega) (by omega)
end Go.Abs.GenQ
