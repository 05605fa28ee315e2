import Derived.Test.YthdbbamkjmogfaaDoorPlSJ
set_option linter.unusedVariables false
set_option linter.unusedSimpArgs false
set_option linter.unnecessarySimpa false
set_option maxRecDepth 100000
set_option maxHeartbeats 4000000
namespace Go.Abs.GenS
open Go.Abs
theorem aw : (fun k => dossierlaw12_awake.f (k + 40)) = fun _ => some true := by kernel_rfl
theorem awake_ev : Evt (fun k => dossierlaw12_awake.f k) true := ⟨40, fun k hk => by
 have h : dossierlaw12_awake.f (k - 40 + 40) = some true := congrFun aw (k - 40)
 rwa [show k - 40 + 40 = k by omega] at h⟩
/-! ### a part told by its name and its number -/
theorem lastN_at (s : List Int) (x : Int) : ∀ n, (lastN s x n = -1 ∧ ∀ j, j < n → s[j]? ≠ some x) ∨ (∃ i, i < n ∧ lastN s x n = ((i : Nat) : Int) ∧ s[i]? = some x ∧ ∀ j, i < j → j < n → s[j]? ≠ some x)
 | 0 => .inl ⟨rfl, fun j h => by omega⟩
 | n + 1 => by
  unfold lastN
  by_cases h : s[n]? = some x
  ·rw [if_pos h]
   exact .inr ⟨n, by omega, rfl, h, fun j h1 h2 => by omega⟩
  ·rw [if_neg h]
   rcases lastN_at s x n with ⟨h1, h2⟩ | ⟨i, h1, h2, h3, h4⟩
   ·exact .inl ⟨h1, fun j hj => by
     rcases Nat.lt_or_ge j n with h5 | h5
     ·exact h2 j h5
     ·rwa [show j = n by omega]⟩
   ·exact .inr ⟨i, by omega, h2, h3, fun j h5 h6 => by
     rcases Nat.lt_or_ge j n with h7 | h7
     ·exact h4 j h5 h7
     ·rwa [show j = n by omega]⟩
theorem ok_bytes {s : ByteArray} (h : okS s = true) : bytesI s = bytesI (nameS s) ++ 35 :: textS (numbS s).1 := by
 unfold okS at h
 rw [Bool.and_eq_true, Bool.and_eq_true] at h
 obtain ⟨h1, h2, h3⟩ := h
 have hb := (numS_back (bytesI (tailS s)) (by rw [beq_iff_eq] at h2; exact h2)).1
 have hl := bytes_len s
 rcases lastN_at (bytesI s) 35 s.size with ⟨h4, _⟩ | ⟨i, h4, h5, h6, _⟩
 ·exfalso
  have ha : atS s = 0 := by unfold atS lastS; rw [h4]; rfl
  have : nameS s = (⟨#[]⟩ : ByteArray) := by
   unfold nameS; rw [ha]
   apply us_inj; rw [us_extract]; rfl
  rw [this, fits_empty] at h1
  cases h1
 ·have ha : atS s = i := by unfold atS lastS; rw [h5]; rfl
  have e1 : bytesI (nameS s) = (bytesI s).take i := by
   unfold nameS; rw [bytesI_extract, ha]; simp
  have e2 : textS (numbS s).1 = (bytesI s).drop (i + 1) := by
   unfold numbS; rw [hb]
   unfold tailS
   rw [bytesI_extract, ha, Nat.min_eq_left (by omega), List.take_of_length_le (by rw [List.length_drop]; omega)]
  rw [e1, e2]
  have hi : i < (bytesI s).length := by omega
  have h7 : (bytesI s)[i] = 35 := by rw [List.getElem?_eq_getElem hi] at h6; exact Option.some.inj h6
  rw [← h7, List.getElem_cons_drop, List.take_append_drop]
theorem ok_inj {s t : ByteArray} (hs : okS s = true) (ht : okS t = true) (h : (nameS s, (numbS s).1) = (nameS t, (numbS t).1)) : s = t := by
 apply bytesI_inj
 rw [ok_bytes hs, ok_bytes ht, (Prod.mk.inj h).1, (Prod.mk.inj h).2]
theorem map_inj_on {α β : Type} {f : α → β} : ∀ {xs ys : List α}, (∀ x ∈ xs, ∀ y ∈ ys, f x = f y → x = y) → xs.map f = ys.map f → xs = ys
 | [], [], _, _ => rfl
 | [], _ :: _, _, h => by simp at h
 | _ :: _, [], _, h => by simp at h
 | x :: xs, y :: ys, hf, h => by
  simp only [List.map_cons, List.cons.injEq] at h
  rw [hf x (by simp) y (by simp) h.1, map_inj_on (fun a ha b hb => hf a (by simp [ha]) b (by simp [hb])) h.2]
theorem lst_inj {a b : ByteArray} (ha : sh_ok a = true) (hb : sh_ok b = true) (h : lstS a = lstS b) : a = b := by
 rw [lst_eq, lst_eq] at h
 rw [sh_ok_all] at ha hb
 exact spl_inj (map_inj_on (fun x hx y hy e => ok_inj (List.all_eq_true.mp ha x hx) (List.all_eq_true.mp hb y hy) e) h)
theorem ordS_neg (a b : ByteArray) : ordS b a = - ordS a b := by
 unfold ordS
 by_cases h : sh_ok a = true ∧ sh_ok b = true
 ·rw [if_pos h, if_pos ⟨h.2, h.1⟩]; exact ordL_neg pcmp_lin _ _
 ·rw [if_neg h, if_neg (fun k => h ⟨k.2, k.1⟩)]; exact cmpS_lin.neg _ _
theorem ordS_zero {a b : ByteArray} (h : ordS a b = 0) : a = b := by
 unfold ordS at h
 split at h
 ·rename_i k; exact lst_inj k.1 k.2 (ordL_zero pcmp_zero _ _ h)
 ·exact cmpS_zero h
theorem ordS_refl (a : ByteArray) : ordS a a = 0 := by have := ordS_neg a a; omega
theorem ordS_val (a b : ByteArray) : ordS a b = -1 ∨ ordS a b = 0 ∨ ordS a b = 1 := by
 unfold ordS
 split
 ·exact ordL_val pcmp_val _ _
 ·exact cmpS_val _ _
/-! ### ShapeOrders -/
theorem orders_ev (a b : ByteArray) (ha : a.size ≤ 1048576) (hb : b.size ≤ 1048576) : Evt (fun k => dossierlaw12_ShapeOrders.f k a b) true := by
 simp only [dossierlaw12_ShapeOrders.f]
 have o1 := order_ev a b ha hb
 refine o1.bind ((reforder_ev a b ha hb).bind (Evt.pos (by simp) ((order_ev b a hb ha).bind (o1.bind (Evt.pos ?_ (o1.bind (Evt.pos ?_ awake_ev.map)))))))
 ·rw [ordS_neg a b, beq_iff_eq]
  rcases ordS_val a b with h | h | h <;> rw [h] <;> rfl
 ·rw [toList_us, beq_iff_eq]
  by_cases h : a = b
  ·subst h; rw [ordS_refl]; simp
  ·have h1 : ordS a b ≠ 0 := fun e => h (ordS_zero e)
   have h2 : us a ≠ us b := fun e => h (us_inj e)
   simp [h1, h2]
theorem orders_true (a b : ByteArray) (ha : a.size ≤ 1048576) (hb : b.size ≤ 1048576) : ∃ k, dossierlaw12_ShapeOrders.f k a b = some true := (orders_ev a b ha hb).get
/-! ### ShapeWay -/
theorem spl_app : ∀ (l cur r : List UInt8), splA cur (l ++ 46 :: r) = splA cur l ++ splA [] r
 | [], cur, r => by simp [splA]
 | x :: l, cur, r => by
  rw [List.cons_append, splA, splA]
  by_cases h : x = 46
  ·rw [if_pos h, if_pos h, spl_app l [] r, List.cons_append]
  ·rw [if_neg h, if_neg h, spl_app l _ r]
def x1 : ByteArray := ⟨#[120, 35, 49]⟩
theorem x1_piece : pieceS x1 = ((⟨#[120]⟩ : ByteArray), 1, true) := by decide +kernel
theorem x1_spl : splA [] (us x1) = [x1] := by decide +kernel
theorem text1 : textS 1 = [49] := by rw [textS, if_neg (by decide)]; exact dig_lt (by decide)
theorem ordL_snoc {α : Type} {f : α → α → Int} (h : Lin f) (p : α) : ∀ xs, ordL f xs (xs ++ [p]) = -1
 | [] => rfl
 | x :: xs => by rw [List.cons_append, ordL, h.refl, orI, if_neg (by simp), ordL_snoc h p xs]
def joinX (a : ByteArray) : ByteArray := (a ++ (⟨#[46]⟩ : ByteArray)) ++ (((⟨#[120]⟩ : ByteArray) ++ (⟨#[35]⟩ : ByteArray)) ++ ofNums (textS 1))
theorem joinX_us (a : ByteArray) : us (joinX a) = us a ++ 46 :: us x1 := by
 unfold joinX
 rw [text1]
 simp only [us_app]
 simp [us, x1, ofNums]
theorem joinX_size (a : ByteArray) : (joinX a).size = a.size + 4 := by
 rw [← us_len, joinX_us, List.length_append, us_len]; rfl
theorem joinX_spl (a : ByteArray) : splS (joinX a) = splS a ++ [x1] := by
 rw [splS, joinX_us, spl_app, x1_spl, splS]
theorem ok_ne {a : ByteArray} (h : sh_ok a = true) : a ≠ (⟨#[]⟩ : ByteArray) := by
 intro e
 subst e
 revert h
 decide +kernel
theorem join_ev {a : ByteArray} (ha : a.size ≤ 1048572) (h : sh_ok a = true) : Evt (fun k => shape_Join.f k a (⟨#[120]⟩ : ByteArray) 1) (joinX a) := by
 simp only [shape_Join.f]
 have hx : (ofNums (textS 1)).size = 1 := by rw [text1]; rfl
 have h46 : (⟨#[46]⟩ : ByteArray).size = 1 := rfl
 have h35 : (⟨#[35]⟩ : ByteArray).size = 1 := rfl
 have h120 : (⟨#[120]⟩ : ByteArray).size = 1 := rfl
 have hne : ¬ (a.toList == (⟨#[]⟩ : ByteArray).toList) = true := by
  rw [toList_us, decide_eq_true_eq]
  exact fun e => ok_ne h (us_inj e)
 refine Evt.pos (by simp only [decide_eq_true_eq]; omega) ((text_ev 1 (by decide) (by decide)).bind (Evt.pos (by simp only [decide_eq_true_eq, ByteArray.size_append]; omega) (Evt.neg hne (Evt.pos (by simp only [decide_eq_true_eq]; omega) (Evt.pos (by simp only [decide_eq_true_eq, ByteArray.size_append]; omega) ?_)))))
 exact .pure _
theorem way_order {a : ByteArray} (h : sh_ok a = true) : ordS a (joinX a) = -1 := by
 have h1 : sh_ok (joinX a) = true := by
  have hx : okS x1 = true := congrArg (fun p : Piece => p.2.2) x1_piece
  rw [sh_ok_all, joinX_spl, List.all_append, ← sh_ok_all, h]
  simp [hx]
 have h2 : lstS (joinX a) = lstS a ++ [(nameS x1, (numbS x1).1)] := by rw [lst_eq, lst_eq, joinX_spl, List.map_append]; rfl
 unfold ordS
 rw [if_pos ⟨h, h1⟩, h2]
 exact ordL_snoc pcmp_lin _ _
theorem way_end (a b c : ByteArray) (ha : a.size ≤ 1048572) (hb : b.size ≤ 1048576) (hc : c.size ≤ 1048576) (oa : sh_ok a = true) (ob : sh_ok b = true) (oc : sh_ok c = true) (n : Nat) (hn : n = 3) : Evt (fun k => dossierlaw12_ShapeWay.l0 k (n : Int) a b c) true := by
 have hj : (joinX a).size ≤ 1048576 := by rw [joinX_size]; omega
 have fin : Evt (fun k => (shape_Join.f k a (⟨#[120]⟩ : ByteArray) 1).bind fun r14 => (shape_Order.f k a r14).bind fun r15 => if (r15 == (-1)) = true then ((dossierlaw12_awake.f k).bind fun r17 => some r17) else (some false)) true := by
  refine (join_ev ha oa).bind ((order_ev a (joinX a) (by omega) hj).bind ?_)
  rw [way_order oa]
  exact Evt.pos rfl awake_ev.map
 subst hn
 refine Evt.succ (fun k => by rw [dossierlaw12_ShapeWay.l0]) (Evt.neg (by simp) ((order_ev a b (by omega) hb).bind ?_))
 by_cases h1 : ordS a b ≤ 0
 ·refine Evt.pos (by simpa using h1) ((order_ev b c hb hc).bind ?_)
  by_cases h2 : ordS b c ≤ 0
  ·have h3 : ordS a c ≤ 0 := by
    unfold ordS at h1 h2 ⊢
    rw [if_pos ⟨oa, ob⟩] at h1
    rw [if_pos ⟨ob, oc⟩] at h2
    rw [if_pos ⟨oa, oc⟩]
    exact ordL_tr pcmp_lin _ _ _ h1 h2
   exact Evt.pos (by simpa using h2) ((order_ev a c (by omega) hc).bind (Evt.neg (by simp; omega) fin))
  ·exact Evt.neg (by simpa using h2) fin
 ·exact Evt.neg (by simpa using h1) fin
theorem way_ev (a b c : ByteArray) (hb : a.size + b.size + c.size + 3 ≤ 1048576) : Evt (fun k => dossierlaw12_ShapeWay.f k a b c) true := by
 simp only [dossierlaw12_ShapeWay.f]
 have step : ∀ (n : Nat) (v : ByteArray), ([a, b, c] : List ByteArray)[n]? = some v → v.size ≤ 1048576 → (sh_ok v = true → Evt (fun k => dossierlaw12_ShapeWay.l0 k ((n + 1 : Nat) : Int) a b c) true) → Evt (fun k => dossierlaw12_ShapeWay.l0 k (n : Int) a b c) true := by
  intro n v hv hs next
  have hn : n < 3 := (List.getElem?_eq_some_iff.mp hv).1
  refine Evt.succ (fun k => by rw [dossierlaw12_ShapeWay.l0]) ?_
  refine Evt.pos (by simp; omega) ?_
  refine Evt.some_bind (a := v) (by rw [rd_nat]; exact hv) ?_
  refine (refbase_ev v hs).bind ?_
  rw [sh_base2]
  cases h : sh_ok v with
  | false => exact Evt.neg (by decide) awake_ev.map
  | true =>
   refine Evt.pos rfl ?_
   rw [wrap_nat (by omega)]
   exact next h
 refine step 0 a rfl (by omega) fun oa => step 1 b rfl (by omega) fun ob => step 2 c rfl (by omega) fun oc => ?_
 have hb1 : b.size ≠ 0 := fun e => ok_ne ob (us_inj (List.length_eq_zero_iff.mp ((us_len b).trans e)))
 exact way_end a b c (by omega) (by omega) (by omega) oa ob oc 3 rfl
theorem way_true (a b c : ByteArray) (hb : a.size + b.size + c.size + 3 ≤ 1048576) : ∃ k, dossierlaw12_ShapeWay.f k a b c = some true := (way_ev a b c hb).get
/-! ### ShapePaths -/
theorem spl_none : ∀ (l cur : List UInt8), 46 ∉ l → splA cur l = [ofU (cur ++ l)]
 | [], cur, _ => by rw [splA, List.append_nil]
 | x :: l, cur, h => by
  have h1 : x ≠ 46 := fun e => h (by simp [e])
  rw [splA, if_neg h1, spl_none l (cur ++ [x]) (fun e => h (by simp [e]))]
  simp
theorem bytes_46 (s : ByteArray) (j : Nat) : (bytesI s)[j]? = some 46 ↔ (us s)[j]? = some 46 := by
 rw [bytes_us, List.getElem?_map]
 cases h : (us s)[j]? with
 | none => simp
 | some b =>
  simp only [Option.map_some, Option.some.injEq]
  constructor
  ·intro e
   exact UInt8.toNat_inj.mp (by have : (46 : UInt8).toNat = 46 := rfl; omega)
  ·intro e; subst e; rfl
def lastTxt (doc : ByteArray) : ByteArray := doc.extract (lastS doc 46 + 1).toNat doc.size
theorem spl_last (doc : ByteArray) : ∃ P, splS doc = P ++ [lastTxt doc] := by
 have hl := us_len doc
 have hu : us (lastTxt doc) = (us doc).drop (lastS doc 46 + 1).toNat := by
  unfold lastTxt
  rw [us_extract, List.take_of_length_le (by rw [List.length_drop]; omega)]
 rcases lastN_at (bytesI doc) 46 doc.size with ⟨h1, h2⟩ | ⟨i, h1, h2, h3, h4⟩
 ·have e : lastS doc 46 = -1 := h1
  rw [e] at hu
  refine ⟨[], ?_⟩
  rw [splS, spl_none _ _ (fun hm => by
   obtain ⟨j, hj⟩ := List.mem_iff_getElem?.mp hm
   have : j < doc.size := by have := (List.getElem?_eq_some_iff.mp hj).1; omega
   exact h2 j this ((bytes_46 doc j).mpr hj)), List.nil_append, List.nil_append]
  rw [← ofU_us (lastTxt doc), hu]; rfl
 ·have e : lastS doc 46 = (i : Int) := h2
  rw [e, show ((i : Int) + 1).toNat = i + 1 by omega] at hu
  have hi : i < (us doc).length := by omega
  have h5 : (us doc)[i] = 46 := by
   have := (bytes_46 doc i).mp h3
   rw [List.getElem?_eq_getElem hi] at this
   exact Option.some.inj this
  have h6 : us doc = (us doc).take i ++ 46 :: (us doc).drop (i + 1) := by
   rw [← h5, List.getElem_cons_drop, List.take_append_drop]
  refine ⟨splA [] ((us doc).take i), ?_⟩
  have h7 : splS doc = splA [] ((us doc).take i ++ 46 :: (us doc).drop (i + 1)) := by rw [← h6]; rfl
  rw [h7, spl_app, spl_none ((us doc).drop (i + 1)) [] (fun hm => by
   obtain ⟨j, hj⟩ := List.mem_iff_getElem?.mp hm
   rw [List.getElem?_drop] at hj
   have : i + 1 + j < doc.size := by have := (List.getElem?_eq_some_iff.mp hj).1; omega
   exact h4 (i + 1 + j) (by omega) this ((bytes_46 doc _).mpr hj)), List.nil_append]
  rw [← ofU_us (lastTxt doc), hu]
theorem reflast_ev (doc : ByteArray) (hd : doc.size ≤ 1048576) : Evt (fun k => dossierref12_Last.f k doc) (sh_last doc) := by
 simp only [dossierref12_Last.f]
 obtain ⟨h0, h1⟩ := lastS_ge doc 46
 refine (refbase_ev doc hd).bind ?_
 rw [sh_base2]
 unfold sh_last
 cases h : sh_ok doc with
 | false =>
  rw [if_neg (by decide)]
  exact Evt.neg (by decide) (.pure _)
 | true =>
  rw [if_pos rfl]
  refine Evt.pos rfl ((ref_last doc 46 hd).bind ?_)
  have hw : IntKind.i64.wrap (lastS doc 46 + 1) = lastS doc 46 + 1 := wrap_i64 (by omega) (by omega)
  rw [hw]
  refine Evt.pos (by simp; omega) ?_
  have hle : (lastTxt doc).size ≤ 1048576 := Nat.le_trans (size_extract_le _ _ _) hd
  obtain ⟨P, hP⟩ := spl_last doc
  have hok : okS (lastTxt doc) = true := by
   rw [sh_ok_all, hP] at h
   exact List.all_eq_true.mp h _ (by simp)
  have := part_ev (lastTxt doc) hle
  rw [partR_ok hok] at this
  refine this.bind ?_
  have e : lastP (piecesS doc) ((⟨#[]⟩ : ByteArray), 0) = ((pieceS (lastTxt doc)).1, (pieceS (lastTxt doc)).2.1) := by
   rw [piecesS, hP, List.map_append]
   exact lastP_snoc _ _ _
  rw [e]
  exact .pure _
theorem cut_ok (s : ByteArray) : (decide (0 ≤ 0 ∧ 0 ≤ (if lastS s 46 > 0 then lastS s 46 else 0) ∧ (if lastS s 46 > 0 then lastS s 46 else 0) ≤ (s.size : Int))) = true := by
 obtain ⟨h0, h1⟩ := lastS_ge s 46
 rw [decide_eq_true_eq]
 split <;> omega
theorem up_ev (s : ByteArray) (hs : s.size ≤ 1048576) : Evt (fun k => shape_Up.f k s) (s.extract 0 (if lastS s 46 > 0 then lastS s 46 else 0).toNat) := by
 simp only [shape_Up.f]
 exact (lib_last s 46 hs).bind (Evt.pos (cut_ok s) (.pure _))
theorem refup_ev (s : ByteArray) (hs : s.size ≤ 1048576) : Evt (fun k => dossierref12_Up.f k s) (s.extract 0 (if lastS s 46 > 0 then lastS s 46 else 0).toNat) := by
 simp only [dossierref12_Up.f]
 exact (ref_last s 46 hs).bind (Evt.pos (cut_ok s) (.pure _))
theorem textS_size (n : Int) (h0 : -9223372036854775808 ≤ n) (h1 : n ≤ 9223372036854775807) : (ofNums (textS n)).size ≤ 20 := by
 rw [size_ofNums]
 have := dig_i64 h0 h1
 unfold textS
 split
 ·rw [List.length_cons, show (-n).toNat = n.natAbs by omega]; omega
 ·rw [show n.toNat = n.natAbs by omega]; omega
theorem joins_ev (a s : ByteArray) (n : Int) (ha : a.size ≤ 1048576) (hs : s.size ≤ 1048576) (h0 : -9223372036854775808 ≤ n) (h1 : n ≤ 9223372036854775807) : ∃ r, Evt (fun k => shape_Join.f k a s n) r ∧ Evt (fun k => dossierref12_Join.f k a s n) r := by
 have ht := textS_size n h0 h1
 have h46 : (⟨#[46]⟩ : ByteArray).size = 1 := rfl
 have h35 : (⟨#[35]⟩ : ByteArray).size = 1 := rfl
 have ev : ∀ T : Nat → Option ByteArray, Evt T (ofNums (textS n)) → Evt (fun k => if (decide (s.size + (⟨#[35]⟩ : ByteArray).size ≤ 9223372036854775807)) = true then ((T k).bind fun r2 => if (decide ((s ++ (⟨#[35]⟩ : ByteArray)).size + r2.size ≤ 9223372036854775807)) = true then (if (a.toList == (⟨#[]⟩ : ByteArray).toList) = true then (some ((s ++ (⟨#[35]⟩ : ByteArray)) ++ r2)) else (if (decide (a.size + (⟨#[46]⟩ : ByteArray).size ≤ 9223372036854775807)) = true then (if (decide ((a ++ (⟨#[46]⟩ : ByteArray)).size + ((s ++ (⟨#[35]⟩ : ByteArray)) ++ r2).size ≤ 9223372036854775807)) = true then (some ((a ++ (⟨#[46]⟩ : ByteArray)) ++ ((s ++ (⟨#[35]⟩ : ByteArray)) ++ r2))) else none) else none)) else none) else none)
   (if (a.toList == (⟨#[]⟩ : ByteArray).toList) = true then ((s ++ (⟨#[35]⟩ : ByteArray)) ++ ofNums (textS n)) else ((a ++ (⟨#[46]⟩ : ByteArray)) ++ ((s ++ (⟨#[35]⟩ : ByteArray)) ++ ofNums (textS n)))) := by
  intro T hT
  refine Evt.pos (by simp only [decide_eq_true_eq]; omega) (hT.bind (Evt.pos (by simp only [decide_eq_true_eq, ByteArray.size_append]; omega) ?_))
  exact Evt.ite (fun _ => .pure _) fun _ => Evt.pos (by simp only [decide_eq_true_eq]; omega) (Evt.pos (by simp only [decide_eq_true_eq, ByteArray.size_append]; omega) (.pure _))
 refine ⟨(if (a.toList == (⟨#[]⟩ : ByteArray).toList) = true then ((s ++ (⟨#[35]⟩ : ByteArray)) ++ ofNums (textS n)) else ((a ++ (⟨#[46]⟩ : ByteArray)) ++ ((s ++ (⟨#[35]⟩ : ByteArray)) ++ ofNums (textS n)))), ?_, ?_⟩
 ·simp only [shape_Join.f]; exact ev _ (text_ev n h0 h1)
 ·simp only [dossierref12_Join.f]; exact ev _ (reftext_ev n.natAbs n (Nat.le_refl _) h0 h1)
theorem paths_ev (doc s : ByteArray) (n : Int) (hd : doc.size ≤ 1048576) (hs : s.size ≤ 1048576) (h0 : -9223372036854775808 ≤ n) (h1 : n ≤ 9223372036854775807) : Evt (fun k => dossierlaw12_ShapePaths.f k doc s n) true := by
 simp only [dossierlaw12_ShapePaths.f]
 obtain ⟨r, j1, j2⟩ := joins_ev doc s n hd hs h0 h1
 refine Evt.pos (by simpa using hd) ((refbase_ev doc hd).bind ((reflast_ev doc hd).bind (Evt.pos (by simp) (Evt.pos (by simp) (Evt.pos (by simp) (Evt.pos (by simp) ?_))))))
 exact (up_ev doc hd).bind ((refup_ev doc hd).bind (Evt.pos (by simp) (j1.bind (j2.bind (Evt.pos (by simp) awake_ev.map)))))
theorem paths_true (doc s : ByteArray) (n : Int) (hd : doc.size ≤ 1048576) (hs : s.size ≤ 1048576) (h0 : -9223372036854775808 ≤ n) (h1 : n ≤ 9223372036854775807) : ∃ k, dossierlaw12_ShapePaths.f k doc s n = some true := (paths_ev doc s n hd hs h0 h1).get
end Go.Abs.GenS
