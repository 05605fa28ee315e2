import Derived.Test.YthdbbamkjmogfaaDoorPlSI
set_option linter.unusedVariables false
set_option linter.unusedSimpArgs false
set_option linter.unnecessarySimpa false
set_option maxRecDepth 100000
set_option maxHeartbeats 4000000
namespace Go.Abs.GenS
open Go.Abs
/-! ### the base, by the reference -/
def foldB : Nat → ByteArray → List ByteArray → ByteArray
 | _, out, [] => out
 | i, out, s :: t => foldB (i + 1) (if i > 0 then (out ++ (⟨#[46]⟩ : ByteArray)) ++ nameS s else out ++ nameS s) t
theorem us_app (s t : ByteArray) : us (s ++ t) = us s ++ us t := by simp [us]
theorem foldB_us : ∀ (suf : List ByteArray) (i : Nat) (out : ByteArray), us (foldB (i + 1) out suf) = us out ++ Lib.joinTail [46] (suf.map fun s => us (nameS s))
 | [], i, out => by simp [foldB, Lib.joinTail]
 | s :: t, i, out => by
  rw [foldB, if_pos (by omega), foldB_us t (i + 1), us_app, us_app]
  simp [Lib.joinTail, us]
theorem sh_ok_all (doc : ByteArray) : sh_ok doc = (splS doc).all okS := by
 rw [sh_ok, piecesS, List.all_map]; rfl
theorem refbase_loop (L : List ByteArray) (hL : ∀ p ∈ L, p.size ≤ 1048576) (hn : L.length ≤ 1048577) : ∀ (suf pre : List ByteArray) (out : ByteArray), L = pre ++ suf → out.size ≤ pre.length * 1048577 →
  Evt (fun k => dossierref12_Base.l0 k out (pre.length : Int) L) (if suf.all okS = true then (foldB pre.length out suf, true) else ((⟨#[]⟩ : ByteArray), false)) := by
 intro suf
 induction suf with
 | nil =>
  intro pre out hx hs
  refine Evt.succ (fun k => by rw [dossierref12_Base.l0]) (Evt.neg (by simp [hx]) ?_)
  exact .pure _
 | cons s t ih =>
  intro pre out hx hs
  have hlt : pre.length < L.length := by rw [hx]; simp
  have hsz : s.size ≤ 1048576 := hL s (by rw [hx]; simp)
  have hv : L[pre.length]? = some s := by rw [hx]; simp
  have hnm : (nameS s).size ≤ 1048576 := Nat.le_trans (size_extract_le _ _ _) hsz
  have hpl : pre.length * 1048577 ≤ 1048577 * 1048577 := Nat.mul_le_mul_right _ (by omega)
  have s46 : (⟨#[46]⟩ : ByteArray).size = 1 := rfl
  refine Evt.succ (fun k => by rw [dossierref12_Base.l0]) ?_
  refine Evt.pos (by simpa using hlt) ?_
  refine Evt.some_bind (a := s) (by rw [rd_nat]; exact hv) ?_
  refine (part_ev s hsz).bind ?_
  rw [List.all_cons]
  cases hok : okS s with
  | false =>
   rw [Bool.false_and, if_neg (by decide)]
   exact Evt.neg (by rw [partR_bad hok]; decide) (.pure _)
  | true =>
   rw [Bool.true_and, partR_ok hok]
   have hp : (pieceS s).2.2 = true := hok
   have hp1 : (pieceS s).1 = nameS s := rfl
   refine Evt.pos hp ?_
   rw [hp1, wrap_nat (by omega)]
   have hx' : L = (pre ++ [s]) ++ t := by rw [hx]; simp
   by_cases h0 : pre.length > 0
   ·have next := ih (pre ++ [s]) ((out ++ (⟨#[46]⟩ : ByteArray)) ++ nameS s) hx' (by rw [ByteArray.size_append, ByteArray.size_append, List.length_append, Nat.add_mul, s46]; simp only [List.length_singleton]; omega)
    rw [List.length_append, List.length_singleton] at next
    rw [foldB, if_pos h0]
    exact Evt.pos (by simpa using h0) (Evt.pos (by simp only [decide_eq_true_eq]; omega) (Evt.pos (by simp only [decide_eq_true_eq, ByteArray.size_append]; omega) next))
   ·have next := ih (pre ++ [s]) (out ++ nameS s) hx' (by rw [ByteArray.size_append, List.length_append, Nat.add_mul]; simp only [List.length_singleton]; omega)
    rw [List.length_append, List.length_singleton] at next
    rw [foldB, if_neg h0]
    exact Evt.neg (by simpa using h0) (Evt.pos (by simp only [decide_eq_true_eq]; omega) next)
theorem refbase_ev (doc : ByteArray) (hd : doc.size ≤ 1048576) : Evt (fun k => dossierref12_Base.f k doc) (sh_base doc) := by
 simp only [dossierref12_Base.f]
 refine (parts_ev doc hd).bind ?_
 have hl := splS_len doc
 have := refbase_loop (splS doc) (fun p hp => Nat.le_trans (splS_size doc p hp) hd) (by omega) (splS doc) [] (⟨#[]⟩ : ByteArray) rfl (Nat.zero_le _)
 rw [← sh_ok_all] at this
 have e : sh_base doc = if sh_ok doc = true then (foldB 0 (⟨#[]⟩ : ByteArray) (splS doc), true) else ((⟨#[]⟩ : ByteArray), false) := by
  unfold sh_base
  by_cases h : sh_ok doc = true
  ·rw [if_pos h, if_pos h]
   congr 1
   obtain ⟨p, ps, hp⟩ : ∃ p ps, splS doc = p :: ps := by
    cases hc : splS doc with
    | nil => exact absurd hc (splS_ne doc)
    | cons p ps => exact ⟨p, ps, rfl⟩
   rw [piecesS, hp, foldB, if_neg (by omega)]
   apply us_inj
   rw [us_ofU, foldB_us, us_app, List.map_cons, List.map_cons, Lib.join_cons, List.map_map]
   rfl
  ·rw [if_neg h, if_neg h]
 rw [e]
 exact this
/-! ### the order -/
def pcmp (p q : ByteArray × Int) : Int := orI (cmpS p.1 q.1) (cmpI p.2 q.2)
theorem pcmp_lin : Lin pcmp := (cmpS_lin.on Prod.fst).lex (cmpI_lin.on Prod.snd)
theorem pcmp_zero (p q : ByteArray × Int) (h : pcmp p q = 0) : p = q := by
 unfold pcmp orI at h
 by_cases h1 : cmpS p.1 q.1 = 0
 ·rw [if_neg (by simpa using h1)] at h
  exact Prod.ext (cmpS_zero h1) (cmpI_zero h)
 ·rw [if_pos h1] at h; exact absurd h h1
theorem pcmp_val (p q : ByteArray × Int) : pcmp p q = -1 ∨ pcmp p q = 0 ∨ pcmp p q = 1 := by
 unfold pcmp orI
 split
 ·exact cmpS_val _ _
 ·exact cmpI_val _ _
theorem ordL_val {α : Type} {f : α → α → Int} (h : ∀ a b, f a b = -1 ∨ f a b = 0 ∨ f a b = 1) : ∀ a b, ordL f a b = -1 ∨ ordL f a b = 0 ∨ ordL f a b = 1
 | [], [] => by simp [ordL]
 | [], _ :: _ => by simp [ordL]
 | _ :: _, [] => by simp [ordL]
 | x :: xs, y :: ys => by
  rw [ordL]
  unfold orI
  split
  ·exact h _ _
  ·exact ordL_val h xs ys
def lstS (doc : ByteArray) : List (ByteArray × Int) := (piecesS doc).map fun p => (p.1, p.2.1)
def ordS (a b : ByteArray) : Int := if sh_ok a = true ∧ sh_ok b = true then ordL pcmp (lstS a) (lstS b) else cmpS a b
theorem or2_ev (a b : Int) : Evt (fun k => cmp_Or_int.f k ([a, b] : List Int)) (orI a b) := by
 simp only [cmp_Or_int.f, orI]
 refine Evt.succ (fun k => by rw [cmp_Or_int.l0]) ?_
 refine Evt.pos rfl ?_
 refine Evt.some_bind (a := a) rfl ?_
 by_cases ha : a = 0
 ·subst ha
  refine Evt.neg (by simp) ?_
  rw [if_neg (by simp)]
  refine Evt.succ (fun k => by rw [cmp_Or_int.l0]) ?_
  refine Evt.pos rfl ?_
  refine Evt.some_bind (a := b) rfl ?_
  by_cases hb : b = 0
  ·subst hb
   refine Evt.neg (by simp) ?_
   refine Evt.succ (fun k => by rw [cmp_Or_int.l0]) ?_
   exact Evt.neg (by simp [IntKind.wrap, IntKind.bits, IntKind.signed]) (.pure _)
  ·exact Evt.pos (by simpa using hb) (.pure _)
 ·rw [if_pos ha]; exact Evt.pos (by simpa using ha) (.pure _)
theorem order1_ev (a b : shape_piece) : Evt (fun k => shape_Order_1.f k a b) (pcmp (a.name, a.number) (b.name, b.number)) := by
 simp only [shape_Order_1.f]
 exact (compare_ev _ _).bind ((cmpint_ev _ _).bind (or2_ev _ _).map)
theorem lists_loop (xs ys : List (ByteArray × Int)) (lx : xs.length ≤ 2097152) (ly : ys.length ≤ 2097152) :
  ∀ (n i : Nat), xs.length - i = n → i ≤ xs.length → i ≤ ys.length → Evt (fun k => slices_CompareFunc_shape_piece_shape_piece_shape_piece_shape_piece.l0 k (i : Int) (xs.map fun p => (⟨p.1, p.2⟩ : shape_piece)) (ys.map fun p => (⟨p.1, p.2⟩ : shape_piece))) (ordL pcmp (xs.drop i) (ys.drop i)) := by
 intro n
 have ex : (xs.map fun p => (⟨p.1, p.2⟩ : shape_piece)).length = xs.length := List.length_map _
 have ey : (ys.map fun p => (⟨p.1, p.2⟩ : shape_piece)).length = ys.length := List.length_map _
 induction n with
 | zero =>
  intro i h1 h2 h3
  refine Evt.succ (fun k => by rw [slices_CompareFunc_shape_piece_shape_piece_shape_piece_shape_piece.l0]) (Evt.neg (by rw [ex]; simp; omega) ?_)
  rw [List.drop_eq_nil_of_le (by omega), ex, ey]
  by_cases h : xs.length < ys.length
  ·rw [List.drop_eq_getElem_cons (by omega : i < ys.length)]
   exact Evt.pos (by simpa using h) (.pure _)
  ·rw [List.drop_eq_nil_of_le (by omega)]
   exact Evt.neg (by simpa using h) (.pure _)
 | succ n ih =>
  intro i h1 h2 h3
  have hi : i < xs.length := by omega
  refine Evt.succ (fun k => by rw [slices_CompareFunc_shape_piece_shape_piece_shape_piece_shape_piece.l0]) (Evt.pos (by rw [ex]; simpa using hi) (Evt.some_bind (a := (⟨xs[i].1, xs[i].2⟩ : shape_piece)) (by rw [rd_nat, List.getElem?_map, List.getElem?_eq_getElem hi]; rfl) ?_))
  rw [List.drop_eq_getElem_cons hi]
  by_cases hj : i < ys.length
  ·rw [List.drop_eq_getElem_cons hj, ordL]
   refine Evt.neg (by rw [ey]; simp; omega) (Evt.some_bind (a := (⟨ys[i].1, ys[i].2⟩ : shape_piece)) (by rw [rd_nat, List.getElem?_map, List.getElem?_eq_getElem hj]; rfl) ((order1_ev _ _).bind ?_))
   unfold orI
   by_cases h0 : pcmp xs[i] ys[i] = 0
   ·rw [if_neg (by simpa using h0), wrap_nat (by omega)]
    exact Evt.neg (by simpa using h0) (ih (i + 1) (by omega) (by omega) (by omega))
   ·rw [if_pos h0]
    exact Evt.pos (by simpa using h0) (.pure _)
  ·rw [(List.drop_eq_nil_of_le (by omega) : ys.drop i = []), ordL]
   exact Evt.pos (by rw [ey]; simp; omega) (.pure _)
theorem lst_len (doc : ByteArray) : (lstS doc).length ≤ doc.size + 1 := by
 rw [lstS, piecesS, List.length_map, List.length_map]; exact splS_len doc
theorem order_ev (a b : ByteArray) (ha : a.size ≤ 1048576) (hb : b.size ≤ 1048576) : Evt (fun k => shape_Order.f k a b) (ordS a b) := by
 simp only [shape_Order.f]
 have la := lst_len a
 have lb := lst_len b
 refine Evt.pos (by simpa using ha) (Evt.pos (by simpa using hb) ?_)
 unfold ordS sh_list
 cases h1 : sh_ok a with
 | false => simp only [Bool.false_eq_true, if_false, false_and]; exact (compare_ev a b).map
 | true =>
  cases h2 : sh_ok b with
  | false => simp only [Bool.false_eq_true, if_false, if_true, and_false]; exact (compare_ev a b).map
  | true =>
   simp only [if_true, and_self, slices_CompareFunc_shape_piece_shape_piece_shape_piece_shape_piece.f]
   exact Evt.map (lists_loop (lstS a) (lstS b) (by omega) (by omega) _ 0 rfl (by omega) (by omega))
theorem clamp (d : Int) : (if (if d > (-1) then d else (-1)) < 1 then (if d > (-1) then d else (-1)) else 1) = if d < 0 then -1 else if d > 0 then 1 else 0 := by
 by_cases h1 : d > -1
 ·rw [if_pos h1]
  by_cases h2 : d < 1
  ·rw [if_pos h2, if_neg (by omega), if_neg (by omega)]; omega
  ·rw [if_neg h2, if_neg (by omega), if_pos (by omega)]
 ·rw [if_neg h1, if_pos (by omega), if_pos (by omega)]
theorem refo_loop (xs ys : List ByteArray) (hx : ∀ p ∈ xs, p.size ≤ 1048576) (hy : ∀ p ∈ ys, p.size ≤ 1048576) (ox : ∀ p ∈ xs, okS p = true) (oy : ∀ p ∈ ys, okS p = true) (lx : xs.length ≤ 2097152) (ly : ys.length ≤ 2097152) :
  ∀ (n i : Nat), xs.length - i = n → i ≤ xs.length → i ≤ ys.length → Evt (fun k => dossierref12_Order.l0 k (i : Int) xs ys) (ordL pcmp ((xs.drop i).map fun s => (nameS s, (numbS s).1)) ((ys.drop i).map fun s => (nameS s, (numbS s).1))) := by
 have hw : IntKind.i64.wrap ((xs.length : Int) - (ys.length : Int)) = (xs.length : Int) - (ys.length : Int) := wrap_i64 (by omega) (by omega)
 intro n
 induction n with
 | zero =>
  intro i h1 h2 h3
  refine Evt.succ (fun k => by rw [dossierref12_Order.l0]) (Evt.neg (by simp; omega) ?_)
  rw [hw, clamp, (List.drop_eq_nil_of_le (by omega) : xs.drop i = []), List.map_nil]
  by_cases h : xs.length < ys.length
  ·rw [List.drop_eq_getElem_cons (by omega : i < ys.length), List.map_cons, ordL, if_pos (by omega)]
   exact .pure _
  ·rw [(List.drop_eq_nil_of_le (by omega) : ys.drop i = []), List.map_nil, ordL, if_neg (by omega), if_neg (by omega)]
   exact .pure _
 | succ n ih =>
  intro i h1 h2 h3
  have hi : i < xs.length := by omega
  refine Evt.succ (fun k => by rw [dossierref12_Order.l0]) (Evt.pos (by simpa using hi) ?_)
  rw [List.drop_eq_getElem_cons hi, List.map_cons]
  by_cases hj : i < ys.length
  ·have sx := hx _ (List.getElem_mem hi)
   have sy := hy _ (List.getElem_mem hj)
   rw [List.drop_eq_getElem_cons hj, List.map_cons, ordL]
   refine Evt.pos (by simpa using hj) (Evt.some_bind (rd_lt hi) (Evt.bind (part_ev _ sx) (Evt.some_bind (rd_lt hj) (Evt.bind (part_ev _ sy) ?_))))
   rw [partR_ok (ox _ (List.getElem_mem hi)), partR_ok (oy _ (List.getElem_mem hj))]
   dsimp only [pieceS]
   unfold pcmp orI
   by_cases h0 : cmpS (nameS xs[i]) (nameS ys[i]) = 0
   ·have e := cmpS_zero h0
    refine Evt.pos (by rw [e]; simp) ?_
    simp only [h0, ne_eq, not_true_eq_false, if_false]
    unfold cmpI
    by_cases h4 : (numbS xs[i]).1 < (numbS ys[i]).1
    ·simp only [h4, if_true]
     exact Evt.pos (by simp) (.pure _)
    ·by_cases h5 : (numbS xs[i]).1 > (numbS ys[i]).1
     ·simp only [h4, h5, if_true, if_false]
      exact Evt.neg (by simp) (Evt.pos (by simp) (.pure _))
     ·simp only [h4, h5, if_false]
      refine Evt.neg (by simp) (Evt.neg (by simp) ?_)
      rw [wrap_nat (by omega)]
      exact ih (i + 1) (by omega) (by omega) (by omega)
   ·simp only [h0, ne_eq, not_false_eq_true, if_true]
    refine Evt.neg ?_ (texts_ev _ _).map
    rw [toList_us, decide_eq_true_eq]
    intro hc
    apply h0
    rw [us_inj hc, cmpS_lin.refl]
  ·refine Evt.neg (by simp; omega) ?_
   rw [hw, clamp, (List.drop_eq_nil_of_le (by omega) : ys.drop i = []), List.map_nil, ordL, if_neg (by omega), if_pos (by omega)]
   exact .pure _
theorem sh_base2 (doc : ByteArray) : (sh_base doc).2 = sh_ok doc := by
 unfold sh_base
 by_cases h : sh_ok doc = true
 ·rw [if_pos h, h]
 ·rw [if_neg h]; simp at h; rw [h]
theorem lst_eq (doc : ByteArray) : lstS doc = (splS doc).map fun s => (nameS s, (numbS s).1) := by
 rw [lstS, piecesS, List.map_map]; rfl
theorem reforder_ev (a b : ByteArray) (ha : a.size ≤ 1048576) (hb : b.size ≤ 1048576) : Evt (fun k => dossierref12_Order.f k a b) (ordS a b) := by
 simp only [dossierref12_Order.f]
 have la := splS_len a
 have lb := splS_len b
 refine (refbase_ev a ha).bind ((refbase_ev b hb).bind ?_)
 rw [sh_base2, sh_base2]
 unfold ordS
 cases h1 : sh_ok a with
 | false => simp only [Bool.false_eq_true, if_false, false_and]; exact (texts_ev a b).map
 | true =>
  cases h2 : sh_ok b with
  | false => simp only [Bool.false_eq_true, if_false, if_true, and_false]; exact (texts_ev a b).map
  | true =>
   simp only [if_true, and_self]
   refine (parts_ev a ha).bind ((parts_ev b hb).bind ?_)
   have := refo_loop (splS a) (splS b) (fun p hp => Nat.le_trans (splS_size a p hp) ha) (fun p hp => Nat.le_trans (splS_size b p hp) hb) (List.all_eq_true.mp ((sh_ok_all a).symm.trans h1)) (List.all_eq_true.mp ((sh_ok_all b).symm.trans h2)) (by omega) (by omega) _ 0 rfl (by omega) (by omega)
   rw [List.drop_zero, List.drop_zero, ← lst_eq, ← lst_eq] at this
   exact this
end Go.Abs.GenS
