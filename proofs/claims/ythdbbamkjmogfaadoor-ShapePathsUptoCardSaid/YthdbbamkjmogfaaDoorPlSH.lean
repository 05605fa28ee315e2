import Derived.Test.YthdbbamkjmogfaaDoorPlSG
set_option linter.unusedVariables false
set_option linter.unusedSimpArgs false
set_option linter.unnecessarySimpa false
set_option maxRecDepth 100000
set_option maxHeartbeats 4000000
namespace Go.Abs.GenS
open Go.Abs
/-! ### names, by the reference -/
def letR (c : Int) : Bool := (dossierref08_letter.f 0 c).getD false
theorem letter_tab : (List.range 256).all (fun n => dossierref08_letter.f 0 ((n : Nat) : Int) == some (letB n)) = true := by decide +kernel
theorem aln_tab : (List.range 256).all (fun n => alnB ((n : Nat) : Int) == (letB n || (decide (((n : Nat) : Int) ≥ 48) && decide (((n : Nat) : Int) ≤ 57)))) = true := by decide +kernel
theorem aln_ascii : (List.range 256).all (fun n => !alnB ((n : Nat) : Int) || (decide (((n : Nat) : Int) ≥ 32) && decide (((n : Nat) : Int) < 128))) = true := by decide +kernel
theorem letter_ev {c : Int} (h0 : 0 ≤ c) (h1 : c < 256) : Evt (fun k => dossierref08_letter.f k c) (letB c) := by
 have := List.all_eq_true.mp letter_tab c.toNat (by simp; omega)
 have e : ((c.toNat : Nat) : Int) = c := by omega
 rw [e, beq_iff_eq] at this
 exact ⟨0, fun k _ => this⟩
theorem aln_eq {c : Int} (h0 : 0 ≤ c) (h1 : c < 256) : alnB c = (letB c || (decide (c ≥ 48) && decide (c ≤ 57))) := by
 have := List.all_eq_true.mp aln_tab c.toNat (by simp; omega)
 have e : ((c.toNat : Nat) : Int) = c := by omega
 rwa [e, beq_iff_eq] at this
theorem aln_lt {c : Int} (h0 : 0 ≤ c) (h1 : c < 256) (h : alnB c = true) : 32 ≤ c ∧ c < 128 := by
 have := List.all_eq_true.mp aln_ascii c.toNat (by simp; omega)
 have e : ((c.toNat : Nat) : Int) = c := by omega
 rw [e, h] at this
 simpa using this
theorem digit_ev (c : Int) : Evt (fun k => dossierref08_digit.f k c) (decide (c ≥ 48) && decide (c ≤ 57)) := by
 simp only [dossierref08_digit.f]
 by_cases h : c ≥ 48
 ·rw [decide_eq_true h]; exact Evt.pos (by simpa using h) (.pure _)
 ·rw [decide_eq_false h]; exact Evt.neg (by simpa using h) (.pure _)
theorem refplain_loop (s : ByteArray) (hs : s.size ≤ 1048576) (h0 : 0 < s.size) : ∀ (n i : Nat), s.size - i = n → 1 ≤ i → i ≤ s.size → Evt (fun k => dossierref08_Plain.l0 k (i : Int) s) (((bytesI s).drop i).all alnB) := by
 intro n
 have hl := bytes_len s
 induction n with
 | zero =>
  intro i h1 h2 h3
  have : i = s.size := by omega
  subst this
  refine Evt.succ (fun k => by rw [dossierref08_Plain.l0]) (Evt.neg (by simp) ?_)
  rw [List.drop_eq_nil_of_le (by omega), decide_eq_true (by omega : (s.size : Int) > 0)]
  exact .pure _
 | succ n ih =>
  intro i h1 h2 h3
  have hi : i < (bytesI s).length := by omega
  obtain ⟨u0, u1⟩ := bytesI_u8 s _ (List.getElem_mem hi)
  have hr : bt s (i : Int) = some (bytesI s)[i] := by rw [bt_eq]; exact rd_lt hi
  refine Evt.succ (fun k => by rw [dossierref08_Plain.l0]) (Evt.pos (by simp; omega) (Evt.some_bind hr ((letter_ev u0 u1).bind ?_)))
  have e : ((bytesI s).drop i).all alnB = (alnB (bytesI s)[i] && ((bytesI s).drop (i + 1)).all alnB) := by
   rw [List.drop_eq_getElem_cons hi, List.all_cons]
  rw [e, aln_eq u0 u1]
  have next := ih (i + 1) (by omega) (by omega) (by omega)
  cases hq : letB (bytesI s)[i] with
  | true =>
   refine Evt.pos rfl ?_
   rw [wrap_nat (by omega)]
   simpa using next
  | false =>
   refine Evt.neg (by decide) (Evt.neg (by simp; omega) (Evt.some_bind hr ((digit_ev _).bind ?_)))
   cases (decide ((bytesI s)[i] ≥ 48) && decide ((bytesI s)[i] ≤ 57)) with
   | true =>
    refine Evt.pos rfl ?_
    rw [wrap_nat (by omega)]
    simpa using next
   | false => exact Evt.neg (by decide) (.pure _)
theorem refplain_ev (s : ByteArray) (hs : s.size ≤ 1048576) : Evt (fun k => dossierref08_Plain.f k s) (plainS s) := by
 simp only [dossierref08_Plain.f]
 have hl := bytes_len s
 cases hb : bytesI s with
 | nil =>
  have h0 : s.size = 0 := by rw [← hl, hb]; rfl
  have : plainS s = false := by simp [plainS, hb]
  rw [this]
  refine Evt.succ (fun k => by rw [dossierref08_Plain.l0]) (Evt.neg (by simp [h0]) ?_)
  rw [decide_eq_false (by omega : ¬ (s.size : Int) > 0)]
  exact .pure _
 | cons c t =>
  have h0 : 0 < s.size := by rw [← hl, hb]; simp
  have hp : plainS s = (letB c && (c :: t).all alnB) := by simp [plainS, hb]
  rw [hp]
  obtain ⟨u0, u1⟩ := bytesI_u8 s c (by rw [hb]; simp)
  refine Evt.succ (fun k => by rw [dossierref08_Plain.l0]) (Evt.pos (by simp; omega) (Evt.some_bind (a := c) (by rw [show bt s 0 = rd (bytesI s) 0 from bt_eq s 0, hb]; rfl) ((letter_ev u0 u1).bind ?_)))
  cases hq : letB c with
  | true =>
   refine Evt.pos rfl ?_
   have := refplain_loop s hs h0 _ 1 rfl (by omega) (by omega)
   rw [hb, List.drop_one, List.tail_cons] at this
   have e : (c :: t).all alnB = t.all alnB := by rw [List.all_cons, aln_eq u0 u1, hq]; simp
   rw [e, Bool.true_and]
   exact this
  | false => exact Evt.neg (by decide) (Evt.pos (by decide) (.pure _))
abbrev KW : List ByteArray := [(⟨#[97, 110, 100]⟩ : ByteArray), (⟨#[111, 114]⟩ : ByteArray), (⟨#[110, 111, 116]⟩ : ByteArray), (⟨#[116, 114, 117, 101]⟩ : ByteArray), (⟨#[102, 97, 108, 115, 101]⟩ : ByteArray), (⟨#[99, 111, 117, 110, 116]⟩ : ByteArray), (⟨#[110, 117, 109, 98, 101, 114]⟩ : ByteArray)]
def anyW (s : ByteArray) : List ByteArray → Bool
 | [] => false
 | w :: ws => (s.toList == w.toList) || anyW s ws
theorem refkw_ev (s : ByteArray) : Evt (fun k => dossierref09_Keyword.f k s) (kwS s) := by
 simp only [dossierref09_Keyword.f]
 exact loop_all (xs := KW) (F := fun k i (_ : Unit) => dossierref09_Keyword.l0 k i s) (E := fun _ _ => some false) (by decide) (fun k i _ => by rw [dossierref09_Keyword.l0]) (Good := fun _ _ => True) (R := fun suf _ => anyW s suf) (fun _ _ => .pure _)
  (fun i v suf _ _ _ _ ih => evt_orK (ih () trivial)) () trivial
theorem dec_ascii {c : Int} (t : List Int) (h0 : 0 ≤ c) (h1 : c < 128) : Evt (fun k => dossierref01_Decode.f k (c :: t)) (c, 1) := by
 simp only [dossierref01_Decode.f]
 have hr : rd (c :: t) 0 = some c := rfl
 refine Evt.neg (by simp; omega) (Evt.some_bind hr (Evt.some_bind hr (Evt.neg (by simp; omega) (Evt.some_bind hr (Evt.neg (by simp; omega) (Evt.some_bind hr (Evt.neg (by simp; omega) ?_)))))))
 refine Evt.succ (fun k => by rw [dossierref01_Decode.j0]) (Evt.neg (by simp; omega) (Evt.pos (by simp; omega) ?_))
 have hs : sub (c :: t) 1 1 = [] := by simp [sub]
 have hs0 : sub (c :: t) 0 1 = [c] := by simp [sub]
 refine Evt.succ (fun k => by rw [dossierref01_Decode.l1]) (Evt.neg (by rw [hs]; simp) ?_)
 rw [wrap_i64 (by omega) (by omega)]
 refine Evt.bind (a := [c]) ?_ (Evt.pos (by simp; omega) (Evt.pos (by rw [hs0]; simp) (.pure _)))
 simp only [dossierref01_Encode.f]
 refine Evt.neg (by simp; omega) (Evt.neg (by simp; omega) (Evt.neg (by simp; omega) (Evt.pos (by simp; omega) ?_)))
 rw [wrap_u8, show c % 256 = c by omega]
 exact .pure _
theorem xml_ascii {c : Int} (h0 : 32 ≤ c) (h1 : c < 128) : xmlS c = true := by
 simp only [xmlS, wi]
 have : (decide (c ≥ 32) && decide (c ≤ 55295)) = true := by simp; omega
 rw [this]; simp
theorem wrong_ascii (b : List Int) (hs : b.length ≤ 1048576) (hb : ∀ c ∈ b, 32 ≤ c ∧ c < 128) : Evt (fun k => dossierref01_Wrong.f k b) (-1) := by
 simp only [dossierref01_Wrong.f]
 have key : ∀ (suf pre : List Int), b = pre ++ suf → Evt (fun k => dossierref01_Wrong.l0 k (pre.length : Int) b) (-1) := by
  intro suf
  induction suf with
  | nil =>
   intro pre hx
   exact Evt.succ (fun k => by rw [dossierref01_Wrong.l0]) (Evt.neg (by simp [hx]) (.pure _))
  | cons c t ih =>
   intro pre hx
   obtain ⟨h0, h1⟩ := hb c (by rw [hx]; simp)
   have hlt : pre.length < b.length := by rw [hx]; simp
   refine Evt.succ (fun k => by rw [dossierref01_Wrong.l0]) (Evt.pos (by simpa using hlt) (Evt.pos (by simp; omega) ?_))
   rw [sub_all, hx, List.drop_left]
   refine (dec_ascii t (by omega) h1).bind (Evt.neg (by simp) ((refxml_ev c).bind ?_))
   rw [xml_ascii h0 h1]
   refine Evt.pos rfl ?_
   have := ih (pre ++ [c]) (by rw [hx]; simp)
   rw [List.length_append] at this
   rw [← hx, wrap_nat (by omega)]
   exact this
 exact key b [] rfl
theorem namefits_ev (s : ByteArray) (hs : s.size ≤ 1048576) : Evt (fun k => dossierref09_NameFits.f k s) (fitsS s) := by
 simp only [dossierref09_NameFits.f, dossierref09_Named.f]
 have h1 : Evt (fun k => (dossierref08_Plain.f k s).bind fun r1 => if r1 = true then ((dossierref09_Keyword.f k s).bind fun r3 => some (!r3)) else (some false)) (plainS s && !kwS s) := by
  refine (refplain_ev s hs).bind ?_
  cases plainS s with
  | true => exact Evt.pos rfl ((refkw_ev s).bind (.pure _))
  | false => exact Evt.neg (by decide) (.pure _)
 refine h1.bind ?_
 unfold fitsS
 cases hp : (plainS s && !kwS s) with
 | false => rw [Bool.and_false]; exact Evt.neg (by decide) (.pure _)
 | true =>
  rw [Bool.and_true]
  refine Evt.pos rfl ?_
  by_cases h : (s.size : Int) ≤ 64
  ·rw [decide_eq_true h]
   refine Evt.pos rfl ((wrong_ascii (bytesI s) (by rw [bytes_len]; exact hs) ?_).bind (.pure _))
   intro c hc
   obtain ⟨u0, u1⟩ := bytesI_u8 s c hc
   refine aln_lt u0 u1 ?_
   have hpl : plainS s = true := by rw [Bool.and_eq_true] at hp; exact hp.1
   unfold plainS at hpl
   cases hb : bytesI s with
   | nil => rw [hb] at hc; cases hc
   | cons d t =>
    rw [hb] at hpl hc
    simp only [Bool.and_eq_true] at hpl
    exact List.all_eq_true.mp hpl.2 c hc
  ·rw [decide_eq_false h]; exact Evt.neg (by decide) (.pure _)
/-! ### parts -/
def partR (s : ByteArray) : Piece := if fitsS (nameS s) = true then pieceS s else ((⟨#[]⟩ : ByteArray), 0, false)
theorem fits_empty : fitsS (⟨#[]⟩ : ByteArray) = false := by decide
theorem partR_ok {s : ByteArray} (h : okS s = true) : partR s = pieceS s := by
 have : fitsS (nameS s) = true := by unfold okS at h; rw [Bool.and_eq_true] at h; exact h.1
 rw [partR, if_pos this]
theorem partR_bad {s : ByteArray} (h : okS s = false) : (partR s).2.2 = false := by
 unfold partR
 split
 ·exact h
 ·rfl
theorem part_ev (s : ByteArray) (hs : s.size ≤ 1048576) : Evt (fun k => dossierref12_part.f k s) (partR s) := by
 simp only [dossierref12_part.f]
 obtain ⟨h0, h1⟩ := lastS_ge s 35
 refine (ref_last s 35 hs).bind ?_
 have hnm : (s.extract 0 (atS s)) = nameS s := rfl
 by_cases hneg : lastS s 35 < 0
 ·have ha : atS s = 0 := by unfold atS; omega
  have hn : nameS s = (⟨#[]⟩ : ByteArray) := by
   unfold nameS; rw [ha]
   apply us_inj; rw [us_extract]; rfl
  rw [partR, hn, fits_empty, if_neg (by decide)]
  exact Evt.pos (by simpa using hneg) (.pure _)
 ·refine Evt.neg (by simpa using hneg) (Evt.pos (by simp; omega) ?_)
  have e : (lastS s 35).toNat = atS s := rfl
  rw [e, hnm]
  refine (namefits_ev (nameS s) (Nat.le_trans (size_extract_le _ _ _) hs)).bind ?_
  unfold partR
  cases hf : fitsS (nameS s) with
  | false => exact Evt.neg (by decide) (.pure _)
  | true =>
   refine Evt.pos rfl ?_
   have hw : IntKind.i64.wrap (lastS s 35 + 1) = ((atS s + 1 : Nat) : Int) := by rw [wrap_i64 (by omega) (by omega)]; unfold atS; omega
   have ht : s.extract (atS s + 1) s.size = tailS s := by
    unfold tailS; rw [Nat.min_eq_left (by unfold atS; omega)]
   rw [hw]
   refine Evt.pos (by simp; unfold atS; omega) ?_
   rw [Int.toNat_natCast, ht]
   refine (refnumber_ev (tailS s) (Nat.le_trans (size_extract_le _ _ _) hs)).bind ?_
   show Evt _ (pieceS s)
   have hn : numS (bytesI (tailS s)) = numbS s := rfl
   rw [hn]
   by_cases h2 : (numbS s).2 = 0
   ·refine Evt.pos (by simpa using h2) ?_
    have : okS s = decide ((numbS s).1 ≥ 1) := by rw [okS, hf, h2]; simp
    have hp : pieceS s = (nameS s, (numbS s).1, decide ((numbS s).1 ≥ 1)) := by rw [pieceS, this]
    rw [hp]
    exact .pure _
   ·refine Evt.neg (by simpa using h2) ?_
    have : okS s = false := by rw [okS, hf]; simp [h2]
    have hp : pieceS s = (nameS s, (numbS s).1, false) := by rw [pieceS, this]
    rw [hp]
    exact .pure _
end Go.Abs.GenS
