import Derived.Test.YthdbbamkjmogfaaDoorPlSB
import Derived.Lib.Join
set_option linter.unusedVariables false
set_option linter.unusedSimpArgs false
set_option maxRecDepth 100000
set_option maxHeartbeats 4000000
namespace Go.Abs.GenS
open Go.Abs
/-! ### names -/
def LET : ByteArray := ⟨#[65, 66, 67, 68, 69, 70, 71, 72, 73, 74, 75, 76, 77, 78, 79, 80, 81, 82, 83, 84, 85, 86, 87, 88, 89, 90, 97, 98, 99, 100, 101, 102, 103, 104, 105, 106, 107, 108, 109, 110, 111, 112, 113, 114, 115, 116, 117, 118, 119, 120, 121, 122, 95]⟩
def ALN : ByteArray := ⟨#[65, 66, 67, 68, 69, 70, 71, 72, 73, 74, 75, 76, 77, 78, 79, 80, 81, 82, 83, 84, 85, 86, 87, 88, 89, 90, 97, 98, 99, 100, 101, 102, 103, 104, 105, 106, 107, 108, 109, 110, 111, 112, 113, 114, 115, 116, 117, 118, 119, 120, 121, 122, 95, 48, 49, 50, 51, 52, 53, 54, 55, 56, 57]⟩
def letB (c : Int) : Bool := decide (idxS LET c ≥ 0)
def alnB (c : Int) : Bool := decide (idxS ALN c ≥ 0)
theorem is_let (c : Int) : Evt (fun k => lexer_is.f k c LET) (letB c) := by
 simp only [lexer_is.f, strings_IndexByte.f, stringslite_IndexByte.f]
 exact ⟨0, fun _ _ => rfl⟩
theorem is_aln (c : Int) : Evt (fun k => lexer_is.f k c ALN) (alnB c) := by
 simp only [lexer_is.f, strings_IndexByte.f, stringslite_IndexByte.f]
 exact ⟨0, fun _ _ => rfl⟩
def preN (p : Int → Bool) : List Int → Nat
 | [] => 0
 | c :: t => if p c = true then preN p t + 1 else 0
theorem preN_le (p : Int → Bool) : ∀ l, preN p l ≤ l.length
 | [] => Nat.le_refl _
 | c :: t => by rw [preN]; have := preN_le p t; split <;> simp only [List.length_cons] <;> omega
theorem preN_all (p : Int → Bool) : ∀ l, (preN p l = l.length ↔ l.all p = true)
 | [] => by simp [preN]
 | c :: t => by
  rw [preN, List.all_cons]
  by_cases h : p c = true
  ·rw [if_pos h, h, Bool.true_and, List.length_cons, ← preN_all p t]; omega
  ·rw [if_neg h, List.length_cons]
   simp [h]
theorem bytes_len (s : ByteArray) : (bytesI s).length = s.size := by rw [bytes_us, List.length_map, us_len]
theorem run_loop (s : ByteArray) (hs : s.size ≤ 1048576) : ∀ (n i : Nat), s.size - i = n → i ≤ s.size → Evt (fun k => lexer_run.l0 k (i : Int) s ALN) (s.extract 0 (i + preN alnB ((bytesI s).drop i))) := by
 intro n
 have hl := bytes_len s
 induction n with
 | zero =>
  intro i h1 h2
  have : i = s.size := by omega
  subst this
  refine Evt.succ (fun k => by rw [lexer_run.l0]) (Evt.neg (by simp) (Evt.pos (by simp) ?_))
  rw [List.drop_eq_nil_of_le (by omega), preN]
  exact .pure _
 | succ n ih =>
  intro i h1 h2
  have hi : i < (bytesI s).length := by omega
  refine Evt.succ (fun k => by rw [lexer_run.l0]) (Evt.pos (by simp; omega) (Evt.some_bind (a := (bytesI s)[i]) (by rw [bt_eq]; exact rd_lt hi) ((is_aln _).bind ?_)))
  rw [List.drop_eq_getElem_cons hi, preN]
  by_cases h : alnB (bytesI s)[i] = true
  ·rw [if_pos h, wrap_nat (by omega)]
   refine Evt.pos h ?_
   have := ih (i + 1) (by omega) (by omega)
   rwa [show i + (preN alnB ((bytesI s).drop (i + 1)) + 1) = i + 1 + preN alnB ((bytesI s).drop (i + 1)) by omega]
  ·rw [if_neg h]
   exact Evt.neg h (Evt.pos (by simp; omega) (.pure _))
theorem size_extract0 (s : ByteArray) (m : Nat) (h : m ≤ s.size) : (s.extract 0 m).size = m := by simp; omega
def plainS (s : ByteArray) : Bool :=
 match bytesI s with
 | [] => false
 | c :: t => letB c && (c :: t).all alnB
theorem plain_ev (s : ByteArray) (hs : s.size ≤ 1048576) : Evt (fun k => lexer_Plain.f k s) (plainS s) := by
 simp only [lexer_Plain.f]
 have hl := bytes_len s
 cases hb : bytesI s with
 | nil =>
  have h0 : s.size = 0 := by rw [← hl, hb]; rfl
  have hs0 : s = (⟨#[]⟩ : ByteArray) := by
   obtain ⟨⟨l⟩⟩ := s
   have : l.length = 0 := h0
   rw [List.length_eq_zero_iff.mp this]
  have : plainS s = false := by simp [plainS, hb]
  rw [this]
  exact Evt.pos (by rw [hs0]; simp) (.pure _)
 | cons c t =>
  have hp : plainS s = (letB c && (c :: t).all alnB) := by simp [plainS, hb]
  rw [hp]
  have hne : ¬ (s.toList == (⟨#[]⟩ : ByteArray).toList) = true := by
   rw [toList_us, decide_eq_true_eq]
   intro e
   have := us_len s
   rw [e] at this
   rw [hb] at hl
   simp [us] at this
   simp only [List.length_cons] at hl
   omega
  refine Evt.neg hne (Evt.some_bind (a := c) (by rw [show bt s 0 = rd (bytesI s) 0 from bt_eq s 0, hb]; rfl) ((is_let c).bind ?_))
  by_cases h : letB c = true
  ·rw [h, Bool.true_and]
   refine Evt.pos rfl ?_
   simp only [lexer_run.f]
   refine (run_loop s hs s.size 0 rfl (by omega)).bind ?_
   have hle := preN_le alnB (bytesI s)
   rw [List.drop_zero, Nat.zero_add, size_extract0 s _ (by omega)]
   have : ((preN alnB (bytesI s) : Int) == (s.size : Int)) = (c :: t).all alnB := by
    rw [Bool.eq_iff_iff, beq_iff_eq, ← hb, ← preN_all, hl]
    omega
   rw [this]
   exact .pure _
  ·have h' : letB c = false := by simpa using h
   rw [h', Bool.false_and]
   exact Evt.neg (by decide) (.pure _)
theorem evt_orK {c b : Bool} {f : Nat → Option Bool} (h : Evt f b) : Evt (fun k => if c = true then some true else f k) (c || b) := by
 cases c with
 | true => exact Evt.pos rfl (.pure _)
 | false => exact Evt.neg (by decide) h
def kwS (s : ByteArray) : Bool := (s.toList == (⟨#[97, 110, 100]⟩ : ByteArray).toList) || ((s.toList == (⟨#[111, 114]⟩ : ByteArray).toList) || ((s.toList == (⟨#[110, 111, 116]⟩ : ByteArray).toList) || ((s.toList == (⟨#[116, 114, 117, 101]⟩ : ByteArray).toList) || ((s.toList == (⟨#[102, 97, 108, 115, 101]⟩ : ByteArray).toList) || ((s.toList == (⟨#[99, 111, 117, 110, 116]⟩ : ByteArray).toList) || ((s.toList == (⟨#[110, 117, 109, 98, 101, 114]⟩ : ByteArray).toList) || false))))))
theorem kw_ev (s : ByteArray) : Evt (fun k => expr_Keyword.f k s) (kwS s) := by
 simp only [expr_Keyword.f]
 exact evt_orK (evt_orK (evt_orK (evt_orK (evt_orK (evt_orK (evt_orK (.pure _)))))))
def fitsS (s : ByteArray) : Bool := decide ((s.size : Int) ≤ 64) && (plainS s && !kwS s)
theorem fits_ev (s : ByteArray) (hs : s.size ≤ 1048576) : Evt (fun k => shape_Fits.f k s) (fitsS s) := by
 simp only [shape_Fits.f, fitsS]
 by_cases h : (s.size : Int) ≤ 64
 ·rw [decide_eq_true h, Bool.true_and]
  refine Evt.pos rfl (Evt.map ?_)
  simp only [expr_Named.f]
  refine (plain_ev s hs).bind ?_
  cases plainS s with
  | true => exact Evt.pos rfl ((kw_ev s).bind (.pure _))
  | false => exact Evt.neg (by decide) (.pure _)
 ·rw [decide_eq_false h, Bool.false_and]
  exact Evt.neg (by decide) (.pure _)
/-! ### pieces -/
/-- where a part's name ends. -/
def atS (s : ByteArray) : Nat := (lastS s 35).toNat
def tailS (s : ByteArray) : ByteArray := s.extract (min (atS s + 1) s.size) s.size
def nameS (s : ByteArray) : ByteArray := s.extract 0 (atS s)
def numbS (s : ByteArray) : Int × Int := numS (bytesI (tailS s))
def okS (s : ByteArray) : Bool := fitsS (nameS s) && (((numbS s).2 == 0) && decide ((numbS s).1 ≥ 1))
/-- a part, as it is handed to the loops: name, number, whether it is one. -/
abbrev Piece := ByteArray × Int × Bool
def pieceS (s : ByteArray) : Piece := (nameS s, (numbS s).1, okS s)
def piecesS (doc : ByteArray) : List Piece := (splS doc).map pieceS
def sh_ok (doc : ByteArray) : Bool := (piecesS doc).all fun p => p.2.2
def sh_list (doc : ByteArray) : List (ByteArray × Int) × Bool := if sh_ok doc = true then ((piecesS doc).map fun p => (p.1, p.2.1), true) else ([], false)
def sh_base (doc : ByteArray) : ByteArray × Bool := if sh_ok doc = true then (ofU (Lib.join ((piecesS doc).map fun p => us p.1) [46]), true) else ((⟨#[]⟩ : ByteArray), false)
def lastP : List Piece → ByteArray × Int → ByteArray × Int
 | [], z => z
 | p :: ps, _ => lastP ps (p.1, p.2.1)
def sh_last (doc : ByteArray) : ByteArray × Int := if sh_ok doc = true then lastP (piecesS doc) ((⟨#[]⟩ : ByteArray), 0) else ((⟨#[]⟩ : ByteArray), 0)
end Go.Abs.GenS
