import Derived.Test.YthdbbamkjmogfaaDoorPlSF
set_option linter.unnecessarySimpa false
set_option linter.unusedVariables false
set_option linter.unusedSimpArgs false
set_option maxRecDepth 100000
set_option maxHeartbeats 4000000
namespace Go.Abs.GenS
open Go.Abs
def wi (r : Int) : List Int → Bool
 | a :: b :: t => (decide (r ≥ a) && decide (r ≤ b)) || wi r t
 | _ => false
theorem within_ev (r : Int) (l : List Int) (hl : l.length ≤ 1048576) : Evt (fun k => dossierref01_within.f k r l) (wi r l) := by
 simp only [dossierref01_within.f]
 have key : ∀ (n : Nat) (suf pre : List Int), suf.length ≤ n → l = pre ++ suf → Evt (fun k => dossierref01_within.l0 k (pre.length : Int) r l) (wi r suf) := by
  intro n
  induction n with
  | zero =>
   intro suf pre hs hx
   have : suf = [] := List.eq_nil_of_length_eq_zero (by omega)
   subst this
   refine Evt.succ (fun k => by rw [dossierref01_within.l0]) ?_
   rw [wrap_nat (by rw [hx] at hl; simp at hl; omega)]
   exact Evt.neg (by simp [hx]; omega) (.pure _)
  | succ n ih =>
   intro suf pre hs hx
   have hpl : pre.length ≤ 1048576 := by rw [hx] at hl; simp at hl; omega
   refine Evt.succ (fun k => by rw [dossierref01_within.l0]) ?_
   rw [wrap_nat (by omega)]
   match suf, hs, hx with
   | [], _, hx => exact Evt.neg (by simp [hx]; omega) (.pure _)
   | [a], _, hx => exact Evt.neg (by simp [hx]) (.pure _)
   | a :: b :: t, hs, hx =>
    have e2 : IntKind.i64.wrap ((pre.length : Int) + 2) = ((pre ++ [a, b]).length : Int) := by
     rw [wrap_i64 (by omega) (by omega)]; simp
    have next := ih t (pre ++ [a, b]) (by simp at hs; omega) (by rw [hx]; simp)
    rw [e2]
    simp only [wi]
    refine Evt.pos (by simp [hx]; omega) (Evt.some_bind (a := a) (by rw [rd_nat, hx]; simp) ?_)
    by_cases h1 : r ≥ a
    ·refine Evt.pos (by simpa using h1) (Evt.some_bind (a := b) (by rw [rd_nat, hx]; simp [List.getElem?_append_right]) ?_)
     by_cases h2 : r ≤ b
     ·rw [decide_eq_true h1, decide_eq_true h2]; exact Evt.pos (by simpa using h2) (.pure _)
     ·rw [decide_eq_true h1, decide_eq_false h2]; exact Evt.neg (by simpa using h2) next
    ·rw [decide_eq_false h1]; exact Evt.neg (by simpa using h1) next
 exact key l.length l [] (Nat.le_refl _) rfl

def xmlS (r : Int) : Bool := wi r [9, 10, 13, 13, 32, 55295, 57344, 65533, 65536, 1114111]
theorem refxml_ev (r : Int) : Evt (fun k => dossierref01_OfXML.f k r) (xmlS r) := by
 simp only [dossierref01_OfXML.f]
 exact (within_ev r _ (by decide)).map
end Go.Abs.GenS
