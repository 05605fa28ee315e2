import Derived.Test.YtgeieafnnlmfdaaPlOF
set_option linter.unusedVariables false
set_option linter.unusedSimpArgs false
set_option maxRecDepth 100000
set_option maxHeartbeats 4000000
namespace Go.Abs.GenO
open Go.Abs

theorem lk_le {N : Nat} {D : VD} {fu : Option Int} {Y : RD} (h : Rel N D fu Y) (n : ByteArray) : (lk n D.files).b.length ≤ 1099511627776 := by
 rw [lk_len h.ag]
 have := blen_le (n := n) Y.L
 have := h.us
 omega
theorem spoil_ev (b : List Int) (h : b.length < 9223372036854775807) : ∃ r, Evt (fun k => dossierplain_Spoil.f k () b) r := by
 have := spoil_tot b h b.length 0 b (by omega) (by omega) rfl
 simpa [dossierplain_Spoil.f, Tot] using this
theorem clone_ev (b : List Int) (h : b.length ≤ 1000000000000) : Evt (fun k => bytes_Clone.f k b) b := by
 simp only [bytes_Clone.f]
 exact Evt.pos (by simp; omega) (.pure _)
end Go.Abs.GenO
