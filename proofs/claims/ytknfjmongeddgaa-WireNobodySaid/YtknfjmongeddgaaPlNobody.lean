import Derived.Test.YtknfjmongeddgaaPlWire
set_option linter.unusedVariables false
set_option linter.unusedSimpArgs false
namespace Go.Abs.GenA
open Go.Abs Go.Lib
def nb : wire_Reader := ⟨false, [], 0⟩
theorem nb_none (k : Nat) : wire_Reader_none.f k nb = some (true, nb) := rfl
theorem nb_byte (k : Nat) : wire_Reader_byte.f k nb = some (0, false, nb) := by
  rw [wire_Reader_byte.f, nb_none]; rfl
theorem nb_int (k : Nat) (a b : Int) : wire_Reader_Int.f (k + 1) nb a b = some (0, nb) := by
  rw [wire_Reader_Int.f, wire_Reader_Int.l0]
  have e : (⟨nb.made, nb.b, nb.err⟩ : wire_Reader) = nb := rfl
  rw [e, nb_byte]; rfl
theorem nb_text (k : Nat) (a : Int) : wire_Reader_Text.f (k + 1) nb a = some ((⟨#[]⟩ : ByteArray), nb) := by
  rw [wire_Reader_Text.f, nb_int, Option.bind_some, nb_none]; rfl
theorem nb_flag (k : Nat) : wire_Reader_Flag.f k nb = some (false, nb) := by
  rw [wire_Reader_Flag.f, nb_byte]; rfl
theorem nb_left (k : Nat) : wire_Reader_Left.f k nb = some (0, nb) := by
  rw [wire_Reader_Left.f, nb_none]; rfl
theorem nb_err (k : Nat) : wire_Reader_Err.f k nb = some (2, nb) := by
  rw [wire_Reader_Err.f, nb_none]; rfl
theorem nb_end (k : Nat) : wire_Reader_End.f k nb = some (2, nb) := by
  rw [wire_Reader_End.f, nb_err]; rfl
theorem wireNobody_true (n : Int) : dossierlaw02_WireNobody.f 11 n = some true := by
  have e : (⟨false, ([] : List Int), 0⟩ : wire_Reader) = nb := rfl
  have e2 : ((⟨#[]⟩ : ByteArray).toList == (⟨#[]⟩ : ByteArray).toList) = true := by simp
  have i0 : wire_Reader_Int_nil0.f 11 n n = some 0 := rfl
  have i1 : wire_Reader_Text_nil0.f 11 n = some (⟨#[]⟩ : ByteArray) := rfl
  have i2 : wire_Reader_Flag_nil0.f 11 = some false := rfl
  have i3 : wire_Reader_Left_nil0.f 11 = some 0 := rfl
  have i4 : wire_Reader_Err_nil0.f 11 = some 2 := rfl
  have i5 : wire_Reader_End_nil0.f 11 = some 2 := rfl
  rw [dossierlaw02_WireNobody.f, i0, i1, i2, i3, i4, i5, e, nb_int]
  simp only [Option.bind_some, e2, if_true, nb_text, nb_flag, nb_left, nb_err, nb_end, awake_eq (show 10 ≤ 11 by decide)]
  rfl
end Go.Abs.GenA
