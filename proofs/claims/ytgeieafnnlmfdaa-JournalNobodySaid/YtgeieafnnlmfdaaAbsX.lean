import Derived.Test.YtgeieafnnlmfdaaAbsW
set_option linter.unusedVariables false
namespace Go.Abs
/-- Short names, for the texts that a program prints. -/
theorem nl {a b : Nat} (h : Nat.ble a b = true) : a ≤ b := Nat.le_of_ble_eq_true h
theorem ac {α β : Type} {R : α → β → Prop} {a : α} {b : β} {l : List α} {m : List β} (h : R a b) (t : All2 R l m) : All2 R (a :: l) (b :: m) := .cons h t
theorem an {α β : Type} {R : α → β → Prop} : All2 R [] [] := .nil
theorem fC {p : Nat × Foot → Prop} {x : Nat × Foot} {l : List (Nat × Foot)} (h : p x) (k : AllF p l) : AllF p (x :: l) := ⟨h, k⟩
theorem sC {F0 : Nat → D} {feet : List (Nat × Foot)} {done : Nat → Bool} {t : Nat} {d : D} {l : List (Nat × D)} (h : slD F0 feet done t = d) (k : AllS F0 feet done l) : AllS F0 feet done ((t, d) :: l) := ⟨h, k⟩
theorem hC {H0 : Nat → Option AObj} {feet : List (Nat × Foot)} {done : Nat → Bool} {t : Nat} {d : Option AObj} {l : List (Nat × Option AObj)} (h : hpD H0 feet done t = d) (k : AllH H0 feet done l) : AllH H0 feet done ((t, d) :: l) := ⟨h, k⟩
theorem tC {p L : Nat} {o : Option AObj} {l : List (Option AObj)} (h : tkO p L o = true) (k : AllT p L l) : AllT p L (o :: l) := ⟨h, k⟩
theorem pC {pr : Program} {x : Ctx} {ops : Array Oper} {n L : Nat} {o : Oper} {f : Nat × Foot} {l : List Oper} {fs : List (Nat × Foot)} (h : StepC pr x ops n L o f.2) (k : AllStep pr x ops n L l fs) : AllStep pr x ops n L (o :: l) (f :: fs) := ⟨h, k⟩
theorem bnd {α β : Type} {o : Option α} {f : α → Option β} {r : β} (h : o.bind f = some r) : ∃ a, o = some a ∧ f a = some r := Option.bind_eq_some_iff.mp h
theorem itH {α : Type} {c : Bool} {a b : Option α} {r : α} (h : (if c = true then a else b) = some r) : (c = true ∧ a = some r) ∨ (c = false ∧ b = some r) := by
  cases c
  · exact .inr ⟨rfl, h⟩
  · exact .inl ⟨rfl, h⟩
theorem gdH {α : Type} {c : Bool} {a : Option α} {r : α} (h : (if c = true then a else none) = some r) : c = true ∧ a = some r := by
  cases c
  · cases h
  · exact ⟨rfl, h⟩
end Go.Abs
