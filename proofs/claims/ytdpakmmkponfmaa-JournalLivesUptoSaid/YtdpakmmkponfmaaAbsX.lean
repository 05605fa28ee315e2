import Derived.Test.YtdpakmmkponfmaaAbsW
set_option linter.unusedVariables false
namespace Go.Abs
/-- Short names, for the texts that a program prints. -/
theorem nl {a b : Nat} (h : Nat.ble a b = true) : a ≤ b := Nat.le_of_ble_eq_true h
theorem ac {α β : Type} {R : α → β → Prop} {a : α} {b : β} {l : List α} {m : List β} (h : R a b) (t : All2 R l m) : All2 R (a :: l) (b :: m) := .cons h t
theorem an {α β : Type} {R : α → β → Prop} : All2 R [] [] := .nil
theorem fC {p : Nat × Foot → Prop} {x : Nat × Foot} {l : List (Nat × Foot)} (h : p x) (k : AllF p l) : AllF p (x :: l) := ⟨h, k⟩
theorem sC {F0 : Nat → D} {feet : List (Nat × Foot)} {done : Nat → Bool} {t : Nat} {d : D} {l : List (Nat × D)} (h : slD F0 feet done t = d) (k : AllS F0 feet done l) : AllS F0 feet done ((t, d) :: l) := ⟨h, k⟩
theorem hC {H0 : Nat → Option AObj} {feet : List (Nat × Foot)} {done : Nat → Bool} {t : Nat} {d : Option AObj} {l : List (Nat × Option AObj)} (h : hpD H0 feet done t = d) (k : AllH H0 feet done l) : AllH H0 feet done ((t, d) :: l) := ⟨h, k⟩
theorem tC {p : RG} {L : Nat} {o : Option AObj} {l : List (Option AObj)} (h : tkO p L o = true) (k : AllT p L l) : AllT p L (o :: l) := ⟨h, k⟩
theorem pC {pr : Program} {x : Ctx} {ops : Array Oper} {n L : Nat} {o : Oper} {f : Nat × Foot} {l : List Oper} {fs : List (Nat × Foot)} (h : StepC pr x ops n L o f.2) (k : AllStep pr x ops n L l fs) : AllStep pr x ops n L (o :: l) (f :: fs) := ⟨h, k⟩
theorem bnd {α β : Type} {o : Option α} {f : α → Option β} {r : β} (h : o.bind f = some r) : ∃ a, o = some a ∧ f a = some r := Option.bind_eq_some_iff.mp h
theorem itH {α : Type} {c : Bool} {a b : Option α} {r : α} (h : (if c = true then a else b) = some r) : (c = true ∧ a = some r) ∨ (c = false ∧ b = some r) := by
 cases c
 ·exact .inr ⟨rfl, h⟩
 ·exact .inl ⟨rfl, h⟩
theorem gdH {α : Type} {c : Bool} {a : Option α} {r : α} (h : (if c = true then a else none) = some r) : c = true ∧ a = some r := by
 cases c
 ·cases h
 ·exact ⟨rfl, h⟩
/-- what is there or not. -/
abbrev optE {α β : Type} (o : Option α) (a : β) (f : α → β) : β := match o with | none => a | some x => f x
theorem optE_none {α β : Type} {o : Option α} {a : β} {f : α → β} (h : o = none) : optE o a f = a := by subst h; rfl
theorem optE_some {α β : Type} {o : Option α} {x : α} {a : β} {f : α → β} (h : o = some x) : optE o a f = f x := by subst h; rfl
theorem optH {α β : Type} {o : Option α} {a : Option β} {f : α → Option β} {r : β} (h : optE o a f = some r) : (o = none ∧ a = some r) ∨ ∃ x, o = some x ∧ f x = some r := by
 cases o with
 | none => exact .inl ⟨rfl, h⟩
 | some x => exact .inr ⟨x, rfl, h⟩
theorem Meets.eqs {pr : Program} {f : FuncId} {args : List D} {H H' H2 : List (Option AObj)} {r r2 : D} (hr : r = r2) (hH : H' = H2) (m : Meets pr f args H r H') : Meets pr f args H r2 H2 := by
 subst hr hH; exact m
theorem putH {st : St} {dst : Option Nat} {d : D} : (st.put dst d).H = st.H := by cases dst <;> rfl
theorem heapH {st : St} {H : List (Option AObj)} : (st.heap H).H = H := rfl
/-- what a merging of objects comes to, step by step. -/
theorem mS : (∀ (st : St) (dst : Option Nat) (d : D), (st.put dst d).H = st.H) ∧ (∀ (st : St) (H : List (Option AObj)), (st.heap H).H = H) ∧
  (∀ (σ : Nat → Nat) (H : List (Option AObj)) (ρ : List Nat) (H' : List (Option AObj)) (q : Bool), mergeH2 σ H ρ H' q = mergeAt σ H ρ H' ++ (H'.drop ρ.length).map fun o => orF q (o.map (renO σ))) ∧
  (∀ (q fr : Bool) (cs : List C), orF q (some (.cells fr cs)) = some (.cells (fr || q) cs)) ∧ (∀ (q fr : Bool) es, orF q (some (.map fr es)) = some (.map fr es)) ∧ (∀ q : Bool, orF q none = none) ∧
  (∀ b : Bool, (false || b) = b) ∧ (∀ b : Bool, (b || false) = b) ∧ (∀ b : Bool, (true || b) = true) ∧ (∀ b : Bool, (b || true) = true) ∧
  (∀ (σ : Nat → Nat) (H H' : List (Option AObj)), mergeAt σ H [] H' = H) ∧ (∀ (σ : Nat → Nat) (H H' : List (Option AObj)) (t : Nat) (ρ : List Nat) (o : Option AObj), mergeAt σ H (t :: ρ) (o :: H') = mergeAt σ (H.set t (mergeObj σ (H.getD t none) o)) ρ H') ∧
  (∀ (σ : Nat → Nat) (fr fr' : Bool) (cs0 cs : List C), mergeObj σ (some (.cells fr cs0)) (some (.cells fr' cs)) = some (.cells fr (renCs σ cs))) ∧
  (∀ (σ : Nat → Nat) (fr fr' : Bool) es0 es, mergeObj σ (some (.map fr es0)) (some (.map fr' es)) = some (.map fr' es)) ∧ (∀ (σ : Nat → Nat) p, mergeObj σ p none = none) ∧
  (∀ (σ : Nat → Nat) (fr : Bool) (cs : List C), renO σ (.cells fr cs) = .cells fr (renCs σ cs)) ∧ (∀ (σ : Nat → Nat) (fr : Bool) es, renO σ (.map fr es) = .map fr es) ∧
  (∀ (α : Type) (f : α → List P) (σ : Nat → Nat) (xs : List α), renCs σ (rowC f xs) = rowC f xs) ∧
  (∀ (a b : Option AObj) (l : List (Option AObj)), (a :: l).set 0 b = b :: l) ∧ (∀ (a b : Option AObj) (n : Nat) (l : List (Option AObj)), (a :: l).set (n + 1) b = a :: l.set n b) ∧
  (∀ (a b : Option AObj) (l : List (Option AObj)), (a :: l).getD 0 b = a) ∧ (∀ (a b : Option AObj) (n : Nat) (l : List (Option AObj)), (a :: l).getD (n + 1) b = l.getD n b) ∧
  (∀ (a : Option AObj) (n : Nat) (l : List (Option AObj)), (a :: l).drop (n + 1) = l.drop n) ∧ (∀ (l : List (Option AObj)), l.drop 0 = l) ∧
  (∀ (f : Option AObj → Option AObj) a l, (a :: l).map f = f a :: l.map f) ∧ (∀ (f : Option AObj → Option AObj), [].map f = []) ∧ (∀ (f : AObj → AObj) a, Option.map f (some a) = some (f a)) ∧ (∀ (f : AObj → AObj), Option.map f none = none) ∧
  (∀ (a : Nat) (l : List Nat), (a :: l).length = l.length + 1) ∧ (([] : List Nat).length = 0) ∧ (∀ (a : Option AObj) (l : List (Option AObj)), (a :: l).length = l.length + 1) ∧ (([] : List (Option AObj)).length = 0) ∧ (∀ n : Nat, 0 + n = n) ∧
  (∀ (a b c : List (Option AObj)), a ++ b ++ c = a ++ (b ++ c)) ∧ (∀ (a : Option AObj) (l m : List (Option AObj)), a :: l ++ m = a :: (l ++ m)) ∧ (∀ (l : List (Option AObj)), [] ++ l = l) := by
 refine ⟨fun st dst d => putH, fun _ _ => rfl, fun _ _ _ _ _ => rfl, fun _ _ _ => rfl, fun _ _ _ => rfl, fun _ => rfl, by decide, by decide, by decide, by decide, fun _ H H' => by cases H' <;> rfl, fun _ _ _ _ _ _ => rfl, fun _ _ _ _ _ => rfl, fun _ _ _ _ _ => rfl, fun _ p => by cases p with | none => rfl | some p => cases p <;> rfl,
  fun _ _ _ => rfl, fun _ _ _ => rfl, fun _ _ _ _ => ren_row _ _, fun _ _ _ => rfl, fun _ _ _ _ => rfl, fun _ _ _ => rfl, fun _ _ _ _ => rfl, fun _ _ _ => rfl, fun _ => rfl, fun _ _ _ => rfl, fun _ => rfl, fun _ _ => rfl, fun _ => rfl, fun _ _ => rfl, rfl, fun _ _ => rfl, rfl, Nat.zero_add, List.append_assoc, fun _ _ _ => rfl, fun _ => rfl⟩
abbrev ci (x : Int) : C := C.p true (.v (.int .i64 x))
abbrev cb (x : Bool) : C := C.p true (.v (.bool x))
abbrev ct (x : ByteArray) : C := C.p true (.v (.string x))
abbrev si (x : Int) : D := sc (.int .i64 x)
abbrev sb (x : Bool) : D := sc (.bool x)
abbrev st_ (x : ByteArray) : D := sc (.string x)
abbrev rf (t o : Nat) : D := D.one (C.ref t o)
abbrev ft (i d : Nat) (v : D) (rs : List (Nat × D)) : Nat × Foot := (i, ⟨some d, v, rs, [], [], none⟩)
abbrev or_ {V : Type} (f : V → List P) (x : List V) : Option AObj := some (AObj.cells false (rowC f x))
abbrev ow_ {V : Type} (f : V → List P) (x : List V) : Option AObj := some (AObj.cells true (rowC f x))
theorem oq (p : RG) (L : Nat) {H : List (Option AObj)} {ρ fz : List Nat} {fr : Nat → D} {hv : Nat → Option AObj} (h : (∀ t, tkD p L (fr t) = true) ∧ ∀ q, tkO p L (hv q) = true) (q : Nat) (hρ : rhoOk p L ρ = true := by rfl) : OLe H ρ fz (hv q) (hv q) := ole_ok hρ (h.2 q)
theorem wg {k : Nat} {st st' : St} (kk : Nat) (ρ fz : List Nat) (hk : k = kk) (hfr : ∀ i, DLe st.H ρ fz (st.fr i) (st'.fr i)) (hH : All2 (OLe st.H ρ fz) (ρ.map fun t => st.H.getD t none) st'.H)
  (hkk : (List.range kk).all (fun i => ρ[i]? == some i) = true := by rfl) (hkl : kk ≤ ρ.length := by decide) (hnd : ρ.Nodup := by decide) (hdj : fz.all (fun t => !ρ.contains t) = true := by rfl)
  (hfz : fz.all (cellsAt st.H) = true := by rfl) (hn : st'.n = st.n := by rfl) : Weak k st st' := Weak.gen ρ fz hk hkk hkl hnd hdj hfz hn hfr hH
/-- nil within a result of several becomes a row of the call's own. -/
theorem Weak.nilT {k n sz j : Nat} {fr : Nat → D} {H : List (Option AObj)} {f : Bool} {ds ds' : List D} (h : fr 0 = .tup ds) (hj : ds[j]? = some (.one (.p f (.v (.slice none 0 0))))) (hd : ds.set j (.one (.own H.length 0 0 sz)) = ds') :
  Weak k ⟨n, fr, H⟩ ⟨n, upd n fr 0 (.tup ds'), H ++ [some (.cells true [])]⟩ := by
 subst hd
 intro x a w S g hxk hs
 have h1 := hs.newNone
 refine ⟨S, _, h1.size, h1.nodef, fun i => ?_, h1.ok, h1.s0, h1.wr, h1.ext, h1.par, h1.kl⟩
 have h2 := h1.fr i
 simp only [upd]
 by_cases hi : (Nat.beq i 0 && Nat.blt 0 n) = true
 ·rw [hi]
  simp only [cond_true]
  have hi0 : i = 0 := by
   simp only [Bool.and_eq_true] at hi
   simpa [Nat.beq_eq] using hi.1
  subst hi0
  have h3 : DRel w S x.base (gnew g H.length none) (a.tmps.getD 0 undef) (.tup ds) := h ▸ h2
  generalize a.tmps.getD 0 undef = v at h3
  cases h3 with
  | t h3 => cases h3
  | tup vs hl hr =>
   refine .tup vs (by simp [hl]) fun i h4 h5 => ?_
   by_cases hij : j = i
   ·subst hij
    obtain ⟨h6, h7⟩ := List.getElem?_eq_some_iff.mp hj
    have h8 := hr j h6 h5
    rw [h7] at h8
    simp only [List.getElem_set_self]
    generalize vs[j] = q at h8 ⊢
    cases h8 with | one h8 => cases h8 with | p h8 => cases h8; exact .one (.own0 none gnew_at)
   ·rw [List.getElem_set_ne hij]
    exact hr i (by simpa using h4) h5
 ·rw [Bool.not_eq_true] at hi
  rw [hi]; exact h2
abbrev np : C := C.p true (.v (.pointer none))
abbrev cl_ {α : Type} (f : α → List P) (l : List α) : C := C.p false (.sl l.length (l.flatMap f))
abbrev ds_ {α : Type} (f : α → List P) (l : List α) : D := D.one (C.p false (.sl l.length (l.flatMap f)))
abbrev bx (x : Int) : Option AObj := some (AObj.cells false [ci x])
theorem o1 {H : List (Option AObj)} {ρ fz : List Nat} {c c' : C} (h : CLe H ρ fz c c') : DLe H ρ fz (.one c) (.one c') := .t (.one h)
abbrev Wp {pr : Program} {x : Ctx} {ops : Array Oper} {rest : List Oper} (K : Exit → St → Prop) (st : St) : Prop := AWops pr x ops rest K st
section
variable {pr : Program} {x : Ctx} {ops : Array Oper} {n L : Nat} {l : List Oper} {fs : List (Nat × Foot)} {o1 o2 o3 o4 o5 o6 o7 o8 : Oper} {f1 f2 f3 f4 f5 f6 f7 f8 : Nat × Foot}
theorem yN : AllStep pr x ops n L [] fs := trivial
theorem y2 (h1 : StepC pr x ops n L o1 f1.2) (h2 : StepC pr x ops n L o2 f2.2) (k : AllStep pr x ops n L l fs) : AllStep pr x ops n L (o1 :: o2 :: l) (f1 :: f2 :: fs) := ⟨h1, h2, k⟩
theorem y4 (h1 : StepC pr x ops n L o1 f1.2) (h2 : StepC pr x ops n L o2 f2.2) (h3 : StepC pr x ops n L o3 f3.2) (h4 : StepC pr x ops n L o4 f4.2) (k : AllStep pr x ops n L l fs) :
  AllStep pr x ops n L (o1 :: o2 :: o3 :: o4 :: l) (f1 :: f2 :: f3 :: f4 :: fs) := ⟨h1, h2, h3, h4, k⟩
theorem y8 (h1 : StepC pr x ops n L o1 f1.2) (h2 : StepC pr x ops n L o2 f2.2) (h3 : StepC pr x ops n L o3 f3.2) (h4 : StepC pr x ops n L o4 f4.2)
  (h5 : StepC pr x ops n L o5 f5.2) (h6 : StepC pr x ops n L o6 f6.2) (h7 : StepC pr x ops n L o7 f7.2) (h8 : StepC pr x ops n L o8 f8.2) (k : AllStep pr x ops n L l fs) :
  AllStep pr x ops n L (o1 :: o2 :: o3 :: o4 :: o5 :: o6 :: o7 :: o8 :: l) (f1 :: f2 :: f3 :: f4 :: f5 :: f6 :: f7 :: f8 :: fs) := ⟨h1, h2, h3, h4, h5, h6, h7, h8, k⟩
end
section
variable {H : List (Option AObj)} {ρ fz : List Nat} {fr f1 f2 f3 f4 g1 g2 g3 g4 : Bool} {v1 v2 v3 v4 : Value} {t t' s s' n z i : Nat}
theorem qb : OLe H ρ fz (some (.cells fr [.p f1 (.v v1)])) (some (.cells fr [.p g1 (.v v1)])) := .cells id (ac .sc an)
theorem qo (h : ρ[t']? = some t) : OLe H ρ fz (some (.cells fr [.own t i n z, .p f1 (.v v1), .p f2 (.v v2), .p f3 (.v v3)])) (some (.cells fr [.own t' i n z, .p g1 (.v v1), .p g2 (.v v2), .p g3 (.v v3)])) := .cells id (ac (.own h) (ac .sc (ac .sc (ac .sc an))))
theorem qs (h : ρ[t']? = some t) : OLe H ρ fz (some (.cells fr [.mp t, .p f1 (.v v1), .p f2 (.v v2), .p f3 (.v v3), .p f4 (.v v4)])) (some (.cells fr [.mp t', .p g1 (.v v1), .p g2 (.v v2), .p g3 (.v v3), .p g4 (.v v4)])) := .cells id (ac (.mp h) (ac .sc (ac .sc (ac .sc (ac .sc an)))))
theorem qr (h : ρ[t']? = some t) (h' : ρ[s']? = some s) : OLe H ρ fz (some (.cells fr [.mp t, .p f1 (.v v1), .p f2 (.v v2), .ref s i, .p f4 (.v v4)])) (some (.cells fr [.mp t', .p g1 (.v v1), .p g2 (.v v2), .ref s' i, .p g4 (.v v4)])) := .cells id (ac (.mp h) (ac .sc (ac .sc (ac (.ref h') (ac .sc an)))))
end
section
variable {pr : Program} {x : Ctx} {K : Exit → St → Prop} {st : St} {ops : Array Oper} {rest : List Oper} {dst : Option Tmp} {ty : TypeId} {pos : String} {aft : Array Edge}
theorem cc (ρ : List Nat) (H2 : List (Option AObj)) (d : D) {y : Operand} {l : List Operand} {tys : Array TypeId} {f : FuncId} {caps : List C} {ds args' : List D} {H0 H1 : List (Option AObj)} {r : D}
  (hc : callable pr f = true) (hy : st.val y = .one (.clo f caps)) (hl : l.map st.val = ds) (hlend : All2 (LendT st ρ false) (ds ++ caps.map D.one) args')
  (hH0 : All2 (LendO st ρ false) (ρ.map fun t => st.H.getD t none) H0) (hm : Meets pr f args' H0 r H1) (k : AWops pr x ops rest K ((st.heap H2).put dst d))
  (hH2 : mergeH2 (sig ρ st.H.length) st.H ρ H1 (ρ.all (freshAt st.H)) = H2 := by first | rfl | (simp only [mS]; done) | (simp only [mS]; rfl)) (hd : renD (sig ρ st.H.length) r = d := by rfl)
  (hnd : ρ.Nodup := by decide) (hρ : ρ.all (fun t => Nat.blt t st.H.length) = true := by rfl) :
  AWops pr x ops (⟨dst, .call { callee := .value y, args := l.toArray, argTypes := tys }, ty, pos, aft, none⟩ :: rest) K st := s_call2 hc hy hl hlend hH0 hnd hρ hm (.inl rfl) hH2 hd k
theorem s_convL {src d : TypeId} {ds : TypeDesc} {y : Operand} {k k' : IntKind} {i j : Int} {f1 : Bool} (hsrc : pr.underlying src = some ds) (hd : pr.underlying d = some (.int k'))
  (hy : st.val y = .one (.p f1 (.v (.int k i)))) (he : k'.wrap i = j) (kk : AWops pr x ops rest K (st.put dst (sc (.int k' j)))) :
  AWops pr x ops (⟨dst, .convert src d y, ty, pos, aft, none⟩ :: rest) K st := s_convI hsrc hd hy (he ▸ kk)
end
end Go.Abs
