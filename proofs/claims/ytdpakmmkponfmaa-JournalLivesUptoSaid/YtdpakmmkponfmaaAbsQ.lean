import Derived.Test.YtdpakmmkponfmaaAbsO
set_option linter.unusedVariables false
set_option linter.unusedSimpArgs false
namespace Go.Abs

def Bi (B : List (List Nat)) (i j : Nat) : Bool := (B.getD i []).contains j

mutual
/-- it leads to no object numbered p, nor to one from L on. -/
def tkC (p : RG) (L : Nat) : C → Bool
 | .own t _ _ _ => !inR p t && Nat.blt t L
 | .ref t _ => !inR p t && Nat.blt t L
 | .er t _ => !inR p t && Nat.blt t L
 | .cut t _ _ _ => !inR p t && Nat.blt t L
 | .opt _ t _ => !inR p t && Nat.blt t L
 | .mp t => !inR p t && Nat.blt t L
 | .clo _ caps => tkCs p L caps
 | _ => true
def tkCs (p : RG) (L : Nat) : List C → Bool
 | [] => true
 | c :: cs => tkC p L c && tkCs p L cs
end
def tkD (p : RG) (L : Nat) : D → Bool
 | .one c => tkC p L c
 | .agg cs => tkCs p L cs
 | .tup ds => ds.all fun d => match d with | .one c => tkC p L c | .agg cs => tkCs p L cs | .tup _ => false
def tkO (p : RG) (L : Nat) : Option AObj → Bool
 | some (.cells _ cs) => tkCs p L cs
 | some (.map _ _) => true
 | none => true
def tkFoot (p : RG) (L : Nat) (f : Foot) : Bool := tkD p L f.val && f.wo.all fun qc => tkO p L qc.2

section
variable {pr : Program} {x : Ctx} {K : Exit → St → Prop} {st : St}

def StepC (pr : Program) (x : Ctx) (ops : Array Oper) (n L : Nat) (o : Oper) (f : Foot) : Prop :=
 ∀ (K : Exit → St → Prop) (rest : List Oper) (fr : Nat → D) (hv : Nat → Option AObj), (∀ p, f.tok = some p → (∀ t, tkD p L (updl n fr f.rs t) = true) ∧ ∀ q, tkO p L (hset hv f.ro q) = true) →
  AWops pr x ops rest K ⟨n, putF n (updl n fr f.rs) f.dst f.val, mkH L (hset (hset hv f.ro) f.wo)⟩ → AWops pr x ops (o :: rest) K ⟨n, updl n fr f.rs, mkH L (hset hv f.ro)⟩

theorem upd_self {n t : Nat} {fr : Nat → D} {d : D} (h : fr t = d) : upd n fr t d = fr := by
 funext i
 unfold upd
 cases hb : (Nat.beq i t && Nat.blt t n) with
 | false => rfl
 | true =>
  rw [Bool.and_eq_true] at hb
  have := Nat.eq_of_beq_eq_true hb.1
  subst this
  exact h.symm
theorem updl_self {n : Nat} {fr : Nat → D} : ∀ (l : List (Nat × D)), (∀ td ∈ l, fr td.1 = td.2) → updl n fr l = fr
 | [], _ => rfl
 | (t, d) :: l, h => by
  show upd n (updl n fr l) t d = fr
  rw [updl_self l fun td htd => h td (by simp [htd])]
  exact upd_self (h (t, d) (by simp))
theorem look_mem {p : Nat} {c : Option AObj} : ∀ {l : List (Nat × Option AObj)}, look p l = some c → (p, c) ∈ l
 | [], h => by cases h
 | (q, c') :: l, h => by
  unfold look at h
  cases hb : Nat.beq q p with
  | true =>
   rw [hb] at h
   cases h
   have := Nat.eq_of_beq_eq_true hb
   subst this; simp
  | false =>
   rw [hb] at h
   exact List.mem_cons_of_mem _ (look_mem h)
theorem hset_self {hv : Nat → Option AObj} {l : List (Nat × Option AObj)} (h : ∀ pc ∈ l, hv pc.1 = pc.2) : hset hv l = hv := by
 funext p
 unfold hset
 cases hl : look p l with
 | none => rfl
 | some c => exact (h (p, c) (look_mem hl)).symm

/-- what the slots and objects of a read hold when all that comes before is done. -/
def AllS (F0 : Nat → D) (feet : List (Nat × Foot)) (done : Nat → Bool) : List (Nat × D) → Prop
 | [] => True
 | (t, d) :: l => slD F0 feet done t = d ∧ AllS F0 feet done l
def AllH (H0 : Nat → Option AObj) (feet : List (Nat × Foot)) (done : Nat → Bool) : List (Nat × Option AObj) → Prop
 | [] => True
 | (p, c) :: l => hpD H0 feet done p = c ∧ AllH H0 feet done l
theorem AllS.get {F0 : Nat → D} {feet : List (Nat × Foot)} {done : Nat → Bool} : ∀ {l : List (Nat × D)}, AllS F0 feet done l → ∀ td ∈ l, slD F0 feet done td.1 = td.2
 | (t, d) :: l, h, td, hm => by
  rcases List.mem_cons.mp hm with rfl | hm
  ·exact h.1
  ·exact AllS.get h.2 td hm
theorem AllH.get {H0 : Nat → Option AObj} {feet : List (Nat × Foot)} {done : Nat → Bool} : ∀ {l : List (Nat × Option AObj)}, AllH H0 feet done l → ∀ pc ∈ l, hpD H0 feet done pc.1 = pc.2
 | (t, d) :: l, h, td, hm => by
  rcases List.mem_cons.mp hm with rfl | hm
  ·exact h.1
  ·exact AllH.get h.2 td hm

/-- the order of what touches the same: of two, one comes ahead. -/
def cmp (B : List (List Nat)) (i j : Nat) : Bool := Bi B i j || Bi B j i || Nat.beq i j
def has (p : Nat) (l : List (Nat × Option AObj)) : Bool := l.any fun qc => Nat.beq qc.1 p
def chk1 (n L : Nat) (B : List (List Nat)) (feet : List (Nat × Foot)) (i : Nat) (f : Foot) : Bool :=
 (f.rs.all fun td => feet.all fun jf => !(jf.2.dst == some td.1) || cmp B i jf.1) &&
 (f.ro.all fun pc => feet.all fun jf => !(has pc.1 jf.2.wo) || cmp B i jf.1) &&
 (f.wo.all fun pc => feet.all fun jf => !(has pc.1 jf.2.wo) || cmp B i jf.1) &&
 (match f.dst with | none => true | some t => Nat.blt t n && feet.all fun jf => Nat.beq jf.1 i || !(jf.2.dst == some t))
def chkB (ops : Array Oper) (B : List (List Nat)) (i : Nat) : Bool :=
 (deps ops i).all (fun e => Nat.blt e i && Bi B i e) && (B.getD i []).all fun b => Nat.blt b i && ((deps ops i).contains b || (deps ops i).any fun e => Bi B e b)
def chkRk (m : Region.Mode) (rk : Nat → Nat) (l : List Oper) : Bool := l.zipIdx.all fun oi => oi.1.after.toList.all fun e => !Region.binds m e || (Nat.blt e.on l.length && Nat.blt (rk e.on) (rk oi.2))
def chkAll (G : List Nat) (ops : Array Oper) (n L : Nat) (B : List (List Nat)) (feet : List (Nat × Foot)) : Bool :=
 chkRk .text (fun i => i) ops.toList && chkRk .gc (fun i => G.getD i 0) ops.toList && Nat.beq feet.length ops.toList.length && (List.range ops.toList.length).all (chkB ops B) && (feet.all fun jf => chk1 n L B feet jf.1 jf.2) && (feet.map (·.1) == List.range feet.length)

def AllF (p : Nat × Foot → Prop) : List (Nat × Foot) → Prop
 | [] => True
 | x :: l => p x ∧ AllF p l
theorem AllF.get {p : Nat × Foot → Prop} : ∀ {l : List (Nat × Foot)}, AllF p l → ∀ x ∈ l, p x
 | y :: l, h, x, hm => by
  rcases List.mem_cons.mp hm with rfl | hm
  ·exact h.1
  ·exact AllF.get h.2 x hm
def AllStep (pr : Program) (x : Ctx) (ops : Array Oper) (n L : Nat) : List Oper → List (Nat × Foot) → Prop
 | [], _ => True
 | _, [] => True
 | o :: l, f :: fs => StepC pr x ops n L o f.2 ∧ AllStep pr x ops n L l fs
theorem AllStep.get {ops : Array Oper} {n L : Nat} : ∀ {l : List Oper} {fs : List (Nat × Foot)}, AllStep pr x ops n L l fs → ∀ i (h : i < l.length) (h' : i < fs.length), StepC pr x ops n L (l[i]'h) (fs[i]'h').2
 | o :: l, f :: fs, h, 0, _, _ => h.1
 | o :: l, f :: fs, h, i + 1, h1, h2 => AllStep.get h.2 i (by simpa using h1) (by simpa using h2)

def AllK (P : Nat → RG → Prop) : List (Nat × RG) → Prop
 | [] => True
 | (i, p) :: l => P i p ∧ AllK P l
theorem AllK.get {P : Nat → RG → Prop} : ∀ {l : List (Nat × RG)}, AllK P l → ∀ ip ∈ l, P ip.1 ip.2
 | y :: l, h, x, hm => by
  rcases List.mem_cons.mp hm with rfl | hm
  ·exact h.1
  ·exact AllK.get h.2 x hm
def AllT (p : RG) (L : Nat) : List (Option AObj) → Prop
 | [] => True
 | o :: l => tkO p L o = true ∧ AllT p L l
theorem AllT.get {p : RG} {L : Nat} : ∀ {l : List (Option AObj)}, AllT p L l → ∀ o ∈ l, tkO p L o = true
 | y :: l, h, x, hm => by
  rcases List.mem_cons.mp hm with rfl | hm
  ·exact h.1
  ·exact AllT.get h.2 x hm

theorem has_look {p : Nat} : ∀ {l : List (Nat × Option AObj)}, look p l ≠ none → has p l = true
 | [], h => absurd rfl h
 | (q, c) :: l, h => by
  unfold has
  rw [List.any_cons]
  cases hb : Nat.beq q p with
  | true => rw [Bool.true_or]
  | false =>
   rw [Bool.false_or]
   refine has_look (l := l) ?_
   unfold look at h
   rw [hb] at h
   exact h
theorem look_has {p : Nat} {pc : Nat × Option AObj} {l : List (Nat × Option AObj)} (h : pc ∈ l) (e : pc.1 = p) : look p l ≠ none := by
 induction l with
 | nil => cases h
 | cons y l ih =>
  unfold look
  cases hb : Nat.beq y.1 p with
  | true => simp
  | false =>
   show look p l ≠ none
   rcases List.mem_cons.mp h with rfl | h
   ·rw [e, Nat.beq_refl] at hb; cases hb
   ·exact ih h

theorem slD_ind {F0 : Nat → D} {feet : List (Nat × Foot)} {done : Nat → Bool} {t : Nat} {Q : D → Prop} (h0 : Q (F0 t)) (h : ∀ jf ∈ feet, done jf.1 = true → Q jf.2.val) : Q (slD F0 feet done t) := by
 unfold slD
 generalize F0 t = d at h0
 induction feet generalizing d with
 | nil => exact h0
 | cons jf feet ih =>
  rw [List.foldl_cons]
  refine ih (fun y hy => h y (by simp [hy])) _ ?_
  unfold frStep
  cases hd : done jf.1 with
  | false => exact h0
  | true =>
   cases (jf.2.dst == some t) with
   | false => exact h0
   | true => exact h jf (by simp) hd
theorem hpD_ind {H0 : Nat → Option AObj} {feet : List (Nat × Foot)} {done : Nat → Bool} {p : Nat} {Q : Option AObj → Prop} (h0 : Q (H0 p)) (h : ∀ jf ∈ feet, done jf.1 = true → ∀ qc ∈ jf.2.wo, Q qc.2) : Q (hpD H0 feet done p) := by
 unfold hpD
 generalize H0 p = d at h0
 induction feet generalizing d with
 | nil => exact h0
 | cons jf feet ih =>
  rw [List.foldl_cons]
  refine ih (fun y hy => h y (by simp [hy])) _ ?_
  unfold hpStep
  cases hd : done jf.1 with
  | false => exact h0
  | true =>
   cases hl : look p jf.2.wo with
   | none => exact h0
   | some c => exact h jf (by simp) hd _ (look_mem hl)

theorem mkH_pad {Hs : List (Option AObj)} {L : Nat} (h : Hs.length ≤ L) : mkH L (fun q => Hs.getD q none) = Hs ++ List.replicate (L - Hs.length) none := by
 apply List.ext_getElem?
 intro q
 unfold mkH
 rw [List.getElem?_map, List.getElem?_append]
 by_cases hq : q < L
 ·rw [List.getElem?_eq_getElem (by simpa using hq)]
  simp only [List.getElem_range, Option.map_some]
  by_cases h1 : q < Hs.length
  ·rw [if_pos h1]; simp [h1]
  ·rw [if_neg h1, List.getElem?_replicate, if_pos (by omega)]; simp [h1]
 ·rw [List.getElem?_eq_none (by simp; omega)]
  rw [if_neg (by omega), List.getElem?_eq_none (by simp; omega)]; rfl

theorem ranked_of {m : Region.Mode} {rk : Nat → Nat} {l : List Oper} (h : chkRk m rk l = true) : Ranked m l.toArray rk := by
 intro i hi e he hb
 have hi' : i < l.length := by simpa using hi
 unfold chkRk at h
 rw [List.all_eq_true] at h
 have h1 := h (l[i], i) (by rw [List.mem_zipIdx_iff_getElem?]; simp [hi'])
 rw [List.all_eq_true] at h1
 have h2 := h1 e (by simpa using he)
 rw [hb, Bool.not_true, Bool.false_or, Bool.and_eq_true] at h2
 exact ⟨(by simpa using (show e.on < l.length from Nat.le_of_ble_eq_true h2.1)), Nat.le_of_ble_eq_true h2.2⟩
theorem ranked_any {m : Region.Mode} {rk : Nat → Nat} {ops : Array Oper} (h : Ranked m ops rk) : Ranked .any ops rk := fun i hi e he hb => h i hi e he (binds_any hb)

/-- A REGION WHOSE ORDER IS DRAWN. -/
theorem AW.draw {id : Nat} {l : List Oper} {n L : Nat} {F0 : Nat → D} {Hs : List (Option AObj)} (feet : List (Nat × Foot)) (B : List (List Nat))
  (hL : Hs.length ≤ L) (G : List Nat) (hchk : chkAll G l.toArray n L B feet = true)
  {TK : List (Nat × RG)} (hTK : feet.filterMap (fun jf => jf.2.tok.map fun p => (jf.1, p)) = TK)
  (htk : AllK (fun i p => (∀ t, tkD p L (F0 t) = true) ∧ AllT p L Hs ∧ AllF (fun jf => (Bi B jf.1 i || Nat.beq jf.1 i) = true ∨ tkFoot p L jf.2 = true) feet) TK)
  (hread : AllF (fun jf => AllS F0 feet (Bi B jf.1) jf.2.rs ∧ AllH (fun q => Hs.getD q none) feet (Bi B jf.1) jf.2.ro) feet)
  (hstep : AllStep pr x l.toArray n L l feet)
  (hfin : AWops pr x l.toArray [] K ⟨n, slD F0 feet (fun _ => true), mkH L (hpD (fun q => Hs.getD q none) feet fun _ => true)⟩) : AW pr x (.region id l.toArray true) K ⟨n, F0, Hs⟩ := by
 have hc := hchk
 unfold chkAll at hc
 simp only [Bool.and_eq_true] at hc
 obtain ⟨⟨⟨⟨⟨c1, c6⟩, c2⟩, c3⟩, c4⟩, c5⟩ := hc
 have rk1 : Ranked .text l.toArray (fun i => i) := ranked_of c1
 have rk2 : Ranked .gc l.toArray (fun i => G.getD i 0) := ranked_of c6
 have hlen : feet.length = l.length := by simpa using Nat.eq_of_beq_eq_true c2
 have hnum : Numbered feet := by
  intro j hj
  have h5 : feet.map (·.1) = List.range feet.length := by simpa using c5
  have h6 : (feet.map (·.1))[j]? = some j := by rw [h5]; simp [hj]
  rw [List.getElem?_map, List.getElem?_eq_getElem hj] at h6
  simpa using h6
 have hB : ∀ i, i < l.length → chkB l.toArray B i = true := by
  intro i hi
  rw [List.all_eq_true] at c3
  exact c3 i (by simpa using hi)
 have hlow : ∀ i, ∀ e ∈ deps l.toArray i, e < i := by
  intro i e he
  by_cases hi : i < l.length
  ·have := hB i hi
   unfold chkB at this
   rw [Bool.and_eq_true, List.all_eq_true] at this
   have h1 := this.1 e he
   rw [Bool.and_eq_true] at h1
   exact Nat.le_of_ble_eq_true h1.1
  ·simp [deps, hi] at he
 have h4 : ∀ jf ∈ feet, chk1 n L B feet jf.1 jf.2 = true := by rw [List.all_eq_true] at c4; exact c4
 -- what comes before is done, what comes behind is not
 have before : ∀ (listed : Array Bool) i, i < l.length → Closed l.toArray listed → (∀ e ∈ deps l.toArray i, doneOf listed e = true) → ∀ j, Bi B i j = true → doneOf listed j = true := by
  intro listed i
  induction i using Nat.strongRecOn with
  | _ i ih =>
   intro hi hcl hd j hj
   have h1 := hB i hi
   unfold chkB at h1
   rw [Bool.and_eq_true, List.all_eq_true, List.all_eq_true] at h1
   have h2 := h1.2 j (by simpa [Bi] using hj)
   rw [Bool.and_eq_true, Bool.or_eq_true] at h2
   rcases h2.2 with h3 | h3
   ·exact hd j (by simpa using h3)
   ·rw [List.any_eq_true] at h3
    obtain ⟨e, he, hb⟩ := h3
    have hei := hlow i e he
    exact ih e hei (by omega) hcl (fun e' he' => hcl e (hd e he) e' he') j hb
 have behind : ∀ (listed : Array Bool) i, i < l.length → Closed l.toArray listed → listed.size = l.length → doneOf listed i = false → ∀ j, Bi B j i = true → doneOf listed j = false := by
  intro listed i hi hcl hsz hd j hj
  cases hdj : doneOf listed j with
  | false => rfl
  | true =>
   have hjl : j < l.length := by
    rcases Nat.lt_or_ge j listed.size with h | h
    ·omega
    ·simp [doneOf, Array.getD_eq_getD_getElem?, Array.getElem?_eq_none h] at hdj
   have := before listed j hjl hcl (hcl j hdj) i hj
   rw [hd] at this; cases this
 intro a w S g hs
 refine wp_region_draw fun t => ?_
 obtain ⟨m, rk, t', hrk, hsch⟩ : ∃ m rk t', Ranked m l.toArray rk ∧ Region.schedule (pr.follows .mixedOrders) l.toArray t = Region.linearise.go m l.toArray l.toArray.size t' (Array.replicate l.toArray.size false) [] := by
  unfold Region.schedule
  by_cases h : (pr.follows .mixedOrders || !Region.departs l.toArray) = true
  ·rw [if_pos h]; exact ⟨_, _, _, ranked_any rk1, rfl⟩
  ·rw [if_neg h]
   by_cases h2 : (t % 2 == 0) = true
   ·rw [if_pos h2]; exact ⟨_, _, _, rk1, rfl⟩
   ·rw [if_neg h2]; exact ⟨_, _, _, rk2, rfl⟩
 rw [hsch, wpOps_list]
 have hs1 : Sim x ⟨n, F0, mkH L fun q => Hs.getD q none⟩ a { w with drawn := w.drawn + 1 } S g := by
  have h1 := hs.same (w' := { w with drawn := w.drawn + 1 }) rfl rfl rfl rfl
  refine h1.forget (H' := mkH L fun q => Hs.getD q none) ?_ ?_
  ·intro t o hl
   rw [mkH_pad hL] at hl
   unfold Live at hl ⊢
   rw [List.getElem?_append] at hl
   split at hl
   ·exact hl
   ·rw [List.getElem?_replicate] at hl
    split at hl <;> cases hl
  ·rw [mkH_pad hL]; simp
 let St0 : Array Bool → St := fun listed => ⟨n, slD F0 feet (doneOf listed), mkH L (hpD (fun q => Hs.getD q none) feet (doneOf listed))⟩
 have h0 : St0 (Array.replicate l.toArray.size false) = ⟨n, F0, mkH L fun q => Hs.getD q none⟩ := by
  have hd0 : doneOf (Array.replicate l.toArray.size false) = fun _ => false := by
   funext j
   unfold doneOf
   rw [Array.getD_eq_getD_getElem?, Array.getElem?_replicate]
   split <;> rfl
  have e1 : slD F0 feet (fun _ => false) = F0 := by
   funext t; exact foldl_keep _ _ fun _ _ _ => rfl
  have e2 : hpD (fun q => Hs.getD q none) feet (fun _ => false) = fun q => Hs.getD q none := by
   funext t; exact foldl_keep _ _ fun _ _ _ => rfl
  show (⟨n, slD F0 feet (doneOf _), mkH L (hpD _ feet (doneOf _))⟩ : St) = _
  rw [hd0, e1, e2]
 have main := AWops.order (pr := pr) (x := x) (K := K) (ops := l.toArray) m rk hrk St0 ?_ ?_ l.toArray.size t' (Array.replicate l.toArray.size false) (by simp) ?_ ?_
 ·rw [h0] at main
  exact main a _ S g hs1
 ·-- a step
  intro listed i o rest hsz hcl hd hdeps ho hk
  have hi : i < l.length := by
   have := (Array.getElem?_eq_some_iff.mp ho).1
   simpa using this
  have hif : i < feet.length := by omega
  have ho' : l[i] = o := by
   have := (Array.getElem?_eq_some_iff.mp ho).2
   simpa using this
  have hsl : listed.size = l.length := by simpa using hsz
  have hfm : feet[i] ∈ feet := List.getElem_mem hif
  have hfi : (feet[i]).1 = i := hnum i hif
  have hck := h4 _ hfm
  rw [hfi] at hck
  unfold chk1 at hck
  simp only [Bool.and_eq_true, List.all_eq_true] at hck
  obtain ⟨⟨⟨k1, k2⟩, k3⟩, k4⟩ := hck
  have hagree : ∀ j, cmp B i j = true → doneOf listed j = Bi B i j ∨ (j = i) := by
   intro j hj
   unfold cmp at hj
   rw [Bool.or_eq_true, Bool.or_eq_true] at hj
   rcases hj with (hj | hj) | hj
   ·left; rw [hj]; exact before listed i hi hcl hdeps j hj
   ·left
    have h1 := behind listed i hi hcl hsl hd j hj
    rw [h1]
    cases hb : Bi B i j with
    | false => rfl
    | true =>
     have := before listed i hi hcl hdeps j hb
     rw [h1] at this; cases this
   ·right; exact (Nat.eq_of_beq_eq_true hj).symm
  have hself : Bi B i i = false := by
   cases hb : Bi B i i with
   | false => rfl
   | true =>
    have := before listed i hi hcl hdeps i hb
    rw [hd] at this; cases this
  have hagree' : ∀ j, cmp B i j = true → doneOf listed j = Bi B i j := by
   intro j hj
   rcases hagree j hj with h | rfl
   ·exact h
   ·rw [hd, hself]
  have hr := AllF.get hread _ hfm
  rw [hfi] at hr
  have hrs : ∀ td ∈ (feet[i]).2.rs, slD F0 feet (doneOf listed) td.1 = td.2 := by
   intro td htd
   rw [← AllS.get hr.1 td htd]
   refine slD_agree fun jf hj hjt => hagree' _ ?_
   have := k1 td htd jf hj
   rw [hjt] at this
   simpa using this
  have hro : ∀ pc ∈ (feet[i]).2.ro, hpD (fun q => Hs.getD q none) feet (doneOf listed) pc.1 = pc.2 := by
   intro pc hpc
   rw [← AllH.get hr.2 pc hpc]
   refine hpD_agree fun jf hj hjt => hagree' _ ?_
   have := k2 pc hpc jf hj
   rw [has_look hjt] at this
   simpa using this
  have hst := AllStep.get hstep i hi hif
  rw [ho'] at hst
  have hse := doneOf_set (listed := listed) (i := i) (by omega)
  have e1 : slD F0 feet (orAt (doneOf listed) i) = putF n (slD F0 feet (doneOf listed)) (feet[i]).2.dst (feet[i]).2.val := by
   refine slD_add hnum hif hd fun t ht => ?_
   rw [ht] at k4
   simp only [Bool.and_eq_true, List.all_eq_true] at k4
   refine ⟨Nat.le_of_ble_eq_true k4.1, fun jf hj hne hjt => ?_⟩
   have := k4.2 jf hj
   rw [hjt] at this
   rw [Bool.or_eq_true] at this
   rcases this with h | h
   ·exact hne (Nat.eq_of_beq_eq_true h)
   ·simp at h
  have e2 : hpD (fun q => Hs.getD q none) feet (orAt (doneOf listed) i) = hset (hpD (fun q => Hs.getD q none) feet (doneOf listed)) (feet[i]).2.wo := by
   refine hpD_add hnum hif hd fun p hp jf hj hlt hjp => ?_
   obtain ⟨c, hc⟩ : ∃ c, look p (feet[i]).2.wo = some c := by
    cases hl : look p (feet[i]).2.wo with
    | none => exact absurd hl hp
    | some c => exact ⟨c, rfl⟩
   have h5 := k3 (p, c) (look_mem hc) jf hj
   rw [has_look hjp] at h5
   have h6 : cmp B i jf.1 = true := by simpa using h5
   rw [hagree' _ h6]
   cases hb : Bi B i jf.1 with
   | false => rfl
   | true =>
    have h7 := hB i hi
    unfold chkB at h7
    rw [Bool.and_eq_true, List.all_eq_true, List.all_eq_true] at h7
    have h8 := h7.2 jf.1 (by simpa [Bi] using hb)
    rw [Bool.and_eq_true] at h8
    have := Nat.le_of_ble_eq_true h8.1
    omega
  have h9 := hst K rest (slD F0 feet (doneOf listed)) (hpD (fun q => Hs.getD q none) feet (doneOf listed))
  rw [updl_self _ hrs, hset_self hro] at h9
  refine h9 ?_ ?_
  ·intro p hp
   have hpm : (i, p) ∈ TK := by
    rw [← hTK]
    refine List.mem_filterMap.mpr ⟨_, hfm, ?_⟩
    rw [hp, hfi]; rfl
   obtain ⟨hF, hT, k5⟩ := AllK.get htk _ hpm
   have hok : ∀ jf ∈ feet, doneOf listed jf.1 = true → tkFoot p L jf.2 = true := by
    intro jf hj hdj
    rcases AllF.get k5 jf hj with h | h
    ·rw [Bool.or_eq_true] at h
     rcases h with h | h
     ·have := behind listed i hi hcl hsl hd jf.1 h
      rw [hdj] at this; cases this
     ·have := Nat.eq_of_beq_eq_true h
      rw [this, hd] at hdj; cases hdj
    ·exact h
   constructor
   ·intro t
    refine slD_ind (Q := fun d => tkD p L d = true) (hF t) fun jf hj hdj => ?_
    have := hok jf hj hdj
    unfold tkFoot at this
    rw [Bool.and_eq_true] at this
    exact this.1
   ·intro q
    refine hpD_ind (Q := fun c => tkO p L c = true) ?_ fun jf hj hdj qc hqc => ?_
    ·have h1 := AllT.get hT
     by_cases hq : q < Hs.length
     ·have : Hs.getD q none = Hs[q] := by simp [hq]
      rw [this]; exact h1 _ (List.getElem_mem hq)
     ·have : Hs.getD q none = none := by simp [hq]
      rw [this]; rfl
    ·have := hok jf hj hdj
     unfold tkFoot at this
     rw [Bool.and_eq_true, List.all_eq_true] at this
     exact this.2 qc hqc
  ·have h10 : St0 (listed.setIfInBounds i true) = ⟨n, putF n (slD F0 feet (doneOf listed)) (feet[i]).2.dst (feet[i]).2.val, mkH L (hset (hpD (fun q => Hs.getD q none) feet (doneOf listed)) (feet[i]).2.wo)⟩ := by
    show (⟨n, slD F0 feet (doneOf _), mkH L (hpD _ feet (doneOf _))⟩ : St) = _
    rw [hse, e1, e2]
   rw [h10] at hk
   exact hk
 ·-- the end
  intro listed hsz hall
  have e1 : slD F0 feet (doneOf listed) = slD F0 feet fun _ => true := by
   funext t
   refine slD_agree fun jf hj _ => ?_
   obtain ⟨k, hk, rfl⟩ := List.mem_iff_getElem.mp hj
   rw [hnum k hk]
   exact hall k (by simp; omega)
  have e2 : hpD (fun q => Hs.getD q none) feet (doneOf listed) = hpD (fun q => Hs.getD q none) feet fun _ => true := by
   funext p
   refine hpD_agree fun jf hj _ => ?_
   obtain ⟨k, hk, rfl⟩ := List.mem_iff_getElem.mp hj
   rw [hnum k hk]
   exact hall k (by simp; omega)
  show AWops pr x l.toArray [] K ⟨n, slD F0 feet (doneOf listed), mkH L (hpD _ feet (doneOf listed))⟩
  rw [e1, e2]
  exact hfin
 ·intro i hi
  have hd0 : doneOf (Array.replicate l.toArray.size false) i = false := by
   unfold doneOf
   rw [Array.getD_eq_getD_getElem?, Array.getElem?_replicate]
   split <;> rfl
  rw [hd0] at hi; cases hi
 ·refine Nat.le_trans (List.length_filter_le _ _) (by simp)
end
end Go.Abs
