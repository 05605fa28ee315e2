import Derived.Test.YtdpakmmkponfmaaAbsN
set_option linter.unusedVariables false
set_option linter.unusedSimpArgs false
namespace Go.Abs

/-! ### a region whose order is drawn -/
/-- numbers of new objects: from one on, so many. -/
abbrev RG := Nat × Nat
def inR (p : RG) (t : Nat) : Bool := Nat.ble p.1 t && Nat.blt t (p.1 + p.2)
/-- what an operation puts, reads and writes. -/
structure Foot where
 dst : Option Nat
 val : D
 rs : List (Nat × D)
 ro : List (Nat × Option AObj)
 wo : List (Nat × Option AObj)
 tok : Option RG

def frStep (t : Nat) (done : Nat → Bool) (acc : D) (jf : Nat × Foot) : D := bif done jf.1 && (jf.2.dst == some t) then jf.2.val else acc
def slD (F0 : Nat → D) (feet : List (Nat × Foot)) (done : Nat → Bool) (t : Nat) : D := feet.foldl (frStep t done) (F0 t)
def look (p : Nat) : List (Nat × Option AObj) → Option (Option AObj)
 | [] => none
 | (q, c) :: l => bif Nat.beq q p then some c else look p l
def hpStep (p : Nat) (done : Nat → Bool) (acc : Option AObj) (jf : Nat × Foot) : Option AObj := bif done jf.1 then (look p jf.2.wo).getD acc else acc
def hpD (H0 : Nat → Option AObj) (feet : List (Nat × Foot)) (done : Nat → Bool) (p : Nat) : Option AObj := feet.foldl (hpStep p done) (H0 p)
def mkH (L : Nat) (f : Nat → Option AObj) : List (Option AObj) := (List.range L).map f
def hset (hv : Nat → Option AObj) (wo : List (Nat × Option AObj)) : Nat → Option AObj := fun p => (look p wo).getD (hv p)
def putF (n : Nat) (fr : Nat → D) : Option Nat → D → Nat → D
 | none, _ => fr
 | some t, d => upd n fr t d
def updl (n : Nat) (fr : Nat → D) : List (Nat × D) → Nat → D
 | [] => fr
 | (t, d) :: l => upd n (updl n fr l) t d

theorem foldl_agree {α β : Type} {f g : β → α → β} : ∀ (l : List α) (b : β), (∀ x ∈ l, ∀ b, f b x = g b x) → l.foldl f b = l.foldl g b
 | [], b, _ => rfl
 | x :: l, b, h => by
  simp only [List.foldl_cons]
  rw [h x (by simp)]
  exact foldl_agree l _ fun y hy => h y (by simp [hy])

theorem slD_agree {F0 : Nat → D} {feet : List (Nat × Foot)} {d d' : Nat → Bool} {t : Nat} (h : ∀ jf ∈ feet, jf.2.dst = some t → d jf.1 = d' jf.1) : slD F0 feet d t = slD F0 feet d' t := by
 refine foldl_agree _ _ fun jf hj b => ?_
 unfold frStep
 by_cases e : jf.2.dst = some t
 ·rw [h jf hj e]
 ·have : (jf.2.dst == some t) = false := by simpa using e
  rw [this]; simp
theorem hpD_agree {H0 : Nat → Option AObj} {feet : List (Nat × Foot)} {d d' : Nat → Bool} {p : Nat} (h : ∀ jf ∈ feet, look p jf.2.wo ≠ none → d jf.1 = d' jf.1) : hpD H0 feet d p = hpD H0 feet d' p := by
 refine foldl_agree _ _ fun jf hj b => ?_
 unfold hpStep
 by_cases e : look p jf.2.wo = none
 ·rw [e]; cases d jf.1 <;> cases d' jf.1 <;> rfl
 ·rw [h jf hj e]

/-- each operation bears its own number. -/
def Numbered (feet : List (Nat × Foot)) : Prop := ∀ j (h : j < feet.length), (feet[j]'h).1 = j

theorem split_at {feet : List (Nat × Foot)} {i : Nat} (h : i < feet.length) : feet = feet.take i ++ feet[i] :: feet.drop (i + 1) := by
 rw [List.getElem_cons_drop, List.take_append_drop]

theorem foldl_keep {α β : Type} {f : β → α → β} : ∀ (l : List α) (b : β), (∀ x ∈ l, ∀ b, f b x = b) → l.foldl f b = b
 | [], b, _ => rfl
 | x :: l, b, h => by rw [List.foldl_cons, h x (by simp)]; exact foldl_keep l b fun y hy => h y (by simp [hy])

theorem mem_drop_gt {feet : List (Nat × Foot)} (hn : Numbered feet) {i : Nat} {jf : Nat × Foot} (h : jf ∈ feet.drop (i + 1)) : i < jf.1 ∧ jf ∈ feet := by
 obtain ⟨k, hk, rfl⟩ := List.mem_iff_getElem.mp h
 rw [List.getElem_drop]
 have hk' : i + 1 + k < feet.length := by simp at hk; omega
 rw [hn _ hk']
 exact ⟨by omega, List.getElem_mem hk'⟩
theorem mem_take_lt {feet : List (Nat × Foot)} (hn : Numbered feet) {i : Nat} {jf : Nat × Foot} (h : jf ∈ feet.take i) : jf.1 < i ∧ jf ∈ feet := by
 obtain ⟨k, hk, rfl⟩ := List.mem_iff_getElem.mp h
 rw [List.getElem_take]
 have hk' : k < feet.length := by simp at hk; omega
 rw [hn _ hk']
 exact ⟨by simp at hk; omega, List.getElem_mem hk'⟩

def orAt (d : Nat → Bool) (i : Nat) : Nat → Bool := fun j => d j || Nat.beq j i

/-- one operation more: its slot. -/
theorem slD_add {n : Nat} {F0 : Nat → D} {feet : List (Nat × Foot)} (hn : Numbered feet) {d : Nat → Bool} {i : Nat} (hi : i < feet.length) (hd : d i = false)
  (hu : ∀ t, (feet[i]'hi).2.dst = some t → t < n ∧ ∀ jf ∈ feet, jf.1 ≠ i → jf.2.dst ≠ some t) :
  slD F0 feet (orAt d i) = putF n (slD F0 feet d) (feet[i]'hi).2.dst (feet[i]'hi).2.val := by
 funext t
 by_cases e : (feet[i]'hi).2.dst = some t
 ·obtain ⟨h1, h2⟩ := hu t e
  rw [e]
  show _ = upd n _ t _ t
  have e1 : upd n (slD F0 feet d) t (feet[i]'hi).2.val t = (feet[i]'hi).2.val := by
   unfold upd; rw [show Nat.beq t t = true from Nat.beq_refl t, show Nat.blt t n = true from Nat.ble_eq_true_of_le h1]; rfl
  rw [e1]
  unfold slD
  conv => lhs; rw [split_at hi]
  rw [List.foldl_append, List.foldl_cons]
  rw [foldl_keep]
  ·unfold frStep
   rw [hn i hi, e]
   simp [orAt]
  ·intro jf hj b
   obtain ⟨h3, h4⟩ := mem_drop_gt hn hj
   have := h2 jf h4 (by omega)
   unfold frStep
   rw [show (jf.2.dst == some t) = false by simpa using this]; simp
 ·have e1 : putF n (slD F0 feet d) (feet[i]'hi).2.dst (feet[i]'hi).2.val t = slD F0 feet d t := by
   cases hdst : (feet[i]'hi).2.dst with
   | none => rfl
   | some u =>
    show upd n _ u _ t = _
    unfold upd
    have : Nat.beq t u = false := by
     cases hb : Nat.beq t u with
     | false => rfl
     | true => exact absurd (by rw [hdst, Nat.eq_of_beq_eq_true hb]) e
    rw [this]; rfl
  rw [e1]
  refine slD_agree fun jf hj hjt => ?_
  have : jf.1 ≠ i := by
   intro h
   obtain ⟨k, hk, rfl⟩ := List.mem_iff_getElem.mp hj
   rw [hn k hk] at h
   subst h
   exact e hjt
  unfold orAt
  have h2 : Nat.beq jf.1 i = false := by
   cases hb : Nat.beq jf.1 i with
   | false => rfl
   | true => exact absurd (Nat.eq_of_beq_eq_true hb) this
  rw [h2, Bool.or_false]

/-- one operation more: its objects. -/
theorem hpD_add {H0 : Nat → Option AObj} {feet : List (Nat × Foot)} (hn : Numbered feet) {d : Nat → Bool} {i : Nat} (hi : i < feet.length) (hd : d i = false)
  (hu : ∀ p, look p (feet[i]'hi).2.wo ≠ none → ∀ jf ∈ feet, i < jf.1 → look p jf.2.wo ≠ none → d jf.1 = false) :
  hpD H0 feet (orAt d i) = hset (hpD H0 feet d) (feet[i]'hi).2.wo := by
 funext p
 unfold hset
 by_cases e : look p (feet[i]'hi).2.wo = none
 ·rw [e]
  refine hpD_agree fun jf hj hjp => ?_
  have : jf.1 ≠ i := by
   intro h
   obtain ⟨k, hk, rfl⟩ := List.mem_iff_getElem.mp hj
   rw [hn k hk] at h
   subst h
   exact hjp e
  unfold orAt
  have h2 : Nat.beq jf.1 i = false := by
   cases hb : Nat.beq jf.1 i with
   | false => rfl
   | true => exact absurd (Nat.eq_of_beq_eq_true hb) this
  rw [h2, Bool.or_false]
 ·cases hc : look p (feet[i]'hi).2.wo with
  | none => exact absurd hc e
  | some c =>
   have hu' := hu p e
   unfold hpD
   conv => lhs; rw [split_at hi]
   rw [List.foldl_append, List.foldl_cons, foldl_keep]
   ·unfold hpStep
    rw [hn i hi, hc]
    simp [orAt]
   ·intro jf hj b
    obtain ⟨h3, h4⟩ := mem_drop_gt hn hj
    unfold hpStep
    by_cases h5 : look p jf.2.wo = none
    ·rw [h5]; cases orAt d i jf.1 <;> rfl
    ·have h6 := hu' jf h4 h3 h5
     have h7 : orAt d i jf.1 = false := by
      unfold orAt; rw [h6, Bool.false_or]
      cases hb : Nat.beq jf.1 i with
      | false => rfl
      | true => have := Nat.eq_of_beq_eq_true hb; omega
     rw [h7]; rfl

/-! ### the order of a schedule -/
section
variable {pr : Program} {x : Ctx} {K : Exit → St → Prop} {st : St}

theorem wpOps_list {P : Program} {ops : Array Oper} {Q : Exit → Act → World → Prop} : ∀ l : List Nat, wpOps P ops Q l = wpList P ops Q (l.filterMap fun i => ops[i]?)
 | [] => by funext a w; simp [wpOps, wpList]
 | i :: l => by
  funext a w
  have ih := wpOps_list (P := P) (ops := ops) (Q := Q) l
  cases h : ops[i]? with
  | none => simp only [wpOps, h, List.filterMap_cons]; rw [ih]
  | some o => simp only [wpOps, h, List.filterMap_cons, wpList]; rw [ih]

def deps (ops : Array Oper) (i : Nat) : List Nat := ((ops[i]?).map fun o => (o.after.toList.filter (Region.binds .any)).map (·.on)).getD []
def ready (m : Region.Mode) (ops : Array Oper) (listed : Array Bool) : List Nat :=
 (List.range ops.size).filter fun i => !listed.getD i true && ((ops[i]?).map (·.after.all fun e => !Region.binds m e || listed.getD e.on false)).getD false

theorem go_succ (m : Region.Mode) (ops : Array Oper) (fuel t : Nat) (listed : Array Bool) (acc : List Nat) : Region.linearise.go m ops (fuel + 1) t listed acc =
  match (ready m ops listed)[t % (ready m ops listed).length]? with
  | some i => Region.linearise.go m ops fuel (t / (ready m ops listed).length) (listed.setIfInBounds i true) (i :: acc)
  | none => acc.reverse := rfl

theorem go_acc (m : Region.Mode) (ops : Array Oper) : ∀ (fuel t : Nat) (listed : Array Bool) (acc : List Nat), Region.linearise.go m ops fuel t listed acc = acc.reverse ++ Region.linearise.go m ops fuel t listed []
 | 0, t, listed, acc => by simp [Region.linearise.go]
 | fuel + 1, t, listed, acc => by
  rw [go_succ, go_succ]
  cases (ready m ops listed)[t % (ready m ops listed).length]? with
  | none => simp
  | some i =>
   simp only
   rw [go_acc m ops fuel _ _ (i :: acc), go_acc m ops fuel _ _ [i]]
   simp

def doneOf (listed : Array Bool) (j : Nat) : Bool := listed.getD j false
theorem doneOf_set {listed : Array Bool} {i : Nat} (h : i < listed.size) : doneOf (listed.setIfInBounds i true) = orAt (doneOf listed) i := by
 funext j
 unfold doneOf orAt
 simp only [Array.getD_eq_getD_getElem?, Array.getElem?_setIfInBounds]
 by_cases e : i = j
 ·subst e
  rw [if_pos rfl, if_pos h, Nat.beq_refl]; simp
 ·rw [if_neg e]
  have : Nat.beq j i = false := by
   cases hb : Nat.beq j i with
   | false => rfl
   | true => exact absurd (Nat.eq_of_beq_eq_true hb).symm e
  rw [this, Bool.or_false]

/-- what is asked of an order: so many done, closed under what must come before. -/
def Closed (ops : Array Oper) (listed : Array Bool) : Prop := ∀ i, doneOf listed i = true → ∀ e ∈ deps ops i, doneOf listed e = true

theorem binds_any {m : Region.Mode} {e : Edge} (h : Region.binds .any e = true) : Region.binds m e = true := by
 unfold Region.binds at *
 cases hg : e.ground <;> simp_all

/-- under an order no edge leads back. -/
def Ranked (m : Region.Mode) (ops : Array Oper) (rk : Nat → Nat) : Prop := ∀ i (h : i < ops.size), ∀ e ∈ (ops[i]'h).after.toList, Region.binds m e = true → e.on < ops.size ∧ rk e.on < rk i

/-- a state for each set of done operations: each step leads to the next one. -/
theorem AWops.order {ops : Array Oper} (m : Region.Mode) (rk : Nat → Nat) (hrk : Ranked m ops rk) (S : Array Bool → St)
  (hstep : ∀ (listed : Array Bool) (i : Nat) (o : Oper) (rest : List Oper), listed.size = ops.size → Closed ops listed → doneOf listed i = false → (∀ e ∈ deps ops i, doneOf listed e = true) → ops[i]? = some o →
   AWops pr x ops rest K (S (listed.setIfInBounds i true)) → AWops pr x ops (o :: rest) K (S listed))
  (hfin : ∀ listed : Array Bool, listed.size = ops.size → (∀ i, i < ops.size → doneOf listed i = true) → AWops pr x ops [] K (S listed)) :
  ∀ (fuel t : Nat) (listed : Array Bool), listed.size = ops.size → Closed ops listed → ((List.range ops.size).filter fun i => !doneOf listed i).length ≤ fuel →
   AWops pr x ops ((Region.linearise.go m ops fuel t listed []).filterMap fun i => ops[i]?) K (S listed) := by
 have all : ∀ listed : Array Bool, ((List.range ops.size).filter fun i => !doneOf listed i).length = 0 → ∀ i, i < ops.size → doneOf listed i = true := by
  intro listed h i hi
  have h1 := List.eq_nil_of_length_eq_zero h
  rw [List.filter_eq_nil_iff] at h1
  have := h1 i (List.mem_range.mpr hi)
  simpa using this
 intro fuel
 induction fuel with
 | zero =>
  intro t listed hs hc hf
  show AWops pr x ops [] K _
  exact hfin listed hs (all listed (by omega))
 | succ fuel ih =>
  intro t listed hs hc hf
  rw [go_succ]
  have hrd : ∀ i, i ∈ ready m ops listed ↔ ∃ h : i < ops.size, doneOf listed i = false ∧ ∀ e ∈ (ops[i]'h).after.toList, Region.binds m e = true → doneOf listed e.on = true := by
   intro i
   unfold ready
   rw [List.mem_filter, List.mem_range]
   constructor
   ·rintro ⟨h1, h2⟩
    rw [Bool.and_eq_true] at h2
    refine ⟨h1, ?_, ?_⟩
    ·have := h2.1
     simp only [doneOf, Array.getD_eq_getD_getElem?] at this ⊢
     rw [Array.getElem?_eq_getElem (by omega)] at this ⊢
     simpa using this
    ·intro e he hb
     have h3 := h2.2
     rw [Array.getElem?_eq_getElem h1] at h3
     simp only [Option.map_some, Option.getD_some, Array.all_eq_true'] at h3
     have h4 := h3 e (by simpa using he)
     rw [hb] at h4
     simpa [doneOf] using h4
   ·rintro ⟨h1, h2, h3⟩
    refine ⟨h1, ?_⟩
    rw [Bool.and_eq_true]
    constructor
    ·simp only [doneOf, Array.getD_eq_getD_getElem?] at h2 ⊢
     rw [Array.getElem?_eq_getElem (by omega)] at h2 ⊢
     simpa using h2
    ·rw [Array.getElem?_eq_getElem h1]
     simp only [Option.map_some, Option.getD_some, Array.all_eq_true']
     intro ed hed
     cases hb : Region.binds m ed with
     | false => rfl
     | true =>
      have : doneOf listed ed.on = true := h3 ed (by simpa using hed) hb
      unfold doneOf at this
      rw [this]; rfl
  have hdeps : ∀ i, i ∈ ready m ops listed → ∀ e ∈ deps ops i, doneOf listed e = true := by
   intro i hi e he
   obtain ⟨h1, _, h3⟩ := (hrd i).mp hi
   simp only [deps, Array.getElem?_eq_getElem h1, Option.map_some, Option.getD_some, List.mem_map, List.mem_filter] at he
   obtain ⟨ed, ⟨hed, hb⟩, rfl⟩ := he
   exact h3 ed hed (binds_any hb)
  cases hg : (ready m ops listed)[t % (ready m ops listed).length]? with
  | some i =>
   simp only
   have hmem := List.mem_of_getElem? hg
   obtain ⟨hi1, hi2, _⟩ := (hrd i).mp hmem
   rw [go_acc]
   simp only [List.reverse_cons, List.reverse_nil, List.nil_append, List.singleton_append, List.filterMap_cons, Array.getElem?_eq_getElem hi1]
   refine hstep listed i _ _ hs hc hi2 (hdeps i hmem) (Array.getElem?_eq_getElem hi1) ?_
   have hset := doneOf_set (listed := listed) (i := i) (by omega)
   refine ih _ _ (by simpa using hs) ?_ ?_
   ·intro j hj e he
    rw [hset] at hj ⊢
    unfold orAt at hj ⊢
    rw [Bool.or_eq_true] at hj ⊢
    rcases hj with hj | hj
    ·exact .inl (hc j hj e he)
    ·have := Nat.eq_of_beq_eq_true hj
     subst this
     exact .inl (hdeps _ hmem e he)
   ·rw [hset]
    have h1 : ((List.range ops.size).filter fun j => !orAt (doneOf listed) i j).length < ((List.range ops.size).filter fun j => !doneOf listed j).length := by
     have h2 : ((List.range ops.size).filter fun j => !orAt (doneOf listed) i j) = ((List.range ops.size).filter fun j => !doneOf listed j).filter fun j => !Nat.beq j i := by
      rw [List.filter_filter]
      refine List.filter_congr fun j _ => ?_
      unfold orAt
      cases doneOf listed j <;> cases Nat.beq j i <;> rfl
     rw [h2]
     refine List.length_filter_lt_length_iff_exists.mpr ⟨i, ?_, by simp [Nat.beq_refl]⟩
     rw [List.mem_filter]
     exact ⟨List.mem_range.mpr hi1, by rw [hi2]; rfl⟩
    omega
  | none =>
   simp only [List.reverse_nil, List.filterMap_nil]
   refine hfin listed hs ?_
   have hnil : ready m ops listed = [] := by
    cases hr : ready m ops listed with
    | nil => rfl
    | cons a l =>
     rw [hr, List.getElem?_eq_none_iff] at hg
     have := Nat.mod_lt t (show 0 < (a :: l).length by simp)
     omega
   have key : ∀ k i, rk i = k → i < ops.size → doneOf listed i = true := by
    intro k
    induction k using Nat.strongRecOn with
    | _ k ihk =>
     intro i hk hi
     cases hd : doneOf listed i with
     | true => rfl
     | false =>
      have : i ∈ ready m ops listed := (hrd i).mpr ⟨hi, hd, fun e he hb => by
       obtain ⟨h1, h2⟩ := hrk i hi e he hb
       exact ihk (rk e.on) (by omega) e.on rfl h1⟩
      rw [hnil] at this
      cases this
   exact fun i hi => key _ i rfl hi
end
end Go.Abs
