/-
 Drawn regions, told by what each operation yields: what it reads, and the orders, are computed.
-/
import Derived.Test.YtdpakmmkponfmaaAbsZ
set_option linter.unusedVariables false
set_option linter.unusedSimpArgs false
namespace Go.Abs
/-- an operation of a drawn region: its place and value, the slots and objects that it reads, the objects that it writes, the number of a new one. -/
structure KF where
 dst : Option Nat
 val : D
 rs : List Nat
 ro : List Nat
 wo : List (Nat × Option AObj)
 tok : Option RG
abbrev kf (d : Nat) (v : D) (rs : List Nat) : KF := ⟨some d, v, rs, [], [], none⟩
def mkFeet : Nat → (Nat → D) → (Nat → Option AObj) → List KF → List (Nat × Foot)
 | _, _, _, [] => []
 | i, F, H, k :: ks => (i, ⟨k.dst, k.val, k.rs.map fun t => (t, F t), k.ro.map fun q => (q, H q), k.wo, k.tok⟩) ::
   mkFeet (i + 1) (fun t => bif (k.dst == some t) then k.val else F t) (fun q => (look q k.wo).getD (H q)) ks
def insN (l : List Nat) (x : Nat) : List Nat := bif l.contains x then l else l ++ [x]
def bOf (l : List Oper) : List (List Nat) :=
 (List.range l.length).foldl (fun B i => B ++ [(deps l.toArray i).foldl (fun a e => (B.getD e []).foldl insN (insN a e)) []]) []
def gStep (l : List Oper) (G : List Nat) : List Nat := l.map fun o => (o.after.toList.filter (Region.binds .gc)).foldl (fun a e => bif Nat.ble (G.getD e.on 0 + 1) a then a else G.getD e.on 0 + 1) 0
def gOf (l : List Oper) : List Nat := Nat.repeat (gStep l) l.length (List.replicate l.length 0)

theorem AllF.of_all {p : Nat × Foot → Prop} : ∀ {l : List (Nat × Foot)}, (∀ x ∈ l, p x) → AllF p l
 | [], _ => trivial
 | y :: l, h => ⟨h y (by simp), AllF.of_all fun x hx => h x (by simp [hx])⟩
theorem AllS.of_all {F0 : Nat → D} {feet : List (Nat × Foot)} {done : Nat → Bool} : ∀ {l : List (Nat × D)}, (∀ td ∈ l, slD F0 feet done td.1 = td.2) → AllS F0 feet done l
 | [], _ => trivial
 | y :: l, h => ⟨h y (by simp), AllS.of_all fun x hx => h x (by simp [hx])⟩
theorem AllH.of_all {H0 : Nat → Option AObj} {feet : List (Nat × Foot)} {done : Nat → Bool} : ∀ {l : List (Nat × Option AObj)}, (∀ td ∈ l, hpD H0 feet done td.1 = td.2) → AllH H0 feet done l
 | [], _ => trivial
 | y :: l, h => ⟨h y (by simp), AllH.of_all fun x hx => h x (by simp [hx])⟩

theorem mkFeet_split (F0 : Nat → D) (H0 : Nat → Option AObj) : ∀ (ks : List KF) (pre : List (Nat × Foot)) (i : Nat) (F : Nat → D) (H : Nat → Option AObj),
  (∀ t, F t = slD F0 pre (fun _ => true) t) → (∀ q, H q = hpD H0 pre (fun _ => true) q) → ∀ jf ∈ mkFeet i F H ks,
  ∃ p s, pre ++ mkFeet i F H ks = p ++ jf :: s ∧ (∀ td ∈ jf.2.rs, td.2 = slD F0 p (fun _ => true) td.1) ∧ ∀ qc ∈ jf.2.ro, qc.2 = hpD H0 p (fun _ => true) qc.1
 | [], pre, i, F, H, _, _, jf, hm => by cases hm
 | k :: ks, pre, i, F, H, hF, hH, jf, hm => by
  simp only [mkFeet] at hm ⊢
  rcases List.mem_cons.mp hm with rfl | hm
  ·refine ⟨pre, _, rfl, fun td htd => ?_, fun qc hqc => ?_⟩
   ·obtain ⟨t, _, rfl⟩ := List.mem_map.mp htd; exact hF t
   ·obtain ⟨q, _, rfl⟩ := List.mem_map.mp hqc; exact hH q
  ·obtain ⟨p, s, h1, h2, h3⟩ := mkFeet_split F0 H0 ks (pre ++ [(i, ⟨k.dst, k.val, k.rs.map fun t => (t, F t), k.ro.map fun q => (q, H q), k.wo, k.tok⟩)]) (i + 1) _ _ (fun t => by
    unfold slD
    rw [List.foldl_append]
    simp only [List.foldl_cons, List.foldl_nil, frStep, Bool.true_and]
    rw [hF t]; rfl) (fun q => by
    unfold hpD
    rw [List.foldl_append]
    simp only [List.foldl_cons, List.foldl_nil, hpStep, cond_true]
    rw [hH q]; rfl) jf hm
   exact ⟨p, s, by rw [← h1]; simp, h2, h3⟩

theorem look_none {p : Nat} {l : List (Nat × Option AObj)} (h : has p l = false) : look p l = none := by
 cases hl : look p l with
 | none => rfl
 | some c => have := has_look (p := p) (l := l) (by rw [hl]; simp); rw [h] at this; cases this

theorem tkF1 {p : RG} {L q : Nat} {f : Foot} {o : Option AObj} (hv : tkD p L f.val = true) (hw : f.wo = [(q, o)]) (ho : tkO p L o = true) : tkFoot p L f = true := by
 unfold tkFoot; rw [hv, hw]; simp [ho]
theorem tkF2 {p : RG} {L q q' : Nat} {f : Foot} {o o' : Option AObj} (hv : tkD p L f.val = true) (hw : f.wo = [(q, o), (q', o')]) (ho : tkO p L o = true) (ho' : tkO p L o' = true) : tkFoot p L f = true := by
 unfold tkFoot; rw [hv, hw]; simp [ho, ho']
theorem oC0 {p : RG} {L : Nat} : ([] : List (Nat × Option AObj)).all (fun qc => tkO p L qc.2) = true := rfl
theorem oC {p : RG} {L q : Nat} {o : Option AObj} {wo : List (Nat × Option AObj)} (h : tkO p L o = true) (hw : wo.all (fun qc => tkO p L qc.2) = true) : ((q, o) :: wo).all (fun qc => tkO p L qc.2) = true := by
 rw [List.all_cons, hw]; simp [h]
theorem tkFn {p : RG} {L : Nat} {f : Foot} {wo : List (Nat × Option AObj)} (hv : tkD p L f.val = true) (hw : f.wo = wo) (h : wo.all (fun qc => tkO p L qc.2) = true) : tkFoot p L f = true := by
 unfold tkFoot; rw [hv, hw, h]; rfl
theorem AW.draw2 {pr : Program} {x : Ctx} {K : Exit → St → Prop} {id : Nat} {l : List Oper} {n : Nat} {F0 : Nat → D} {Hs : List (Option AObj)} (L : Nat) (ks : List KF) (hstepfin :
  AllStep pr x l.toArray n L l (mkFeet 0 F0 (fun q => Hs.getD q none) ks) ∧
  AWops pr x l.toArray [] K ⟨n, slD F0 (mkFeet 0 F0 (fun q => Hs.getD q none) ks) (fun _ => true), mkH L (hpD (fun q => Hs.getD q none) (mkFeet 0 F0 (fun q => Hs.getD q none) ks) fun _ => true)⟩)
  (hL : Nat.ble Hs.length L = true := by rfl) (hchk : chkAll (gOf l) l.toArray n L (bOf l) (mkFeet 0 F0 (fun q => Hs.getD q none) ks) = true := by rfl)
  {TK : List (Nat × RG)} (hTK : (mkFeet 0 F0 (fun q => Hs.getD q none) ks).filterMap (fun jf => jf.2.tok.map fun p => (jf.1, p)) = TK := by rfl)
  (htk : AllK (fun i p => (∀ t, tkD p L (F0 t) = true) ∧ AllT p L Hs ∧ AllF (fun jf => (Bi (bOf l) jf.1 i || Nat.beq jf.1 i) = true ∨ tkFoot p L jf.2 = true) (mkFeet 0 F0 (fun q => Hs.getD q none) ks)) TK := by repeat' (first | exact AllK.nil' | refine AllK.cons' ⟨?_, ?_, ?_⟩ ?_ | exact tk_top | refine tk_upd ?_ rfl | exact AllT.nil' | refine tC rfl ?_ | refine tC (tkO_row _) ?_ | exact AllF.nil' | refine fC (.inl rfl) ?_ | refine fC (.inr rfl) ?_ | refine fC (.inr (tkF1 rfl rfl (tkO_row _))) ?_ | refine fC (.inr (tkF2 rfl rfl (tkO_row _) rfl)) ?_ | refine fC (.inr (tkF2 rfl rfl rfl (tkO_row _))) ?_ | refine fC (.inr (tkF2 rfl rfl (tkO_row _) (tkO_row _))) ?_ | refine fC (.inr (tkFn rfl rfl (by repeat' (first | exact oC0 | refine oC rfl ?_ | refine oC (tkO_row _) ?_)))) ?_)) :
  AW pr x (.region id l.toArray true) K ⟨n, F0, Hs⟩ := by
 obtain ⟨hstep, hfin⟩ := hstepfin
 refine AW.draw (mkFeet 0 F0 (fun q => Hs.getD q none) ks) (bOf l) (Nat.le_of_ble_eq_true hL) (gOf l) hchk hTK htk ?_ hstep hfin
 have hc := hchk
 unfold chkAll at hc
 simp only [Bool.and_eq_true] at hc
 obtain ⟨⟨⟨⟨⟨c1, c6⟩, c2⟩, c3⟩, c4⟩, c5⟩ := hc
 generalize hfe : mkFeet 0 F0 (fun q => Hs.getD q none) ks = feet at *
 have hlen : feet.length = l.length := by simpa using Nat.eq_of_beq_eq_true c2
 rw [List.all_eq_true] at c3 c4
 have hnum : ∀ (p s : List (Nat × Foot)) jf, feet = p ++ jf :: s → jf.1 = p.length ∧ (∀ y ∈ p, y.1 < p.length) ∧ (∀ y ∈ s, p.length < y.1) := by
  intro p s jf hx
  have h5 : feet.map (·.1) = List.range feet.length := by simpa using c5
  have at_ : ∀ j (hj : j < feet.length), (feet[j]).1 = j := by
   intro j hj
   have h6 : (feet.map (·.1))[j]? = some j := by rw [h5]; simp [hj]
   rw [List.getElem?_map, List.getElem?_eq_getElem hj] at h6
   simpa using h6
  refine ⟨?_, fun y hy => ?_, fun y hy => ?_⟩
  ·have := at_ p.length (by rw [hx]; simp)
   simpa [hx] using this
  ·obtain ⟨j, hj, rfl⟩ := List.getElem_of_mem hy
   have := at_ j (by rw [hx]; simp; omega)
   simp only [hx, List.getElem_append_left hj] at this
   omega
  ·obtain ⟨j, hj, rfl⟩ := List.getElem_of_mem hy
   have := at_ (p.length + 1 + j) (by rw [hx]; simp; omega)
   have h7 : feet[p.length + 1 + j]? = some s[j] := by
    rw [hx, List.getElem?_append_right (by omega), show p.length + 1 + j - p.length = j + 1 by omega, List.getElem?_cons_succ, List.getElem?_eq_getElem hj]
   rw [List.getElem?_eq_getElem (by rw [hx]; simp; omega)] at h7
   rw [Option.some.inj h7] at this
   omega
 have hlow : ∀ i b, i < l.length → Bi (bOf l) i b = true → b < i := by
  intro i b hi hb
  have h1 := c3 i (by simpa using hi)
  unfold chkB at h1
  rw [Bool.and_eq_true, List.all_eq_true, List.all_eq_true] at h1
  have h2 := h1.2 b (by simpa [Bi] using hb)
  rw [Bool.and_eq_true] at h2
  exact Nat.le_of_ble_eq_true h2.1
 refine AllF.of_all fun jf hjf => ?_
 obtain ⟨p, s, h1, h2, h3⟩ := mkFeet_split F0 (fun q => Hs.getD q none) ks [] 0 F0 (fun q => Hs.getD q none) (fun _ => rfl) (fun _ => rfl) jf (by rw [hfe]; exact hjf)
 rw [hfe, List.nil_append] at h1
 obtain ⟨n1, n2, n3⟩ := hnum p s jf h1
 have hpl : p.length < l.length := by rw [← hlen, h1]; simp
 have hk := c4 jf hjf
 unfold chk1 at hk
 simp only [Bool.and_eq_true] at hk
 obtain ⟨⟨⟨k1, k2⟩, _⟩, _⟩ := hk
 rw [List.all_eq_true] at k1 k2
 have hcmp : ∀ y ∈ p, cmp (bOf l) jf.1 y.1 = true → Bi (bOf l) jf.1 y.1 = true := by
  intro y hy hc
  have hlt := n2 y hy
  unfold cmp at hc
  rw [Bool.or_eq_true, Bool.or_eq_true] at hc
  rcases hc with (hc | hc) | hc
  ·exact hc
  ·have := hlow y.1 jf.1 (by omega) hc; omega
  ·have := Nat.eq_of_beq_eq_true hc; omega
 have hoff : ∀ y ∈ jf :: s, Bi (bOf l) jf.1 y.1 = false := by
  intro y hy
  cases hb : Bi (bOf l) jf.1 y.1 with
  | false => rfl
  | true =>
   have := hlow jf.1 y.1 (by omega) hb
   rcases List.mem_cons.mp hy with rfl | hy
   ·omega
   ·have := n3 y hy; omega
 refine ⟨AllS.of_all fun td htd => ?_, AllH.of_all fun qc hqc => ?_⟩
 ·rw [h2 td htd, h1]
  unfold slD
  rw [List.foldl_append, foldl_keep (jf :: s) _ (fun y hy b => by unfold frStep; rw [hoff y hy]; rfl)]
  refine foldl_agree p _ fun y hy b => ?_
  have h4 := k1 td htd
  rw [List.all_eq_true] at h4
  have h5 := h4 y (by rw [h1]; simp [hy])
  unfold frStep
  cases hd : (y.2.dst == some td.1) with
  | false => simp
  | true =>
   rw [hd, Bool.not_true, Bool.false_or] at h5
   rw [hcmp y hy h5]
 ·rw [h3 qc hqc, h1]
  unfold hpD
  rw [List.foldl_append, foldl_keep (jf :: s) _ (fun y hy b => by unfold hpStep; rw [hoff y hy]; rfl)]
  refine foldl_agree p _ fun y hy b => ?_
  have h4 := k2 qc hqc
  rw [List.all_eq_true] at h4
  have h5 := h4 y (by rw [h1]; simp [hy])
  unfold hpStep
  cases hd : has qc.1 y.2.wo with
  | false => rw [look_none hd]; cases Bi (bOf l) jf.1 y.1 <;> rfl
  | true =>
   rw [hd, Bool.not_true, Bool.false_or] at h5
   rw [hcmp y hy h5]
end Go.Abs
