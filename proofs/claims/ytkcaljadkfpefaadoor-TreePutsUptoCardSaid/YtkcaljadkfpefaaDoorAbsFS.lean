/-
 A function's rest, over a world that is taken as it stands: what was there may be told at any later time, as long as nobody writes it.
-/
import Derived.Test.YtkcaljadkfpefaaDoorAbsFR
set_option linter.unusedVariables false
set_option linter.unusedSimpArgs false
namespace Go.Abs
/-- a value as it is. -/
abbrev ex (v : Value) : C := .p true (.v v)
abbrev exO (vs : List Value) : Option AObj := some (.cells false (vs.map ex))
/-- what stood in the world that a rest began with. -/
def Typed (x : Ctx) (vs : List Value) (ps : List P) : Prop := All2 (PRel x.w0 x.S0) vs ps
/-- what stood there is not written. -/
def Apart (x : Ctx) : Prop := ∀ b, x.S0 b → b < x.base ∧ ¬ x.wr b

section
variable {pr : Program} {x : Ctx} {K : Exit → St → Prop} {st : St} {a : Act} {w : World} {S : Nat → Prop} {g : G}

theorem All2.of_get {α β : Type} {R : α → β → Prop} : ∀ {xs : List α} {ys : List β}, xs.length = ys.length → (∀ i (h : i < xs.length) (h' : i < ys.length), R (xs[i]'h) (ys[i]'h')) → All2 R xs ys
 | [], [], _, _ => .nil
 | [], _ :: _, h, _ => by cases h
 | _ :: _, [], h, _ => by cases h
 | x :: xs, y :: ys, h, hr => .cons (hr 0 (by simp) (by simp)) (All2.of_get (by simpa using h) fun i h1 h2 => hr (i + 1) (by simp; omega) (by simp; omega))

/-- an object's values, as they are. -/
theorem Sim.exact (hs : Sim x st a w S g) {t : Nat} {f : Bool} {ps : List P} (hl : Live st.H t (.cells f (ps.map mkC))) :
  ∃ vs, All2 (PRel w S) vs ps ∧ ORel w S w.heap.size g t (.cells false (vs.map ex)) := by
 rcases hs.ok.obj t _ hl with ⟨h1, h2⟩ | ⟨b, N, arr, e, h1, h2, h3, h4, h5, h6⟩
 ·have : ps = [] := by simpa using h2
  subst this
  exact ⟨[], .nil, .inl ⟨h1, rfl⟩⟩
 ·simp only [List.length_map] at h5 h6
  have hp : ∀ j (h : j < ps.length), PRel w S (arr.getD j undef) ps[j] := fun j h => by
   have := h6 j h
   rw [List.getElem_map] at this
   exact (mkC_inv this).weak fun b hb => hb.1
  refine ⟨(List.range ps.length).map (fun j => arr.getD j undef), .of_get (by simp) fun i h h' => ?_, .inr ⟨b, N, arr, e, h1, (fun h => by cases h), h3, h4, by simpa using h5, fun j hj => ?_⟩⟩
  ·simp only [List.getElem_map, List.getElem_range]; exact hp i h'
  ·simp only [List.length_map, List.length_range] at hj
   simp only [List.getElem_map, List.getElem_range]
   exact .p (.v _ (hp j hj).one)

/-- slots that lead to objects, or of which nothing is told. -/
def Refs (fr : Nat → D) : Prop := ∀ i, fr i = .one .top ∨ ∃ t o, fr i = .one (.ref t o)
theorem refs_top : Refs topF := fun _ => .inl rfl
theorem refs_upd {fr : Nat → D} (h : Refs fr) {n i t o : Nat} : Refs (upd n fr i (.one (.ref t o))) := by
 intro j
 unfold upd
 cases (Nat.beq j i && Nat.blt i n)
 ·exact h j
 ·exact .inr ⟨t, o, rfl⟩

theorem live3 {o0 o1 o2 o : AObj} {t : Nat} (h : Live [some o0, some o1, some o2] t o) : (t = 0 ∧ o = o0) ∨ (t = 1 ∧ o = o1) ∨ (t = 2 ∧ o = o2) := by
 have := h.lt
 match t, h with
 | 0, h => exact .inl ⟨rfl, by simpa [Live] using h.symm⟩
 | 1, h => exact .inr (.inl ⟨rfl, by simpa [Live] using h.symm⟩)
 | 2, h => exact .inr (.inr ⟨rfl, by simpa [Live] using h.symm⟩)

/-- the rest of a function with one number or truth as its result, over the world as it stands. -/
theorem AW.rebase {c : Code} {n : Nat} {fr : Nat → D} {f0 f1 f2 : Bool} {ps0 ps1 ps2 : List P} (hGL : ∀ b, GL b = none) (hk : x.k = 0) (hfr : Refs fr) {i : Nat} {v : Value}
  (hK : ∀ e, (e = .normal ∨ e = .ret) → K e ⟨n, upd n topF i (sc v), []⟩)
  (h : ∀ (x : Ctx) (vs0 vs1 vs2 : List Value), x.k = 3 → Apart x → Typed x vs0 ps0 → Typed x vs1 ps1 → Typed x vs2 ps2 →
   AW pr x c (fun e st => (e = .normal ∨ e = .ret) ∧ st.n = n ∧ ∃ f, st.fr i = .one (.p f (.v v))) ⟨n, fr, [exO vs0, exO vs1, exO vs2]⟩) :
  AW pr x c K ⟨n, fr, [some (.cells f0 (ps0.map mkC)), some (.cells f1 (ps1.map mkC)), some (.cells f2 (ps2.map mkC))]⟩ := by
 intro a w S g hs
 obtain ⟨vs0, ht0, ho0⟩ := hs.exact (t := 0) (ps := ps0) rfl
 obtain ⟨vs1, ht1, ho1⟩ := hs.exact (t := 1) (ps := ps1) rfl
 obtain ⟨vs2, ht2, ho2⟩ := hs.exact (t := 2) (ps := ps2) rfl
 let H := [some (AObj.cells f0 (ps0.map mkC)), some (.cells f1 (ps1.map mkC)), some (.cells f2 (ps2.map mkC))]
 let y : Ctx := { base := w.heap.size, w0 := w, wr := argB g H, S0 := S, k := 3, g0 := g }
 have hlv : ∀ t o, Live [exO vs0, exO vs1, exO vs2] t o → ∃ o', Live H t o' := by
  intro t o hl
  rcases live3 hl with ⟨rfl, _⟩ | ⟨rfl, _⟩ | ⟨rfl, _⟩ <;> exact ⟨_, rfl⟩
 have hsim : Sim y ⟨n, fr, [exO vs0, exO vs1, exO vs2]⟩ a w S g := by
  refine ⟨hs.size, hs.nodef, fun j => ?_, ⟨?_, ?_, hs.ok.st, ?_, hs.ok.dom, ?_, hs.ok.glob⟩, fun b hb => .inr (.inl hb), ?_, ⟨rfl, rfl, rfl, Nat.le_refl _, fun _ _ _ => rfl⟩, fun _ _ => rfl, Nat.le_refl _⟩
  ·have := hs.fr j
   show DRel w S w.heap.size g _ (fr j)
   have h2 : DRel w S x.base g (a.tmps.getD j undef) (fr j) := this
   rcases hfr j with he | ⟨t, o, he⟩
   ·rw [he]; exact .top _
   ·rw [he] at h2 ⊢
    generalize a.tmps.getD j undef = u at h2 ⊢
    cases h2 with | t h2 => cases h2 with | one h2 => cases h2 with | ref hg => exact .t (.one (.ref hg))
  ·intro t o hl
   rcases live3 hl with ⟨rfl, rfl⟩ | ⟨rfl, rfl⟩ | ⟨rfl, rfl⟩ <;> assumption
  ·intro t t' o o' b N N' h1 h2
   obtain ⟨q, h1⟩ := hlv t o h1
   obtain ⟨q', h2⟩ := hlv t' o' h2
   exact hs.ok.inj t t' q q' b N N' h1 h2
  ·intro b t o N hb h1
   obtain ⟨q, h1⟩ := hlv t o h1
   exact hs.ok.dis b t q N hb h1
  ·intro t o b N h1
   obtain ⟨q, h1⟩ := hlv t o h1
   exact hs.ok.lt t q b N h1
  ·intro t o b N h1 hg
   obtain ⟨q, h1⟩ := hlv t o h1
   exact .inr ⟨t, q, N, h1, hg⟩
 have hap : Apart y := fun b hb => ⟨hs.ok.st b hb, fun ⟨t, o, N, h1, h2⟩ => hs.ok.dis b t o N hb h1 h2⟩
 refine wp_mono (h y vs0 vs1 vs2 rfl hap ht0 ht1 ht2 a w S g hsim) ?_
 rintro e a' w' ⟨st, S', g', h1, he, hn, f, hv⟩
 refine ⟨⟨n, upd n topF i (sc v), []⟩, fun _ => False, fun _ => none, ⟨h1.size.trans hn, h1.nodef, fun j => ?_, ⟨?_, ?_, ?_, ?_, ?_, ?_, ?_⟩, ?_, ?_, ?_, ?_, ?_⟩, hK e he⟩
 ·show DRel w' _ x.base _ _ (upd n topF i (sc v) j)
  unfold upd
  cases hc : (Nat.beq j i && Nat.blt i n) with
  | false => exact .top _
  | true =>
   have hj : j = i := by simp only [Bool.and_eq_true, Nat.beq_eq] at hc; exact hc.1
   subst hj
   have h2 := h1.fr j
   rw [hv] at h2
   simp only [cond_true]
   generalize a'.tmps.getD j undef = u at h2 ⊢
   cases h2 with | t h2 => cases h2 with | one h2 => cases h2 with | p h2 => cases h2 with | v _ h3 => exact .sc _ h3
 ·intro t o hl; cases hl.lt
 ·intro t t' o o' b N N' hl; cases hl.lt
 ·intro b hb; exact hb.elim
 ·intro b t o N hb; exact hb.elim
 ·intro t _; rfl
 ·intro t o b N hl; cases hl.lt
 ·intro b ps hb; rw [hGL] at hb; cases hb
 ·intro b hb; exact hb.elim
 ·intro t o b N hl; cases hl.lt
 ·refine ⟨h1.ext.tape.trans hs.ext.tape, h1.ext.os.trans hs.ext.os, h1.ext.output.trans hs.ext.output, Nat.le_trans hs.ext.size h1.ext.size, fun b hb hwr => ?_⟩
  rw [h1.ext.frame b (Nat.lt_of_lt_of_le hb hs.ext.size) (fun ⟨t, o, N, h2, h3⟩ => by
   rcases hs.wr t o b N h2 h3 with h4 | h4
   ·omega
   ·exact hwr h4)]
  exact hs.ext.frame b hb hwr
 ·intro t ht; omega
 ·rw [hk]; exact Nat.zero_le _

/-- what stood there may be told anew. -/
theorem AWops.retype {n i : Nat} {fr : Nat → D} {H : List (Option AObj)} {l : List Oper} {ops : Array Oper} {vs : List Value} {ps : List P} (hap : Apart x) (ht : Typed x vs ps)
  (k : AWops pr x ops l K ⟨n, upd n fr i (.agg (ps.map mkC)), H⟩) : AWops pr x ops l K ⟨n, upd n fr i (.agg (vs.map ex)), H⟩ := by
 intro a w S g hs
 have hsub : ∀ b, S b → (fun b => S b ∨ x.S0 b) b ∧ w.heap[b]? = w.heap[b]? := fun b hb => ⟨.inl hb, rfl⟩
 have hold : ∀ b, x.S0 b → (fun b => S b ∨ x.S0 b) b ∧ w.heap[b]? = x.w0.heap[b]? := fun b hb => ⟨.inr hb, hs.ext.frame b (hap b hb).1 (hap b hb).2⟩
 refine k a w (fun b => S b ∨ x.S0 b) g ⟨hs.size, hs.nodef, fun j => ?_, ⟨fun t o h => (hs.ok.obj t o h).mono hsub (fun _ _ h => h) (fun _ _ _ => rfl), hs.ok.inj, ?_, ?_, hs.ok.dom, hs.ok.lt, hs.ok.glob.mono hsub⟩, ?_, hs.wr, hs.ext, hs.par, hs.kl⟩
 ·have hj := hs.fr j
  show DRel w _ x.base g _ (upd n fr i (.agg (ps.map mkC)) j)
  have hj' : DRel w S x.base g (a.tmps.getD j undef) (upd n fr i (.agg (vs.map ex)) j) := hj
  unfold upd at hj' ⊢
  cases hc : (Nat.beq j i && Nat.blt i n) with
  | false => rw [hc] at hj'; exact hj'.mono hsub (fun _ _ h => h)
  | true =>
   rw [hc] at hj'
   simp only [cond_true] at hj' ⊢
   generalize a.tmps.getD j undef = v at hj' ⊢
   cases hj' with
   | t hj' =>
    cases hj' with
    | agg us hl hr =>
     have hlen := ht.len
     simp only [List.length_map] at hl hr
     refine .t (.agg us (by simp only [List.length_map]; omega) fun q h1 h2 => ?_)
     simp only [List.length_map] at h1
     rw [List.getElem_map]
     have h3 := hr q (by omega) h2
     rw [List.getElem_map] at h3
     have h4 := ht.get q (by omega) h1
     generalize us[q] = u1 at h3 ⊢
     generalize vs[q] = u2 at h3 h4
     cases h3 with
     | p h3 => cases h3 with | v _ h5 => exact mkC_rel ((h4.mono hold).weak fun b hb => ⟨hb, fun h => by cases h⟩)
 ·rintro b (hb | hb)
  ·exact hs.ok.st b hb
  ·exact Nat.lt_of_lt_of_le (hap b hb).1 hs.ext.size
 ·rintro b t o N (hb | hb) hl hg
  ·exact hs.ok.dis b t o N hb hl hg
  ·rcases hs.wr t o b N hl hg with h | h
   ·have := (hap b hb).1; omega
   ·exact (hap b hb).2 h
 ·rintro b (hb | hb)
  ·exact hs.s0 b hb
  ·exact .inr (.inl hb)

/-- told as any list. -/
theorem AWops.unfs {n i m len : Nat} {fr : Nat → D} {f : Bool} {H : List (Option AObj)} {l : List Oper} {ops : Array Oper} {cs : List P}
  (k : AWops pr x ops l K ⟨n, upd n fr i (.one (.p false (.sl len cs))), H⟩) : AWops pr x ops l K ⟨n, upd n fr i (.one (.p f (.fsl m len cs))), H⟩ := by
 intro a w S g hs
 refine k a w S g ⟨hs.size, hs.nodef, fun j => ?_, hs.ok, hs.s0, hs.wr, hs.ext, hs.par, hs.kl⟩
 have hj := hs.fr j
 show DRel w S x.base g _ (upd n fr i (.one (.p false (.sl len cs))) j)
 have hj' : DRel w S x.base g (a.tmps.getD j undef) (upd n fr i (.one (.p f (.fsl m len cs))) j) := hj
 unfold upd at hj' ⊢
 cases hc : (Nat.beq j i && Nat.blt i n) with
 | false => rw [hc] at hj'; exact hj'
 | true =>
  rw [hc] at hj'
  simp only [cond_true] at hj' ⊢
  generalize a.tmps.getD j undef = v at hj' ⊢
  cases hj' with
  | t hj' =>
   cases hj' with
   | one hj' => cases hj' with | p hj' => exact .t (.one (.p (hj'.unf.weak fun b hb => ⟨hb.1, fun h => by cases h⟩)))

section
variable {ops : Array Oper} {rest : List Oper} {dst : Option Tmp} {ty : TypeId} {pos : String} {aft : Array Edge}
/-- an element's address, in a block made since. -/
theorem s_indexF {t e : TypeId} {y z : Operand} {m n : Nat} {kd : IntKind} {i : Int} {f1 fr : Bool} {cs : List P} {p : P} (ht : pr.underlying t = some (.slice e)) (hsz : szOf pr e = some 1)
  (hy : st.val y = .one (.p fr (.fsl m n cs))) (hz : st.val z = .one (.p f1 (.v (.int kd i)))) (h0 : 0 ≤ i) (h1 : i < n) (hp : cs[i.toNat]? = some p)
  (k : AWops pr x ops rest K (st.put dst (.one (.p fr (.fptr m p))))) : AWops pr x ops (⟨dst, .indexAddr t y z, ty, pos, aft, none⟩ :: rest) K st :=
 AWops.pure _ (fun a w S g hs => by
  have h := hy ▸ hs.val y
  have hi := (hz ▸ hs.val z).of_v
  generalize hq : a.eval y = q at h
  cases h with
  | t h =>
   cases h with
   | one h =>
    cases h with
    | p h =>
     cases h with
     | fnil _ ad cap => exact absurd h1 (by simp; exact h0)
     | fsl _ b o _ cap _ us hb hm hzz hn hc hr =>
      obtain ⟨hlt, he⟩ := List.getElem?_eq_some_iff.mp hp
      refine ⟨.pointer (some ⟨b, o + i.toNat, none⟩), ?_, .t (.one (.p (.fptr m b (o + i.toNat) (us i.toNat) p hb hm hzz (hc _ hlt) (he ▸ hr _ hlt))))⟩
      have := add_addr b o i.toNat
      simp [execOp, hq, hi, Instr.indexAt, asIntOf, run_underlying ht, h0, h1, run_size hsz, add_addr]) k

/-- what stands there. -/
theorem s_loadF {t : TypeId} {y : Operand} {m : Nat} {f : Bool} {v : Value} (ha : aggOf pr t = some false) (hy : st.val y = .one (.p f (.fptr m (.v v)))) (k : AWops pr x ops rest K (st.put dst (sc v))) :
  AWops pr x ops (⟨dst, .load t y, ty, pos, aft, none⟩ :: rest) K st :=
 AWops.pure _ (fun a w S g hs => by
  have h := hy ▸ hs.val y
  generalize hq : a.eval y = q at h
  cases h with
  | t h =>
   cases h with
   | one h =>
    cases h with
    | p h =>
     cases h with
     | fptr _ b o u _ hb hm hz hc hr =>
      cases hr with
      | v _ h1 => exact ⟨v, by simp [execOp, hq, Instr.loadAt, Instr.sureAddr, loadVar, run_agg ha, hc], .sc v h1⟩) k

def solidC : C → Bool
 | .p _ (.v _) => true
 | .own _ _ _ _ => true
 | .ref _ _ => true
 | .top => true
 | _ => false
def solidD : D → Bool
 | .one c => solidC c
 | .agg cs => cs.all solidC
 | .tup _ => false
theorem CRel.solid {w w' : World} {S S' : Nat → Prop} {base : Nat} {g : G} {v : Value} {c : C} (h : CRel w S base g v c) (hc : solidC c = true) : CRel w' S' base g v c := by
 cases h with
 | @p f x p h =>
  cases p with
  | v y => cases h with | v _ h1 => exact .p (.v _ h1)
  | _ => cases hc
 | own hg hn hN => exact .own hg hn hN
 | own0 a hg => exact .own0 a hg
 | ref hg => exact .ref hg
 | top => exact .top _
 | _ => cases hc
/-- what a store into a block of the kind leaves of a frame. -/
def Sf (fr fr' : Nat → D) : Prop := ∀ i, fr' i = .one .top ∨ (fr' i = fr i ∧ solidD (fr i) = true)
theorem sf_top {fr : Nat → D} : Sf fr topF := fun _ => .inl rfl
theorem sf_upd {fr fr' : Nat → D} (h : Sf fr fr') {n i : Nat} {d : D} (hd : fr i = d) (hs : solidD d = true) : Sf fr (upd n fr' i d) := by
 intro j
 unfold upd
 cases hc : (Nat.beq j i && Nat.blt i n) with
 | false => exact h j
 | true =>
  have hj : j = i := by simp only [Bool.and_eq_true, Nat.beq_eq] at hc; exact hc.1
  subst hj
  exact .inr ⟨hd.symm, by rw [hd]; exact hs⟩
/-- a row's cells, whose inner numbers may be others. -/
inductive HavP : P → P → Prop
 | v (x : Value) : HavP (.v x) (.v x)
 | f {m n : Nat} (is js : List Int) (h : js.length = is.length) : HavP (.fsl m n (is.flatMap e_i64)) (.fsl m n (js.flatMap e_i64))

theorem ints_of {w : World} {S : Nat → Prop} (b o : Nat) (k : Nat) (h : ∀ j, j < k → ∃ i : Int, w.cell? ⟨b, o + j, none⟩ = some (.int .i64 i)) :
  ∃ js : List Int, js.length = k ∧ ∀ j (hj : j < (js.flatMap e_i64).length), ∃ u, w.cell? ⟨b, o + j, none⟩ = some u ∧ PRel w S u ((js.flatMap e_i64)[j]) := by
 have ef : ∀ js : List Int, js.flatMap e_i64 = js.map fun i => P.v (.int .i64 i) := fun js => by
  induction js with
  | nil => rfl
  | cons y ys ih => rw [List.flatMap_cons, ih]; rfl
 refine ⟨(List.range k).map fun j => match w.cell? ⟨b, o + j, none⟩ with | some (.int .i64 i) => i | _ => 0, by simp, fun j hj => ?_⟩
 rw [ef] at hj
 simp only [List.length_map, List.length_range] at hj
 obtain ⟨i, hi⟩ := h j hj
 refine ⟨_, hi, ?_⟩
 simp only [ef, List.getElem_map, List.getElem_range]
 simp only [hi]
 exact .v _ rfl

theorem flat_i64 (js : List Int) : js.flatMap e_i64 = js.map fun i => P.v (.int .i64 i) := by
 induction js with
 | nil => rfl
 | cons y ys ih => rw [List.flatMap_cons, ih]; rfl

/-- a number stored into a block made since: what hangs on no such block stays as it is; the row's inner lists hold some numbers. -/
theorem AWops.scribble {n m : Nat} {fr fr' : Nat → D} {H : List (Option AObj)} {l : List Oper} {y z : Operand} {t : TypeId} {t0 : Nat} {f0 f1 f2 : Bool} {ps : List P} {i0 i1 : Int}
  (hGL : ∀ b, GL b = none) (hm : x.base ≤ m) (hy : (St.mk n fr H).val y = .one (.p f1 (.fptr m (.v (.int .i64 i0))))) (hz : (St.mk n fr H).val z = .one (.p f2 (.v (.int .i64 i1)))) (hsz : szOf pr t = some 1)
  (hl : H[t0]? = some (some (.cells f0 (ps.map mkC)))) (hok : ∀ p ∈ ps, ∃ q, HavP p q) (hoth : ∀ u o, u ≠ t0 → Live H u o → ∃ f cs, o = .cells f cs ∧ cs.all solidC = true) (hfr : Sf fr fr')
  (k : ∀ qs, All2 HavP ps qs → AWops pr x ops l K ⟨n, fr', H.set t0 (some (.cells f0 (qs.map mkC)))⟩) :
  AWops pr x ops (⟨none, .store t y z, ty, pos, aft, none⟩ :: l) K ⟨n, fr, H⟩ :=
 AWops.of_skip rfl (fun a w S g hs => by
  have hyv := hy ▸ hs.val y
  have hzv := (hz ▸ hs.val z).of_v
  generalize hq : a.eval y = q at hyv
  cases hyv with
  | t hyv =>
   cases hyv with
   | one hyv =>
    cases hyv with
    | p hyv =>
     cases hyv with
     | fptr _ b o u _ hb hmb hblk hc hr =>
      obtain ⟨arr, e, hblk⟩ := hblk
      have hbS : S b := hb.1
      have ho : o < arr.size := by
       have : w.cell? ⟨b, o, none⟩ = arr.toList[o]? := cell_row (N := 0) hblk o
       rw [hc] at this
       have := (List.getElem?_eq_some_iff.mp this.symm).1
       simpa using this
      have hst := run_storeCells_at pr b o e [.int .i64 i1] 0 arr w hblk (by simp; omega) (by intro v hv; simp only [List.mem_singleton] at hv; subst hv; rfl)
      simp only [Nat.add_zero, List.length_singleton] at hst
      let arr' := (arr.toList.take o ++ [Value.int .i64 i1] ++ arr.toList.drop (o + 1)).toArray
      have hsize : arr'.size = arr.size := by simp [arr']; omega
      have hother : ∀ c : Nat, c ≠ b → (w.setRow b arr').heap[c]? = w.heap[c]? := fun c hc => setRow_other w b c arr' hc
      have hthis : (w.setRow b arr').heap[b]? = some (.cells arr' e) := setRow_heap w b arr arr' e (0, 0) hblk
      have hwsz : (w.setRow b arr').heap.size = w.heap.size := by simp [World.setRow]
      -- cells that are numbers stay numbers
      have hnum : ∀ (c j : Nat) (v : Int), w.cell? ⟨c, j, none⟩ = some (.int .i64 v) → ∃ v', (w.setRow b arr').cell? ⟨c, j, none⟩ = some (.int .i64 v') := by
       intro c j v hv
       by_cases hcb : c = b
       ·subst hcb
        have h1 : w.cell? ⟨c, j, none⟩ = arr.toList[j]? := cell_row (N := 0) hblk j
        have h2 : (w.setRow c arr').cell? ⟨c, j, none⟩ = arr'.toList[j]? := cell_row (N := 0) hthis j
        rw [h2]
        simp only [arr', List.append_assoc, List.singleton_append]
        by_cases hj : j < o
        ·rw [List.getElem?_append_left (by simp; omega), List.getElem?_take, if_pos hj, ← h1]; exact ⟨v, hv⟩
        ·by_cases hj2 : j = o
         ·subst hj2
          rw [List.getElem?_append_right (by simp; omega)]
          simp [Nat.min_eq_left (Nat.le_of_lt ho)]
         ·rw [List.getElem?_append_right (by simp; omega)]
          have e1 : j - (arr.toList.take o).length = (j - o - 1) + 1 := by simp; omega
          rw [e1, List.getElem?_cons_succ, List.getElem?_drop, show o + 1 + (j - o - 1) = j by omega, ← h1]; exact ⟨v, hv⟩
       ·have : (w.setRow b arr').cell? ⟨c, j, none⟩ = w.cell? ⟨c, j, none⟩ := cell_of_heap (hother c hcb)
        rw [this]; exact ⟨v, hv⟩
      have hun : ∀ c : Nat, (∃ (q : Array Value) (p : TypeId), w.heap[c]? = some (Obj.cells q p)) → ∃ (q : Array Value) (p : TypeId), (w.setRow b arr').heap[c]? = some (Obj.cells q p) := by
       intro c hcx
       by_cases hcb : c = b
       ·subst hcb; exact ⟨_, _, hthis⟩
       ·rw [hother c hcb]; exact hcx
      have hlb : ∀ (u : Nat) (oo : AObj) (c N : Nat), Live H u oo → g u = some (some (c, N)) → c ≠ b := fun u oo c N hlu hgu hcb => hs.ok.dis b u oo N hbS hlu (hcb ▸ hgu)
      -- the row
      have hrow : ∃ qs, All2 HavP ps qs ∧ ORel (w.setRow b arr') S x.base g t0 (.cells f0 (qs.map mkC)) := by
       rcases hs.ok.obj t0 _ hl with ⟨h1, h2⟩ | ⟨B, N, ar, ee, h1, h2, h3, h4, h5, h6⟩
       ·have : ps = [] := by simpa using h2
        subst this
        exact ⟨[], .nil, .inl ⟨h1, rfl⟩⟩
       ·simp only [List.length_map] at h5 h6
        have hex : ∀ j (hj : j < ps.length), ∃ q, HavP ps[j] q ∧ CRel (w.setRow b arr') S x.base g (ar.getD j undef) (mkC q) := by
         intro j hj
         have h7 := h6 j hj
         rw [List.getElem_map] at h7
         have h8 := mkC_inv h7
         obtain ⟨q, hq⟩ := hok _ (List.getElem_mem hj)
         generalize ps[j] = p at hq h8
         generalize ar.getD j undef = uu at h8
         cases hq with
         | v => cases h8 with | v _ h9 => exact ⟨_, .v _, mkC_rel (.v _ h9)⟩
         | @f mm nn is js0 _ =>
          cases hgen : is.flatMap e_i64 with
          | nil =>
           have his : is = [] := by rw [flat_i64] at hgen; simpa using hgen
           subst his
           rw [hgen] at h8
           cases h8 with
           | fnil _ ad cap => exact ⟨.fsl mm 0 [], .f [] [] rfl, mkC_rel (.fnil mm ad cap)⟩
           | fsl _ bb oo _ cap _ us hb1 hm1 hz1 hn1 hc1 hr1 => exact ⟨.fsl mm nn [], .f [] [] rfl, mkC_rel (.fsl mm bb oo nn cap [] us hb1 hm1 (hun bb hz1) hn1 (fun j h => by cases h) (fun j h => by cases h))⟩
          | cons p0 pr0 =>
           rw [← hgen] 
           generalize hL : is.flatMap e_i64 = L at h8
           cases h8 with
           | fnil => rw [hgen] at hL; cases hL
           | fsl _ bb oo _ cap _ us hb1 hm1 hz1 hn1 hc1 hr1 =>
            obtain ⟨js, hjl, hjs⟩ := ints_of (w := w.setRow b arr') (S := Sub S x.base false) bb oo is.length (fun j hj => by
             have hj' : j < L.length := by rw [← hL, flat_i64]; simpa using hj
             have h9 := hr1 j hj'
             have h10 := hc1 j hj'
             have h11 : L[j] = P.v (.int .i64 is[j]) := by simp [← hL, flat_i64]
             rw [h11] at h9
             generalize us j = uj at h9 h10
             cases h9 with | v _ _ => exact hnum _ _ _ h10)
            refine ⟨.fsl mm nn (js.flatMap e_i64), hL ▸ .f is js hjl, mkC_rel (.fsl mm bb oo nn cap _ (fun j => ((w.setRow b arr').cell? ⟨bb, oo + j, none⟩).getD undef) hb1 hm1 (hun bb hz1) hn1 (fun j hj => ?_) (fun j hj => ?_))⟩
            ·obtain ⟨uu, h12, _⟩ := hjs j hj; rw [h12]; rfl
            ·obtain ⟨uu, h12, h13⟩ := hjs j hj; rw [h12]; exact h13
        have hB : B ≠ b := hlb t0 _ B N hl h1
        obtain ⟨qs, hq1, hq2⟩ : ∃ qs : List P, qs.length = ps.length ∧ ∀ j (hj : j < ps.length) (hj' : j < qs.length), HavP ps[j] qs[j] ∧ CRel (w.setRow b arr') S x.base g (ar.getD j undef) (mkC qs[j]) := by
         refine ⟨(List.range ps.length).map fun j => if hj : j < ps.length then Classical.choose (hex j hj) else .v undef, by simp, fun j hj hj' => ?_⟩
         simp only [List.getElem_map, List.getElem_range, dif_pos hj]
         exact Classical.choose_spec (hex j hj)
        refine ⟨qs, .of_get hq1.symm fun j h h' => (hq2 j h h').1, .inr ⟨B, N, ar, ee, h1, h2, by rw [hother B hB]; exact h3, h4, by simp; omega, fun j hj => ?_⟩⟩
        simp only [List.length_map] at hj
        rw [List.getElem_map]
        exact (hq2 j (by omega) hj).2
      obtain ⟨qs, hqs, hro⟩ := hrow
      have hlv : ∀ u oo, Live (H.set t0 (some (.cells f0 (qs.map mkC)))) u oo → ∃ o', Live H u o' := by
       intro u oo hlu
       rcases live_set hl hlu with ⟨rfl, _⟩ | ⟨_, h⟩ <;> exact ⟨_, by assumption⟩
      refine ⟨w.setRow b arr', ⟨n, fr', H.set t0 (some (.cells f0 (qs.map mkC)))⟩, S, g, ?_, ?_, k qs hqs⟩
      ·simp [execOp, hq, Instr.storeAt, Instr.sureAddr, storeVar, hzv, Value.cells, run_size hsz, hst, arr']
      ·refine ⟨hs.size, hs.nodef, fun j => ?_, ⟨?_, ?_, fun c hcS => by rw [hwsz]; exact hs.ok.st c hcS, ?_, fun u hu => ?_, ?_, fun c ps hg => by rw [hGL] at hg; cases hg⟩, hs.s0, ?_, ?_, hs.par, by simpa using hs.kl⟩
       ·show DRel _ S x.base g (a.tmps.getD j undef) (fr' j)
        rcases hfr j with h1 | ⟨h1, h2⟩
        ·rw [h1]; exact .top _
        ·rw [h1]
         have h3 : DRel w S x.base g (a.tmps.getD j undef) (fr j) := hs.fr j
         generalize fr j = d at h2 h3
         generalize a.tmps.getD j undef = vv at h3 ⊢
         cases h3 with
         | t h3 =>
          cases h3 with
          | one h3 => exact .t (.one (h3.solid h2))
          | agg vs hlen h3 => exact .t (.agg vs hlen fun q h4 h5 => (h3 q h4 h5).solid (List.all_eq_true.mp h2 _ (List.getElem_mem _)))
         | tup => cases h2
       ·intro u oo hlu
        rcases live_set hl hlu with ⟨rfl, rfl⟩ | ⟨hne, h⟩
        ·exact hro
        ·obtain ⟨f, cs, rfl, hcs⟩ := hoth u oo hne h
         rcases hs.ok.obj u _ h with ⟨h1, h2⟩ | ⟨B, N, ar, ee, h1, h2, h3, h4, h5, h6⟩
         ·exact .inl ⟨h1, h2⟩
         ·exact .inr ⟨B, N, ar, ee, h1, h2, by rw [hother B (hlb u _ B N h h1)]; exact h3, h4, h5, fun q hq => (h6 q hq).solid (List.all_eq_true.mp hcs _ (List.getElem_mem _))⟩
       ·intro u u' o1 o2 c N N' h1 h2
        obtain ⟨_, h1⟩ := hlv _ _ h1
        obtain ⟨_, h2⟩ := hlv _ _ h2
        exact hs.ok.inj u u' _ _ c N N' h1 h2
       ·intro c u oo N hcS h1
        obtain ⟨_, h1⟩ := hlv _ _ h1
        exact hs.ok.dis c u _ N hcS h1
       ·exact hs.ok.dom u (by simpa using hu)
       ·intro u oo c N h1
        obtain ⟨_, h1⟩ := hlv _ _ h1
        rw [hwsz]; exact hs.ok.lt u _ c N h1
       ·intro u oo c N h1
        obtain ⟨_, h1⟩ := hlv _ _ h1
        exact hs.wr u _ c N h1
       ·refine ⟨hs.ext.tape, hs.ext.os, hs.ext.output, by rw [hwsz]; exact hs.ext.size, fun c hcb hw => ?_⟩
        rw [hother c (by omega)]; exact hs.ext.frame c hcb hw)
end
end
end Go.Abs
