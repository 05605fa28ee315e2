import Derived.Test.YtdpakmmkponfmaaAbsG
set_option linter.unusedVariables false
set_option linter.unusedSimpArgs false
namespace Go.Abs

def plainOf : C → Option P
 | .p _ p => some p
 | _ => none

/-- what the caller's cell is to the callee. -/
inductive LendC (st : St) (ρ : List Nat) (br : Bool) : C → C → Prop
 | top (c : C) : LendC st ρ br c .top
 | sc {f : Bool} {v : Value} : LendC st ρ br (.p f (.v v)) (.p true (.v v))
 | imm {f : Bool} {p : P} : LendC st ρ br (.p f p) (.p false p)
 | fs {f : Bool} {m n : Nat} {cs : List P} : LendC st ρ br (.p f (.fsl m n cs)) (.p false (.sl n cs))
 | nil {f : Bool} : LendC st ρ br (.p f (.v (.slice none 0 0))) (.p false (.sl 0 []))
 | borrow {t off n sz : Nat} {fr : Bool} {cs : List C} {ps : List P} (hb : br = true) (hl : st.H[t]? = some (some (.cells fr cs))) (ht : ρ.contains t = false)
   (hp : ((cs.drop off).take (n * sz)).map plainOf = ps.map some) : LendC st ρ br (.own t off n sz) (.p false (.sl n ps))
 | own {t t' off n sz : Nat} (h : ρ[t']? = some t) : LendC st ρ br (.own t off n sz) (.own t' off n sz)
 | ref {t t' off : Nat} (h : ρ[t']? = some t) : LendC st ρ br (.ref t off) (.ref t' off)
 | er {t t' off : Nat} (h : ρ[t']? = some t) : LendC st ρ br (.er t off) (.er t' off)
 | opt {o : Bool} {t t' off : Nat} (h : ρ[t']? = some t) : LendC st ρ br (.opt o t off) (.opt o t' off)
 | toOpt {t t' off : Nat} (h : ρ[t']? = some t) : LendC st ρ br (.ref t off) (.opt true t' off)
 | noOpt {f : Bool} {t' off : Nat} : LendC st ρ br (.p f (.v (.pointer none))) (.opt false t' off)
 | mp {t t' : Nat} (h : ρ[t']? = some t) : LendC st ρ br (.mp t) (.mp t')
 | clo {f : FuncId} {caps caps' : List C} (hl : caps.length = caps'.length) (h : ∀ i (h : i < caps.length) (h' : i < caps'.length), LendC st ρ br (caps[i]'h) (caps'[i]'h')) :
   LendC st ρ br (.clo f caps) (.clo f caps')

inductive LendT (st : St) (ρ : List Nat) (br : Bool) : D → D → Prop
 | one {c c' : C} (h : LendC st ρ br c c') : LendT st ρ br (.one c) (.one c')
 | agg {cs cs' : List C} (hl : cs.length = cs'.length) (h : ∀ i (h : i < cs.length) (h' : i < cs'.length), LendC st ρ br (cs[i]'h) (cs'[i]'h')) : LendT st ρ br (.agg cs) (.agg cs')

/-- lists, place by place. -/
inductive All2 {α β : Type} (R : α → β → Prop) : List α → List β → Prop
 | nil : All2 R [] []
 | cons {x : α} {y : β} {xs : List α} {ys : List β} (h : R x y) (hs : All2 R xs ys) : All2 R (x :: xs) (y :: ys)

theorem All2.len {α β : Type} {R : α → β → Prop} {xs : List α} {ys : List β} (h : All2 R xs ys) : xs.length = ys.length := by
 induction h with
 | nil => rfl
 | cons _ _ ih => simp [ih]

theorem All2.get {α β : Type} {R : α → β → Prop} {xs : List α} {ys : List β} (h : All2 R xs ys) : ∀ i (h : i < xs.length) (h' : i < ys.length), R (xs[i]'h) (ys[i]'h') := by
 induction h with
 | nil => intro i h; exact absurd h (by simp)
 | cons h0 _ ih =>
  intro i h h'
  cases i with
  | zero => exact h0
  | succ i => exact ih i (by simpa using h) (by simpa using h')

theorem All2.map_eq {α β : Type} {R : α → β → Prop} {f : α → β} (h : ∀ x, R x (f x)) : ∀ xs : List α, All2 R xs (xs.map f)
 | [] => .nil
 | x :: xs => .cons (h x) (All2.map_eq h xs)

inductive LendO (st : St) (ρ : List Nat) (br : Bool) : Option AObj → Option AObj → Prop
 | none (o : Option AObj) : LendO st ρ br o none
 | cells {fr : Bool} {cs cs' : List C} (h : All2 (LendC st ρ br) cs cs') : LendO st ρ br (some (.cells fr cs)) (some (.cells false cs'))
 | map {fr : Bool} {es : List (Value × Bool × List P)} : LendO st ρ br (some (.map fr es)) (some (.map fr es))

def sig (ρ : List Nat) (L : Nat) (i : Nat) : Nat := bif Nat.blt i ρ.length then ρ.getD i 0 else L + (i - ρ.length)

def mergeObj (σ : Nat → Nat) : Option AObj → Option AObj → Option AObj
 | some (.cells fr _), some (.cells _ cs) => some (.cells fr (renCs σ cs))
 | some (.map _ _), some (.map fr es) => some (.map fr es)
 | _, _ => none

def mergeAt (σ : Nat → Nat) (H : List (Option AObj)) : List Nat → List (Option AObj) → List (Option AObj)
 | t :: ρ, o :: H' => mergeAt σ (H.set t (mergeObj σ (H.getD t none) o)) ρ H'
 | _, _ => H

def mergeH (σ : Nat → Nat) (H : List (Option AObj)) (ρ : List Nat) (H' : List (Option AObj)) : List (Option AObj) :=
 mergeAt σ H ρ H' ++ (H'.drop ρ.length).map (Option.map (renO σ))

theorem mergeAt_len (σ : Nat → Nat) : ∀ (ρ : List Nat) (H H' : List (Option AObj)), (mergeAt σ H ρ H').length = H.length
 | [], H, H' => by cases H' <;> rfl
 | t :: ρ, H, [] => rfl
 | t :: ρ, H, o :: H' => by simp [mergeAt, mergeAt_len σ ρ]

theorem mergeAt_off (σ : Nat → Nat) : ∀ (ρ : List Nat) (H H' : List (Option AObj)) (u : Nat), u ∉ ρ → (mergeAt σ H ρ H')[u]? = H[u]?
 | [], H, H', u, _ => by cases H' <;> rfl
 | t :: ρ, H, [], u, _ => rfl
 | t :: ρ, H, o :: H', u, hu => by
  simp only [List.mem_cons, not_or] at hu
  simp only [mergeAt]
  rw [mergeAt_off σ ρ _ H' u hu.2, List.getElem?_set, if_neg (fun e => hu.1 e.symm)]

theorem mergeAt_on (σ : Nat → Nat) : ∀ (ρ : List Nat) (H H' : List (Option AObj)) (i u : Nat), ρ.Nodup → ρ[i]? = some u → i < H'.length → u < H.length →
  (mergeAt σ H ρ H')[u]? = some (mergeObj σ (H.getD u none) (H'.getD i none))
 | [], H, H', i, u, _, h, _, _ => by simp at h
 | t :: ρ, H, [], i, u, _, _, h, _ => by simp at h
 | t :: ρ, H, o :: H', i, u, hn, hi, hl, hu => by
  simp only [mergeAt]
  obtain ⟨h1, h2⟩ := List.nodup_cons.mp hn
  cases i with
  | zero =>
   simp at hi; subst hi
   rw [mergeAt_off σ ρ _ H' t h1, List.getElem?_set, if_pos rfl, if_pos hu]
   rfl
  | succ i =>
   have hi' : ρ[i]? = some u := by simpa using hi
   have hmem : u ∈ ρ := List.mem_of_getElem? hi'
   have hne : t ≠ u := fun e => h1 (e ▸ hmem)
   rw [mergeAt_on σ ρ _ H' i u h2 hi' (by simpa using hl) (by simpa using hu)]
   congr 2
   simp only [List.getD_eq_getElem?_getD, List.getElem?_set, if_neg hne]

theorem mergeObj_some {σ : Nat → Nat} {p q : Option AObj} {o : AObj} (h : mergeObj σ p q = some o) :
  (∃ fr cs0 fr' cs, p = some (.cells fr cs0) ∧ q = some (.cells fr' cs) ∧ o = .cells fr (renCs σ cs)) ∨ (∃ fr es0 fr' es, p = some (.map fr es0) ∧ q = some (.map fr' es) ∧ o = .map fr' es) := by
 unfold mergeObj at h
 split at h
 ·rename_i fr cs0 fr' cs; cases h; exact .inl ⟨fr, cs0, fr', cs, rfl, rfl, rfl⟩
 ·rename_i fr es0 fr' es; cases h; exact .inr ⟨fr, es0, fr', es, rfl, rfl, rfl⟩
 ·cases h

theorem live_merge {σ : Nat → Nat} {H H' : List (Option AObj)} {ρ : List Nat} (hn : ρ.Nodup) (hle : ρ.length ≤ H'.length) {u : Nat} {o : AObj} (h : Live (mergeH σ H ρ H') u o) :
  (u < H.length ∧ u ∉ ρ ∧ Live H u o) ∨ (∃ i, ρ[i]? = some u ∧ u < H.length ∧ mergeObj σ (H.getD u none) (H'.getD i none) = some o) ∨
  (∃ j o', u = H.length + j ∧ Live H' (ρ.length + j) o' ∧ o = renO σ o') := by
 unfold Live mergeH at h
 rw [List.getElem?_append, mergeAt_len] at h
 split at h
 ·rename_i hlt
  by_cases hu : u ∈ ρ
  ·obtain ⟨i, hi⟩ := List.mem_iff_getElem?.mp hu
   have hil : i < ρ.length := (List.getElem?_eq_some_iff.mp hi).1
   rw [mergeAt_on σ ρ H H' i u hn hi (by omega) hlt] at h
   exact .inr (.inl ⟨i, hi, hlt, Option.some.inj h⟩)
  ·rw [mergeAt_off σ ρ H H' u hu] at h
   exact .inl ⟨hlt, hu, h⟩
 ·rename_i hge
  rw [List.getElem?_map, List.getElem?_drop] at h
  cases hq : H'[ρ.length + (u - H.length)]? with
  | none => rw [hq] at h; cases h
  | some q =>
   rw [hq] at h
   cases q with
   | none => simp at h
   | some o' => simp at h; exact .inr (.inr ⟨u - H.length, o', by omega, hq, h.symm⟩)

def callable (pr : Program) (f : FuncId) : Bool :=
 match pr.funcs[f]? with
 | some fn => !(fn.name == "runtime.NumGoroutine") && fn.body.isSome
 | none => false

def frD : D → Bool
 | .one c => frC c
 | .agg cs => cs.all frC
 | .tup ds => ds.all fun d => match d with | .one c => frC c | .agg cs => cs.all frC | .tup _ => true

def frH (H : List (Option AObj)) : Bool := H.all fun o => match o with | some (.cells _ cs) => cs.all frC | some (.map _ _) => false | none => true

section
variable {pr : Program} {x : Ctx} {K : Exit → St → Prop} {st : St} {a : Act} {w : World} {S : Nat → Prop} {g : G}

/-- what the callee sees of numbers, of memory. -/
def gIn (g : G) (ρ : List Nat) : G := fun i => match ρ[i]? with | some t => g t | none => none
def SIn (S : Nat → Prop) (g : G) (H : List (Option AObj)) (ρ : List Nat) (br : Bool) (b : Nat) : Prop := S b ∨ (br = true ∧ ∃ t o N, t ∉ ρ ∧ Live H t o ∧ g t = some (some (b, N)))

theorem gIn_at {ρ : List Nat} {i t : Nat} (h : ρ[i]? = some t) : gIn g ρ i = g t := by simp [gIn, h]

theorem CRel.lend (hs : Sim x st a w S g) {ρ : List Nat} {br : Bool} {v : Value} {c c' : C} (hv : CRel w S x.base g v c) (h : LendC st ρ br c c') :
  CRel w (SIn S g st.H ρ br) w.heap.size (gIn g ρ) v c' := by
 induction h generalizing v with
 | top c => exact .top v
 | sc =>
  cases hv with
  | p hv => cases hv with | v _ h1 => exact .p (.v _ h1)
 | imm =>
  cases hv with
  | p hv => exact .p (hv.weak fun b hb => ⟨.inl hb.1, fun h => by cases h⟩)
 | fs =>
  cases hv with
  | p hv => exact .p (hv.unf.weak fun b hb => ⟨.inl hb.1, fun h => by cases h⟩)
 | nil =>
  cases hv with
  | p hv => cases hv; exact .p (.nil none 0)
 | @borrow t off n sz fr cs ps hb hl ht hp =>
  have htm : t ∉ ρ := by intro hm; rw [List.contains_iff_mem.mpr hm] at ht; cases ht
  have hpl : ps.length = ((cs.drop off).take (n * sz)).length := by have := congrArg List.length hp; simpa using this.symm
  cases hv with
  | @own _ b N _ _ cap _ hg hn hN =>
   obtain ⟨_, arr, e, hblk, ha, hle, hc⟩ := hs.row hl hg
   refine .p (.sl b (N.o + off) n cap ps (fun j => arr.getD (N.o + (off + j)) undef) ⟨.inr ⟨hb, t, _, N, htm, hl, hg⟩, fun h => by cases h⟩ hn ?_ ?_)
   ·intro j hj
    have h1 : off + j < cs.length := by rw [hpl] at hj; simp at hj; omega
    rw [cell_row (N := N) hblk, Array.getD_eq_getD_getElem?, Nat.add_assoc]
    simp [show N.o + (off + j) < arr.size by omega]
   ·intro j hj
    have h1 : off + j < cs.length := by rw [hpl] at hj; simp at hj; omega
    have h2 := hc (off + j) h1
    have h3 : (((cs.drop off).take (n * sz)).map plainOf)[j]? = (ps.map some)[j]? := by rw [hp]
    rw [List.getElem?_map, List.getElem?_map, List.getElem?_eq_getElem (by omega : j < ((cs.drop off).take (n * sz)).length), List.getElem?_eq_getElem hj] at h3
    simp only [List.getElem_take, List.getElem_drop, Option.map_some, Option.some.injEq] at h3
    generalize hq : cs[off + j] = q at h2 h3
    generalize arr.getD (N.o + (off + j)) undef = v2 at h2 ⊢
    cases q with
    | p f p =>
     simp only [plainOf, Option.some.injEq] at h3
     subst h3
     cases h2 with
     | p h2 => exact h2.weak fun b hb => ⟨.inl hb.1, fun h => by cases h⟩
    | _ => simp [plainOf] at h3
  | own0 ad hg =>
   have : ps = [] := List.eq_nil_of_length_eq_zero (by rw [hpl]; simp)
   subst this
   exact .p (.nil ad 0)
 | own h =>
  cases hv with
  | own hg hn hN => exact .own (by rw [gIn_at h]; exact hg) hn hN
  | own0 ad hg => exact .own0 ad (by rw [gIn_at h]; exact hg)
 | ref h => cases hv with | ref hg ho => exact .ref (by rw [gIn_at h]; exact hg) ho
 | er h => cases hv with | er hg => exact .er (by rw [gIn_at h]; exact hg)
 | opt h =>
  cases hv with
  | opt1 hg ho => exact .opt1 (by rw [gIn_at h]; exact hg) ho
  | opt0 => exact .opt0
 | toOpt h => cases hv with | ref hg ho => exact .opt1 (by rw [gIn_at h]; exact hg) ho
 | noOpt => cases hv with | p hv => cases hv; exact .opt0
 | mp h => cases hv with | mp hg => exact .mp (by rw [gIn_at h]; exact hg)
 | clo hl _ ih =>
  cases hv with
  | clo vs hlen hr => exact .clo vs (by omega) fun i h1 h2 => ih i (by omega) h1 (hr i (by omega) h2)

theorem DRel.lend (hs : Sim x st a w S g) {ρ : List Nat} {br : Bool} {v : Value} {d d' : D} (hv : DRel w S x.base g v d) (h : LendT st ρ br d d') :
  DRel w (SIn S g st.H ρ br) w.heap.size (gIn g ρ) v d' := by
 cases h with
 | one h => cases hv with | t hv => cases hv with | one hv => exact .t (.one (hv.lend hs h))
 | agg hl h =>
  cases hv with
  | t hv =>
   cases hv with
   | agg vs hlen hr => exact .t (.agg vs (by omega) fun i h1 h2 => (hr i (by omega) h2).lend hs (h i (by omega) h1))

theorem Sim.hokIn (hs : Sim x st a w S g) {ρ : List Nat} {br : Bool} {H0 : List (Option AObj)} (hl : H0.length = ρ.length) (hn : ρ.Nodup)
  (h : ∀ i t, ρ[i]? = some t → LendO st ρ br (st.H.getD t none) (H0.getD i none)) : HOK w (SIn S g st.H ρ br) w.heap.size (gIn g ρ) H0 := by
 have key : ∀ i o, Live H0 i o → ∃ t, ρ[i]? = some t ∧ ∃ o1, Live st.H t o1 ∧ LendO st ρ br (some o1) (some o) := by
  intro i o hi
  have hil : i < ρ.length := by rw [← hl]; exact hi.lt
  have h1 : ρ[i]? = some ρ[i] := List.getElem?_eq_getElem hil
  have h2 := h i _ h1
  have h3 : H0.getD i none = some o := by rw [List.getD_eq_getElem?_getD, hi]; rfl
  rw [h3] at h2
  refine ⟨ρ[i], h1, ?_⟩
  generalize hq : st.H.getD ρ[i] none = q at h2
  cases q with
  | none => cases h2
  | some o1 =>
   refine ⟨o1, ?_, h2⟩
   rw [List.getD_eq_getElem?_getD] at hq
   unfold Live
   cases hz : st.H[ρ[i]]? with
   | none => rw [hz] at hq; cases hq
   | some z => rw [hz] at hq; simp at hq; rw [hq]
 refine ⟨?_, ?_, ?_, ?_, ?_, ?_, hs.ok.glob.mono fun b hb => ⟨.inl hb, rfl⟩⟩
 ·intro i o hi
  obtain ⟨t, ht, o1, h1, h2⟩ := key i o hi
  have h3 := hs.ok.obj t o1 h1
  cases h2 with
  | cells hall =>
   have hlen := hall.len
   rcases h3 with h4 | ⟨b, N, arr, e, h4, h5, h6, h7, h8, h9⟩
   ·exact .inl (by rw [gIn_at ht]; exact h4)
   ·exact .inr ⟨b, N, arr, e, by rw [gIn_at ht]; exact h4, (fun h => by cases h), h6, h7, by omega, fun j hj => (h9 j (by omega)).lend hs (hall.get j (by omega) hj)⟩
  | map =>
   obtain ⟨b, arr, clock, h4, h5, h6, h7, h8⟩ := h3
   refine ⟨b, arr, clock, by rw [gIn_at ht]; exact h4, h5, h6, h7, fun j hj hj' => ?_⟩
   obtain ⟨hk, vs, q1, q2, q3, q4⟩ := h8 j hj hj'
   exact ⟨hk, vs, q1, q2, q3, fun i h1 h2 => (q4 i h1 h2).weak fun b hb => ⟨.inl hb.1, fun h => by cases h⟩⟩
 ·intro i i' o o' b N N' hi hi' hb hb'
  obtain ⟨t, ht, o1, h1, _⟩ := key i o hi
  obtain ⟨t', ht', o1', h1', _⟩ := key i' o' hi'
  rw [gIn_at ht] at hb
  rw [gIn_at ht'] at hb'
  have := hs.ok.inj t t' _ _ b N N' h1 h1' hb hb'
  subst this
  exact (List.getElem?_inj (List.getElem?_eq_some_iff.mp ht).1 hn).mp (ht.trans ht'.symm)
 ·rintro b (hb | ⟨_, t, o, N, _, h1, h2⟩)
  ·exact hs.ok.st b hb
  ·exact hs.ok.lt t o b N h1 h2
 ·intro b i o N hb hi hgi
  obtain ⟨t, ht, o1, h1, _⟩ := key i o hi
  rw [gIn_at ht] at hgi
  rcases hb with hb | ⟨_, t', o', N', h3, h4, h5⟩
  ·exact hs.ok.dis b t o1 N hb h1 hgi
  ·have := hs.ok.inj t t' _ _ b N N' h1 h4 hgi h5
   exact h3 (this ▸ List.mem_of_getElem? ht)
 ·intro t ht
  simp only [gIn]
  rw [List.getElem?_eq_none (by omega)]
 ·intro i o b N hi hgi
  obtain ⟨t, ht, o1, h1, _⟩ := key i o hi
  rw [gIn_at ht] at hgi
  exact hs.ok.lt t o1 b N h1 hgi

theorem frD_ok {br : Bool} {r : D} (h : br = false ∨ frD r = true) : okD (fun c => br = false ∨ frC c = true) r := by
 rcases h with rfl | h
 ·cases r with
  | one c => exact .inl rfl
  | agg cs => exact fun _ _ => .inl rfl
  | tup ds => intro d _; cases d <;> first | exact .inl rfl | exact fun _ _ => .inl rfl | trivial
 ·cases r with
  | one c => exact .inr h
  | agg cs => exact fun c hc => .inr (List.all_eq_true.mp h c hc)
  | tup ds =>
   intro d hd
   have := List.all_eq_true.mp h d hd
   cases d with
   | one c => exact .inr this
   | agg cs => exact fun c hc => .inr (List.all_eq_true.mp this c hc)
   | tup _ => trivial

/-- the ghost behind the call. -/
def gOut (g g' : G) (ρ : List Nat) (L : Nat) : G := fun u => if u < L then g u else g' (ρ.length + (u - L))
def SOut (S S' : Nat → Prop) (n : Nat) (A : Nat → Prop) (b : Nat) : Prop := S b ∨ ((n ≤ b ∨ A b) ∧ S' b)

/-- behind a call. -/
theorem Sim.called (hs : Sim x st a w S g) {ρ : List Nat} {br : Bool} {H0 H1 : List (Option AObj)} {w' : World} {S' : Nat → Prop} {g' : G} (hn : ρ.Nodup) (hl : H0.length = ρ.length)
  (hlive : ∀ i o, Live H0 i o → ∃ t o1, ρ[i]? = some t ∧ Live st.H t o1)
  (hlt : ∀ t ∈ ρ, t < st.H.length)
  (hok : HOK w' S' w.heap.size g' H1) (hs0 : ∀ b, S' b → w.heap.size ≤ b ∨ SIn S g st.H ρ br b ∨ argB (gIn g ρ) H0 b) (hwr : ∀ t o b N, Live H1 t o → g' t = some (some (b, N)) → w.heap.size ≤ b ∨ argB (gIn g ρ) H0 b)
  (hext : Ext (ctxOf w (SIn S g st.H ρ br) (gIn g ρ) H0) w') (hpar : ∀ t, t < H0.length → g' t = gIn g ρ t) (hlen : H0.length ≤ H1.length) (hfr : br = false ∨ frH H1 = true) :
  Sim x (st.heap (mergeH (sig ρ st.H.length) st.H ρ H1)) a w' (SOut S S' w.heap.size (argB (gIn g ρ) H0)) (gOut g g' ρ st.H.length) ∧
   Way w' w' S' (SOut S S' w.heap.size (argB (gIn g ρ) H0)) w.heap.size x.base g' (gOut g g' ρ st.H.length) (sig ρ st.H.length) (fun c => br = false ∨ frC c = true) := by
 have hbase := hs.ext.size
 -- the blocks that were handed over
 have hab : ∀ b, argB (gIn g ρ) H0 b → ∃ t o N, t ∈ ρ ∧ Live st.H t o ∧ g t = some (some (b, N)) := by
  rintro b ⟨i, o, N, h1, h2⟩
  obtain ⟨t, o1, ht, h3⟩ := hlive i o h1
  rw [gIn_at ht] at h2
  exact ⟨t, o1, N, List.mem_of_getElem? ht, h3, h2⟩
 have hkeep : ∀ b, b < w.heap.size → ¬ argB (gIn g ρ) H0 b → w'.heap[b]? = w.heap[b]? := fun b h1 h2 => hext.frame b h1 h2
 have hS : ∀ b, S b → SOut S S' w.heap.size (argB (gIn g ρ) H0) b ∧ w'.heap[b]? = w.heap[b]? := by
  intro b hb
  refine ⟨.inl hb, hkeep b (hs.ok.st b hb) fun h => ?_⟩
  obtain ⟨t, o, N, _, h1, h2⟩ := hab b h
  exact hs.ok.dis b t o N hb h1 h2
 have hg : ∀ t v, g t = some v → gOut g g' ρ st.H.length t = some v := by
  intro t v h
  unfold gOut
  split
  ·exact h
  ·rw [hs.ok.dom t (by omega)] at h; cases h
 have hσ : ∀ t v, g' t = some v → gOut g g' ρ st.H.length (sig ρ st.H.length t) = some v := by
  intro t v h
  unfold gOut sig
  by_cases ht : t < ρ.length
  ·have : Nat.blt t ρ.length = true := by simpa [Nat.blt_eq] using ht
   rw [this]
   simp only [cond_true]
   have hm : ρ[t]? = some (ρ.getD t 0) := by rw [List.getD_eq_getElem?_getD, List.getElem?_eq_getElem ht]; rfl
   rw [if_pos (hlt _ (List.mem_of_getElem? hm))]
   rw [← gIn_at (g := g) hm, ← hpar t (by omega)]; exact h
  ·have : Nat.blt t ρ.length = false := by
    cases hb : Nat.blt t ρ.length
    ·rfl
    ·exact absurd (by simpa [Nat.blt_eq] using hb) ht
   rw [this]
   simp only [cond_false]
   rw [if_neg (by omega), show ρ.length + (st.H.length + (t - ρ.length) - st.H.length) = t by omega]; exact h
 have hway : Way w' w' S' (SOut S S' w.heap.size (argB (gIn g ρ) H0)) w.heap.size x.base g' (gOut g g' ρ st.H.length) (sig ρ st.H.length) (fun c => br = false ∨ frC c = true) := by
  refine ⟨hσ, ?_, ?_, ?_⟩
  ·intro fr v c hc h
   by_cases hv : ∃ y, c = .v y
   ·obtain ⟨y, rfl⟩ := hv
    cases h with | v _ h1 => exact .v _ h1
   ·refine h.weak fun b hb => ?_
    rcases hs0 b hb.1 with h1 | h1 | h1
    ·exact ⟨.inr ⟨.inl h1, hb.1⟩, fun _ => by omega⟩
    ·rcases hc with rfl | hc
     ·rcases h1 with h1 | ⟨h1, _⟩
      ·exact ⟨.inl h1, fun hf => by have := hb.2 hf; omega⟩
      ·cases h1
     ·have hf : fr = true := by
       cases c with
       | v y => exact absurd ⟨y, rfl⟩ hv
       | sl n cs => exact hc
       | fsl m n cs => exact hc
       | fptr m p => exact hc
      have := hb.2 hf
      exact ⟨.inr ⟨.inl this, hb.1⟩, fun _ => by omega⟩
    ·exact ⟨.inr ⟨.inr h1, hb.1⟩, fun hf => by have := hb.2 hf; omega⟩
  ·rintro fr b ⟨ps, hc⟩ hb
   refine ⟨?_, rfl⟩
   rcases hs0 b hb.1 with h1 | h1 | h1
   ·exact ⟨.inr ⟨.inl h1, hb.1⟩, fun _ => by omega⟩
   ·rcases hc with rfl | hc
    ·rcases h1 with h1 | ⟨h1, _⟩
     ·exact ⟨.inl h1, fun hf => by have := hb.2 hf; omega⟩
     ·cases h1
    ·have := hb.2 hc
     exact ⟨.inr ⟨.inl this, hb.1⟩, fun _ => by omega⟩
   ·exact ⟨.inr ⟨.inr h1, hb.1⟩, fun hf => by have := hb.2 hf; omega⟩
  ·intro f caps hc c hcm
   rcases hc with h | h
   ·exact .inl h
   ·cases h
 refine ⟨?_, hway⟩
 have hl' : ρ.length ≤ H1.length := by omega
 -- what is live now
 have lm : ∀ u o, Live (mergeH (sig ρ st.H.length) st.H ρ H1) u o → (u < st.H.length ∧ u ∉ ρ ∧ Live st.H u o) ∨
   (∃ i o0 o', ρ[i]? = some u ∧ Live st.H u o0 ∧ Live H1 i o' ∧ mergeObj (sig ρ st.H.length) (some o0) (some o') = some o ∧ u < st.H.length) ∨
   (∃ j o', u = st.H.length + j ∧ Live H1 (ρ.length + j) o' ∧ o = renO (sig ρ st.H.length) o') := by
  intro u o h
  rcases live_merge hn hl' h with h | ⟨i, h1, h2, h3⟩ | h
  ·exact .inl h
  ·refine .inr (.inl ?_)
   have e1 : ∀ (H : List (Option AObj)) i o, H.getD i none = some o → Live H i o := by
    intro H i o h
    rw [List.getD_eq_getElem?_getD] at h
    unfold Live
    cases hz : H[i]? with
    | none => rw [hz] at h; cases h
    | some z => rw [hz] at h; simp at h; rw [h]
   rcases mergeObj_some h3 with ⟨fr, cs0, fr', cs, q1, q2, q3⟩ | ⟨fr, cs0, fr', cs, q1, q2, q3⟩
   ·exact ⟨i, _, _, h1, e1 _ _ _ q1, e1 _ _ _ q2, by rw [← q1, ← q2]; exact h3, h2⟩
   ·exact ⟨i, _, _, h1, e1 _ _ _ q1, e1 _ _ _ q2, by rw [← q1, ← q2]; exact h3, h2⟩
  ·exact .inr (.inr h)
 have go1 : ∀ u, u < st.H.length → gOut g g' ρ st.H.length u = g u := fun u h => by unfold gOut; rw [if_pos h]
 have go2 : ∀ j, gOut g g' ρ st.H.length (st.H.length + j) = g' (ρ.length + j) := fun j => by
  unfold gOut; rw [if_neg (by omega), show st.H.length + j - st.H.length = j by omega]
 have gρ : ∀ i u, ρ[i]? = some u → g u = g' i := fun i u h => by
  have hi : i < ρ.length := (List.getElem?_eq_some_iff.mp h).1
  rw [hpar i (by omega), gIn_at h]
 have okc : ∀ i fr cs, Live H1 i (.cells fr cs) → ∀ c ∈ cs, br = false ∨ frC c = true := by
  intro i fr cs h c hc
  rcases hfr with h1 | h1
  ·exact .inl h1
  ·have := List.all_eq_true.mp h1 _ (List.mem_of_getElem? h)
   exact .inr (List.all_eq_true.mp this c hc)
 have okm : ∀ i fr es, Live H1 i (.map fr es) → br = false := by
  intro i fr es h
  rcases hfr with h1 | h1
  ·exact h1
  ·exact absurd (List.all_eq_true.mp h1 _ (List.mem_of_getElem? h)) (fun q => by cases q)
 -- a live object's block
 have blk : ∀ u o b N, Live (mergeH (sig ρ st.H.length) st.H ρ H1) u o → gOut g g' ρ st.H.length u = some (some (b, N)) →
   (u < st.H.length ∧ u ∉ ρ ∧ Live st.H u o ∧ g u = some (some (b, N))) ∨ (∃ i o', sig ρ st.H.length i = u ∧ Live H1 i o' ∧ g' i = some (some (b, N))) := by
  intro u o b N h hgu
  rcases lm u o h with ⟨h1, h2, h3⟩ | ⟨i, o0, o', h1, h2, h3, h4, h5⟩ | ⟨j, o', rfl, h2, h3⟩
  ·exact .inl ⟨h1, h2, h3, by rw [go1 u h1] at hgu; exact hgu⟩
  ·refine .inr ⟨i, o', ?_, h3, by rw [go1 u h5, gρ i u h1] at hgu; exact hgu⟩
   have hi : i < ρ.length := (List.getElem?_eq_some_iff.mp h1).1
   have : Nat.blt i ρ.length = true := by simpa [Nat.blt_eq] using hi
   unfold sig
   rw [this, List.getD_eq_getElem?_getD, h1]; rfl
  ·refine .inr ⟨ρ.length + j, o', ?_, h2, by rw [go2 j] at hgu; exact hgu⟩
   have : Nat.blt (ρ.length + j) ρ.length = false := by
    cases hb : Nat.blt (ρ.length + j) ρ.length
    ·rfl
    ·have : ρ.length + j < ρ.length := by simpa [Nat.blt_eq] using hb
     omega
   unfold sig
   rw [this]
   simp only [cond_false]
   omega
 refine ⟨hs.size, hs.nodef, fun i => (hs.fr i).mono hS hg, ⟨?_, ?_, ?_, ?_, ?_, ?_, hs.ok.glob.mono hS⟩, ?_, ?_, ?_, ?_, ?_⟩
 ·intro u o h
  rcases lm u o h with ⟨h1, h2, h3⟩ | ⟨i, o0, o', h1, h2, h3, h4, h5⟩ | ⟨j, o', rfl, h2, rfl⟩
  ·refine (hs.ok.obj u o h3).mono hS hg fun b N hb => hkeep b (hs.ok.lt u o b N h3 hb) fun hA => ?_
   obtain ⟨t, o2, N2, q1, q2, q3⟩ := hab b hA
   exact h2 (hs.ok.inj u t _ _ b N N2 h3 q2 hb q3 ▸ q1)
  ·have hA := hs.ok.obj u o0 h2
   have hB := hok.obj i o' h3
   rcases mergeObj_some h4 with ⟨fr, cs0, fr', cs, q1, q2, rfl⟩ | ⟨fr, es0, fr', es, q1, q2, rfl⟩
   ·cases q1; cases q2
    rcases hB with h6 | ⟨b, N, arr, e, h6, h7, h8, h9, h10, h11⟩
    ·exact .inl (by rw [go1 u h5, gρ i u h1]; exact h6)
    ·refine .inr ⟨b, N, arr, e, by rw [go1 u h5, gρ i u h1]; exact h6, ?_, h8, h9, by rw [renCs_map]; simpa using h10, ?_⟩
     ·intro hf
      rcases hA with h12 | ⟨b2, N2, arr2, e2, h12, h13, _⟩
      ·rw [gρ i u h1, h6] at h12; cases h12
      ·rw [gρ i u h1, h6] at h12; cases h12; exact h13 hf
     ·intro j hj
      simp only [renCs_map, List.length_map, List.getElem_map] at hj ⊢
      exact (h11 j hj).way hway (okc i _ _ h3 _ (List.getElem_mem _))
   ·cases q1; cases q2
    obtain ⟨b, arr, clock, h6, h7, h8, h9, h10⟩ := hB
    refine ⟨b, arr, clock, by rw [go1 u h5, gρ i u h1]; exact h6, h7, h8, h9, fun j hj hj' => ?_⟩
    obtain ⟨hk, vs, r1, r2, r3, r4⟩ := h10 j hj hj'
    refine ⟨hk, vs, r1, r2, r3, fun m h13 h14 => (r4 m h13 h14).weak fun b hb => ?_⟩
    rcases hs0 b hb.1 with q | q | q
    ·exact ⟨.inr ⟨.inl q, hb.1⟩, fun h => by cases h⟩
    ·obtain rfl := okm i _ _ h3
     rcases q with q | ⟨q, _⟩
     ·exact ⟨.inl q, fun h => by cases h⟩
     ·cases q
    ·exact ⟨.inr ⟨.inr q, hb.1⟩, fun h => by cases h⟩
  ·have hB := hok.obj _ o' h2
   cases o' with
   | cells fr cs =>
    rcases hB with h6 | ⟨b, N, arr, e, h6, h7, h8, h9, h10, h11⟩
    ·exact .inl (by rw [go2]; exact h6)
    ·refine .inr ⟨b, N, arr, e, by rw [go2]; exact h6, fun hf => by have := h7 hf; omega, h8, h9, by rw [renCs_map]; simpa using h10, ?_⟩
     intro j hj
     simp only [renCs_map, List.length_map, List.getElem_map] at hj ⊢
     exact (h11 j hj).way hway (okc _ _ _ h2 _ (List.getElem_mem _))
   | map fr es =>
    obtain ⟨b, arr, clock, h6, h7, h8, h9, h10⟩ := hB
    refine ⟨b, arr, clock, by rw [go2]; exact h6, h7, h8, h9, fun j hj hj' => ?_⟩
    obtain ⟨hk, vs, r1, r2, r3, r4⟩ := h10 j hj hj'
    refine ⟨hk, vs, r1, r2, r3, fun m h13 h14 => (r4 m h13 h14).weak fun b hb => ?_⟩
    rcases hs0 b hb.1 with q | q | q
    ·exact ⟨.inr ⟨.inl q, hb.1⟩, fun h => by cases h⟩
    ·obtain rfl := okm _ _ _ h2
     rcases q with q | ⟨q, _⟩
     ·exact ⟨.inl q, fun h => by cases h⟩
     ·cases q
    ·exact ⟨.inr ⟨.inr q, hb.1⟩, fun h => by cases h⟩
 ·-- blocks of two
  intro u u' o o' b N N' h h' hu hu'
  rcases blk u o b N h hu with ⟨h1, h2, h3, h4⟩ | ⟨i, q, h1, h2, h3⟩ <;> rcases blk u' o' b N' h' hu' with ⟨k1, k2, k3, k4⟩ | ⟨j, r, k1, k2, k3⟩
  ·exact hs.ok.inj u u' o o' b N N' h3 k3 h4 k4
  ·rcases hwr j r b N' k2 k3 with q | q
   ·have := hs.ok.lt u o b N h3 h4; omega
   ·obtain ⟨t, o2, N2, q1, q2, q3⟩ := hab b q
    exact absurd (hs.ok.inj u t _ _ b N N2 h3 q2 h4 q3 ▸ q1) h2
  ·rcases hwr i q b N h2 h3 with q | q
   ·have := hs.ok.lt u' o' b N' k3 k4; omega
   ·obtain ⟨t, o2, N2, q1, q2, q3⟩ := hab b q
    exact absurd (hs.ok.inj u' t _ _ b N' N2 k3 q2 k4 q3 ▸ q1) k2
  ·have := hok.inj i j q r b N N' h2 k2 h3 k3
   subst this
   exact h1.symm.trans k1
 ·rintro b (hb | ⟨hb, hb'⟩)
  ·exact Nat.lt_of_lt_of_le (hs.ok.st b hb) hext.size
  ·exact hok.st b hb'
 ·intro b u o N hb h hu
  rcases blk u o b N h hu with ⟨h1, h2, h3, h4⟩ | ⟨i, q, h1, h2, h3⟩
  ·rcases hb with hb | ⟨hb, _⟩
   ·exact hs.ok.dis b u o N hb h3 h4
   ·rcases hb with hb | hb
    ·have := hs.ok.lt u o b N h3 h4; omega
    ·obtain ⟨t, o2, N2, q1, q2, q3⟩ := hab b hb
     exact h2 (hs.ok.inj u t _ _ b N N2 h3 q2 h4 q3 ▸ q1)
  ·rcases hb with hb | ⟨_, hb⟩
   ·rcases hwr i q b N h2 h3 with r | r
    ·have := hs.ok.st b hb; omega
    ·obtain ⟨t, o2, N2, q1, q2, q3⟩ := hab b r
     exact hs.ok.dis b t o2 N2 hb q2 q3
   ·exact hok.dis b i q N hb h2 h3
 ·intro t ht
  have hle : (mergeH (sig ρ st.H.length) st.H ρ H1).length = st.H.length + (H1.length - ρ.length) := by simp [mergeH, mergeAt_len]
  simp only [St.heap] at ht
  rw [hle] at ht
  unfold gOut
  rw [if_neg (by omega)]
  exact hok.dom _ (by omega)
 ·intro u o b N h hu
  rcases blk u o b N h hu with ⟨h1, h2, h3, h4⟩ | ⟨i, q, h1, h2, h3⟩
  ·exact Nat.lt_of_lt_of_le (hs.ok.lt u o b N h3 h4) hext.size
  ·exact hok.lt i q b N h2 h3
 ·rintro b (hb | ⟨hb | hb, _⟩)
  ·exact hs.s0 b hb
  ·exact .inl (by omega)
  ·obtain ⟨t, o2, N2, _, q2, q3⟩ := hab b hb
   rcases hs.wr t o2 b N2 q2 q3 with q | q
   ·exact .inl q
   ·exact .inr (.inr q)
 ·intro u o b N h hu
  rcases blk u o b N h hu with ⟨h1, h2, h3, h4⟩ | ⟨i, q, h1, h2, h3⟩
  ·exact hs.wr u o b N h3 h4
  ·rcases hwr i q b N h2 h3 with r | r
   ·exact .inl (by omega)
   ·obtain ⟨t, o2, N2, q1, q2, q3⟩ := hab b r
    exact hs.wr t o2 b N2 q2 q3
 ·refine ⟨hext.tape.trans hs.ext.tape, hext.os.trans hs.ext.os, hext.output.trans hs.ext.output, Nat.le_trans hbase hext.size, fun b hb hw => ?_⟩
  rw [hkeep b (by omega) fun h => ?_]
  ·exact hs.ext.frame b hb hw
  ·obtain ⟨t, o2, N2, q1, q2, q3⟩ := hab b h
   rcases hs.wr t o2 b N2 q2 q3 with q | q
   ·omega
   ·exact hw q
 ·intro t ht
  rw [go1 t (by have := hs.kl; omega)]; exact hs.par t ht
 ·have := hs.kl
  simp [St.heap, mergeH, mergeAt_len]; omega

variable {ops : Array Oper} {rest : List Oper} {dst : Option Tmp} {ty : TypeId} {pos : String} {aft : Array Edge}

/-- a call. -/
theorem s_call {y : Operand} {l : List Operand} {tys : Array TypeId} {f : FuncId} {caps : List C} {ds args' : List D} {H0 H1 H2 : List (Option AObj)} {r d : D} {ρ : List Nat} {br : Bool}
  (hc : callable pr f = true) (hy : st.val y = .one (.clo f caps)) (hl : l.map st.val = ds) (hlend : All2 (LendT st ρ br) (ds ++ caps.map D.one) args')
  (hH0 : All2 (LendO st ρ br) (ρ.map fun t => st.H.getD t none) H0) (hnd : ρ.Nodup) (hρ : ρ.all (fun t => Nat.blt t st.H.length) = true)
  (hm : Meets pr f args' H0 r H1) (hfr : br = false ∨ (frD r = true ∧ frH H1 = true)) (hH2 : mergeH (sig ρ st.H.length) st.H ρ H1 = H2) (hd : renD (sig ρ st.H.length) r = d)
  (k : AWops pr x ops rest K ((st.heap H2).put dst d)) :
  AWops pr x ops (⟨dst, .call { callee := .value y, args := l.toArray, argTypes := tys }, ty, pos, aft, none⟩ :: rest) K st := by
 intro a w S g hs
 subst hH2 hd
 refine wpList_plain rfl fun K' hK => ?_
 -- the values that are handed over
 have hyv := hy ▸ hs.val y
 obtain ⟨cv, hcv, hcl, hcr⟩ : ∃ cv : List Value, a.eval y = .func (.func f) #[] cv.toArray ∧ cv.length = caps.length ∧ ∀ i (h : i < caps.length) (h' : i < cv.length), CRel w S x.base g (cv[i]'h') (caps[i]'h) := by
  generalize a.eval y = q at hyv
  cases hyv with
  | t h => cases h with | one h => cases h with | clo vs hs h => exact ⟨vs, rfl, hs, h⟩
 have hargs : ∀ i (h : i < (ds ++ caps.map D.one).length) (h' : i < (l.map a.eval ++ cv).length), DRel w S x.base g ((l.map a.eval ++ cv)[i]'h') ((ds ++ caps.map D.one)[i]'h) := by
  have hll : l.length = ds.length := by simpa using congrArg List.length hl
  intro i h h'
  by_cases hi : i < l.length
  ·rw [List.getElem_append_left (by simpa using hi), List.getElem_append_left (by omega)]
   exact list_rel (fun o => hs.val o) hl i (by omega) (by simpa using hi)
  ·rw [List.getElem_append_right (by simpa using Nat.le_of_not_lt hi), List.getElem_append_right (by omega)]
   simp only [List.getElem_map, List.length_map]
   have h3 : i - l.length < cv.length := by simp at h'; omega
   have := hcr (i - l.length) (by omega) h3
   simp only [← hll]
   exact .t (.one this)
 have hlen2 : (l.map a.eval ++ cv).length = (ds ++ caps.map D.one).length := by
  have hll : l.length = ds.length := by simpa using congrArg List.length hl
  simp [hcl, hll]
 have hrl := hlend.len
 have hHl := hH0.len
 simp only [List.length_map] at hHl
 have hpre := hm (l.map a.eval ++ cv) w (SIn S g st.H ρ br) (gIn g ρ) (by omega) (fun i h1 h2 => (hargs i (by omega) h2).lend hs (hlend.get i (by omega) h1))
  (hs.hokIn hHl.symm hnd (fun i t ht => by
   obtain ⟨h1, h2⟩ := List.getElem?_eq_some_iff.mp ht
   have := hH0.get i (by simpa using h1) (by omega)
   simp only [List.getElem_map, h2] at this
   rw [List.getD_eq_getElem?_getD (l := H0), List.getElem?_eq_getElem (by omega)]
   exact this))
 -- the machine's way into the call
 have hrun : (execOp a.eval ⟨dst, .call { callee := .value y, args := l.toArray, argTypes := tys }, ty, pos, aft, none⟩).run pr w = .ok (.enter f (l.map a.eval ++ cv).toArray) w := by
  unfold callable at hc
  cases hfn : pr.funcs[f]? with
  | none => rw [hfn] at hc; cases hc
  | some fn =>
   rw [hfn] at hc
   simp only [Bool.and_eq_true] at hc
   obtain ⟨h1, h2⟩ := hc
   have h3 : ¬ fn.name = "runtime.NumGoroutine" := by simpa using h1
   have h4 : ¬ fn.body = none := by intro hb; rw [hb] at h2; cases h2
   simp [execOp, resolve, hcv, Deferred.ofValue, invoke, callFunc, hfn, h3, h4]
 simp only [Oper.wp, hrun, Oper.upon_enter]
 refine hpre.mono ?_
 rintro e w' ⟨v, S', g', rfl, hv, hok, hs0, hwr, hext, hpar, hle⟩
 have hlive : ∀ i o, Live H0 i o → ∃ t o1, ρ[i]? = some t ∧ Live st.H t o1 := by
  intro i o hi
  have h1 : i < ρ.length := by have := hi.lt; omega
  have := hH0.get i (by simpa using h1) (by omega)
  have h2 : H0[i]'(by omega) = some o := by
   have := hi
   unfold Live at this
   rw [List.getElem?_eq_getElem (by omega)] at this
   exact Option.some.inj this
  rw [h2] at this
  simp only [List.getElem_map] at this
  generalize hq : st.H.getD ρ[i] none = q at this
  cases q with
  | none => cases this
  | some o1 =>
   refine ⟨ρ[i], o1, List.getElem?_eq_getElem h1, ?_⟩
   rw [List.getD_eq_getElem?_getD] at hq
   unfold Live
   cases hz : st.H[ρ[i]]? with
   | none => rw [hz] at hq; cases hq
   | some z => rw [hz] at hq; simp at hq; rw [hq]
 have hlt : ∀ t ∈ ρ, t < st.H.length := fun t ht => by have := List.all_eq_true.mp hρ t ht; simpa [Nat.blt_eq] using this
 obtain ⟨h5, h6⟩ := hs.called hnd hHl.symm hlive hlt hok hs0 hwr hext hpar hle (hfr.imp id And.right)
 exact hK _ _ (k _ _ _ _ (Sim.put (st := st.heap _) h5 dst (hv.way h6 (frD_ok (hfr.imp id And.left)))))
end
end Go.Abs
