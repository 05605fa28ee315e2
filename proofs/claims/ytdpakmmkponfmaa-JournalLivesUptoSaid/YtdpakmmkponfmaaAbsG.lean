import Derived.Test.YtdpakmmkponfmaaAbsF
set_option linter.unusedVariables false
set_option linter.unusedSimpArgs false
namespace Go.Abs

/-! ### numbers of objects told otherwise -/
mutual
def renC (σ : Nat → Nat) : C → C
 | .own t off n sz => .own (σ t) off n sz
 | .ref t off => .ref (σ t) off
 | .er t off => .er (σ t) off
 | .cut t off n sz => .cut (σ t) off n sz
 | .opt o t off => .opt o (σ t) off
 | .mp t => .mp (σ t)
 | .clo f caps => .clo f (renCs σ caps)
 | .p fr x => .p fr x
 | .peek fr ps => .peek fr ps
 | .top => .top
def renCs (σ : Nat → Nat) : List C → List C
 | [] => []
 | c :: cs => renC σ c :: renCs σ cs
end

theorem renCs_map (σ : Nat → Nat) (cs : List C) : renCs σ cs = cs.map (renC σ) := by
 induction cs with
 | nil => rfl
 | cons c cs ih => simp [renCs, ih]

def renT (σ : Nat → Nat) : D → D
 | .one c => .one (renC σ c)
 | .agg cs => .agg (renCs σ cs)
 | .tup ds => .tup ds
def renD (σ : Nat → Nat) : D → D
 | .tup ds => .tup (ds.map (renT σ))
 | d => renT σ d

def renO (σ : Nat → Nat) : AObj → AObj
 | .cells fr cs => .cells fr (renCs σ cs)
 | .map fr es => .map fr es

section
variable {w w' : World} {S S' : Nat → Prop} {base base' : Nat} {g g' : G} {σ : Nat → Nat}

/-- what is not fresh may be asked not to be there. -/
def frC : C → Bool
 | .p fr (.v _) => true
 | .p fr _ => fr
 | .peek fr _ => fr
 | .clo _ _ => false
 | _ => true

/-- the way of a relation into another world, other numbers, another base. -/
structure Way (w w' : World) (S S' : Nat → Prop) (base base' : Nat) (g g' : G) (σ : Nat → Nat) (ok : C → Prop) : Prop where
 g : ∀ t v, g t = some v → g' (σ t) = some v
 p : ∀ fr x (c : P), ok (.p fr c) → PRel w (Sub S base fr) x c → PRel w' (Sub S' base' fr) x c
 peek : ∀ fr b, (∃ ps, ok (.peek fr ps)) → Sub S base fr b → Sub S' base' fr b ∧ w'.heap[b]? = w.heap[b]?
 clo : ∀ f caps, ok (.clo f caps) → ∀ c ∈ caps, ok c

theorem CRel.way {ok : C → Prop} (h : Way w w' S S' base base' g g' σ ok) {x : Value} {c : C} (hr : CRel w S base g x c) (hok : ok c) : CRel w' S' base' g' x (renC σ c) := by
 induction hr with
 | p hp => exact .p (h.p _ _ _ hok hp)
 | own hg hn hN => exact .own (h.g _ _ hg) hn hN
 | own0 a hg => exact .own0 a (h.g _ _ hg)
 | ref hg ho => exact .ref (h.g _ _ hg) ho
 | er hg => exact .er (h.g _ _ hg)
 | cut hg hn hN ho => exact .cut (h.g _ _ hg) hn hN ho
 | opt1 hg ho => exact .opt1 (h.g _ _ hg) ho
 | opt0 => exact .opt0
 | peek b o ps us hb hc hr' =>
  have hp := fun b => h.peek _ b ⟨_, hok⟩
  exact .peek b o ps us (hp b hb).1 (fun j hj => by rw [cell_of_heap (hp b hb).2]; exact hc j hj) (fun j hj => (hr' j hj).mono fun b hb => hp b hb)
 | mp hg => exact .mp (h.g _ _ hg)
 | @clo f caps vs hs _ ih =>
  simp only [renC, renCs_map]
  refine .clo vs (by simpa using hs) fun i hi hi' => ?_
  simp only [List.getElem_map]
  exact ih i (by simpa using hi) hi' (h.clo _ _ hok _ (List.getElem_mem _))
 | top x => exact .top x

def okT (ok : C → Prop) : D → Prop
 | .one c => ok c
 | .agg cs => ∀ c ∈ cs, ok c
 | .tup _ => True
def okD (ok : C → Prop) : D → Prop
 | .tup ds => ∀ d ∈ ds, okT ok d
 | d => okT ok d

theorem TRel.way {ok : C → Prop} (h : Way w w' S S' base base' g g' σ ok) {x : Value} {d : D} (hr : TRel w S base g x d) (hok : okT ok d) : TRel w' S' base' g' x (renT σ d) := by
 cases hr with
 | one hr => exact .one (hr.way h hok)
 | agg vs hs hr =>
  simp only [renT, renCs_map]
  refine .agg vs (by simpa using hs) fun i hi hi' => ?_
  simp only [List.getElem_map]
  exact (hr i (by simpa using hi) hi').way h (hok _ (List.getElem_mem _))

theorem DRel.way {ok : C → Prop} (h : Way w w' S S' base base' g g' σ ok) {x : Value} {d : D} (hr : DRel w S base g x d) (hok : okD ok d) : DRel w' S' base' g' x (renD σ d) := by
 cases hr with
 | @t x d hr =>
  refine .t ?_
  have h2 : okT ok d := by cases hr <;> exact hok
  have h3 := hr.way h h2
  cases hr <;> exact h3
 | tup vs hs hr =>
  simp only [renD]
  refine .tup vs (by simpa using hs) fun i hi hi' => ?_
  simp only [List.getElem_map]
  exact (hr i (by simpa using hi) hi').way h (hok _ (List.getElem_mem _))
end

/-! ### what a function does -/
def argB (g : G) (H : List (Option AObj)) (b : Nat) : Prop := ∃ t o N, Live H t o ∧ g t = some (some (b, N))

def ctxOf (w : World) (S : Nat → Prop) (g : G) (H : List (Option AObj)) : Ctx := { base := w.heap.size, w0 := w, wr := argB g H, S0 := S, k := H.length, g0 := g }

/-- called with these, over these objects, it returns that, and the objects are those. -/
def Meets (pr : Program) (f : FuncId) (args : List D) (H : List (Option AObj)) (r : D) (H' : List (Option AObj)) : Prop :=
 ∀ (vs : List Value) (w : World) (S : Nat → Prop) (g : G), vs.length = args.length →
  (∀ i (h : i < args.length) (h' : i < vs.length), DRel w S w.heap.size g (vs[i]'h') (args[i]'h)) → HOK w S w.heap.size g H →
  Calls pr f vs.toArray w fun e w' => ∃ v S' g', e = .returned v ∧ DRel w' S' w.heap.size g' v r ∧ HOK w' S' w.heap.size g' H' ∧
   (∀ b, S' b → w.heap.size ≤ b ∨ S b ∨ argB g H b) ∧ (∀ t o b N, Live H' t o → g' t = some (some (b, N)) → w.heap.size ≤ b ∨ argB g H b) ∧
   Ext (ctxOf w S g H) w' ∧ (∀ t, t < H.length → g' t = g t) ∧ H.length ≤ H'.length

/-- the same, where there are m blocks at least. -/
def MeetsM (m : Nat) (pr : Program) (f : FuncId) (args : List D) (H : List (Option AObj)) (r : D) (H' : List (Option AObj)) : Prop :=
 ∀ (vs : List Value) (w : World) (S : Nat → Prop) (g : G), m ≤ w.heap.size → vs.length = args.length →
  (∀ i (h : i < args.length) (h' : i < vs.length), DRel w S w.heap.size g (vs[i]'h') (args[i]'h)) → HOK w S w.heap.size g H →
  Calls pr f vs.toArray w fun e w' => ∃ v S' g', e = .returned v ∧ DRel w' S' w.heap.size g' v r ∧ HOK w' S' w.heap.size g' H' ∧
   (∀ b, S' b → w.heap.size ≤ b ∨ S b ∨ argB g H b) ∧ (∀ t o b N, Live H' t o → g' t = some (some (b, N)) → w.heap.size ≤ b ∨ argB g H b) ∧
   Ext (ctxOf w S g H) w' ∧ (∀ t, t < H.length → g' t = g t) ∧ H.length ≤ H'.length
theorem Meets.toM {m : Nat} {pr : Program} {f : FuncId} {args : List D} {H : List (Option AObj)} {r : D} {H' : List (Option AObj)} (h : Meets pr f args H r H') : MeetsM m pr f args H r H' :=
 fun vs w S g _ => h vs w S g

/-- what stands in a result's place. -/
def resD (pr : Program) (st : St) : ResultVar → Option D
 | .tmp t => some (st.fr t)
 | .cell a t =>
  match st.at (st.fr a), aggOf pr t, szOf pr t with
  | some (c :: _), some false, _ => some (.one c)
  | some cs, some true, some n => if n ≤ cs.length then some (.agg (cs.take n)) else none
  | _, _, _ => none

def isT : D → Bool
 | .tup _ => false
 | _ => true

/-- all of a function's results. -/
def resAll (pr : Program) (st : St) : List ResultVar → Option D
 | [rv] => resD pr st rv
 | rvs => (rvs.mapM (resD pr st)).bind fun ds => if ds.all isT then some (.tup ds) else none

def topF (_ : Nat) : D := .one .top

def finalK (pr : Program) (k : Nat) (fn : Func) (r : D) (H' : List (Option AObj)) : Exit → St → Prop
 | .normal, st | .ret, st => ∃ d, resAll pr st fn.results.toList = some d ∧ Weak k ⟨1, upd 1 topF 0 d, st.H⟩ ⟨1, upd 1 topF 0 r, H'⟩
 | _, _ => False

section
variable {pr : Program} {x : Ctx} {K : Exit → St → Prop} {st : St} {a : Act} {w : World} {S : Nat → Prop} {g : G}

def rvSem (tmps : Array Value) : ResultVar → Sem Value
 | .tmp t => pure (tmps.getD t undef)
 | .cell y t => do loadVar t (← asAddr (tmps.getD y undef))

theorem results_eq (fn : Func) (tmps : Array Value) : results fn tmps = (fn.results.mapM (rvSem tmps) >>= fun vs => pure (if h : vs.size = 1 then vs[0] else .tuple vs)) := by
 unfold results
 congr 1

theorem Sim.res (hs : Sim x st a w S g) {rv : ResultVar} {d : D} (h : resD pr st rv = some d) :
  ∃ v, (rvSem a.tmps rv).run pr w = .ok v w ∧ DRel w S x.base g v d := by
 cases rv with
 | tmp t => simp only [resD] at h; cases h; exact ⟨_, rfl, hs.fr t⟩
 | cell y t =>
  simp only [resD] at h
  split at h
  ·rename_i c cs hat hag
   cases h
   obtain ⟨b, o, hv, vs, hl, hp, hc⟩ := hs.at (hs.fr y) hat
   obtain ⟨u, hu, hr⟩ := hp 0 c rfl
   have h0 := hc 0 u hu
   simp only [Nat.add_zero] at h0
   refine ⟨u, ?_, .t (.one hr)⟩
   simp [rvSem, hv, asAddr, loadVar, run_agg hag, h0]
  ·rename_i cs n hat hag hsz
   split at h
   ·rename_i hn
    cases h
    obtain ⟨b, o, hv, vs, hl, hp, hc⟩ := hs.at (hs.fr y) hat
    refine ⟨.agg (vs.take n).toArray, ?_, .t (.agg _ (by simp; omega) (hp.take n).get)⟩
    simp [rvSem, hv, asAddr, loadVar, run_agg hag, run_size hsz, run_loadCells_pts hc (show n ≤ vs.length by omega)]
   ·cases h
  ·cases h

theorem run_mapM {α : Type} {f : α → Sem Value} {R : Value → D → Prop} : ∀ {l : List α} {ds : List D} (h : ∀ i (h : i < l.length) (h' : i < ds.length), ∃ v, (f (l[i]'h)).run pr w = .ok v w ∧ R v (ds[i]'h')),
  l.length = ds.length → ∃ vs : List Value, (l.mapM f).run pr w = .ok vs w ∧ vs.length = ds.length ∧ ∀ i (h : i < ds.length) (h' : i < vs.length), R (vs[i]'h') (ds[i]'h)
 | [], [], _, _ => ⟨[], by simp, rfl, fun i h => absurd h (by simp)⟩
 | y :: l, d :: ds, h, hl => by
  obtain ⟨v, hv, hr⟩ := h 0 (by simp) (by simp)
  obtain ⟨vs, hvs, hlen, hrs⟩ := run_mapM (l := l) (ds := ds) (fun i h1 h2 => h (i + 1) (by simp; omega) (by simp; omega)) (by simpa using hl)
  refine ⟨v :: vs, ?_, by simp [hlen], ?_⟩
  ·have : (f y).run pr w = .ok v w := hv
   simp [List.mapM_cons, this, hvs]
  ·intro i h1 h2
   cases i with
   | zero => exact hr
   | succ i => exact hrs i (by simpa using h1) (by simpa using h2)

theorem mapM_some {α : Type} {f : α → Option D} : ∀ {l : List α} {ds : List D}, l.mapM f = some ds → l.map f = ds.map some
 | [], ds, h => by simp at h; subst h; rfl
 | y :: l, ds, h => by
  simp only [List.mapM_cons, Option.bind_eq_bind, Option.bind_eq_some_iff, Option.pure_def, Option.some.injEq] at h
  obtain ⟨d, hd, ds', hds, rfl⟩ := h
  simp [hd, mapM_some hds]

theorem Sim.results (hs : Sim x st a w S g) {fn : Func} {r : D} (h : resAll pr st fn.results.toList = some r) : ∃ v, (results fn a.tmps).run pr w = .ok v w ∧ DRel w S x.base g v r := by
 obtain ⟨ds, hd, hr⟩ : ∃ ds, fn.results.toList.map (resD pr st) = ds.map some ∧ ((∃ d, ds = [d] ∧ r = d) ∨ (ds.length ≠ 1 ∧ r = .tup ds ∧ ds.all isT = true)) := by
  generalize fn.results.toList = l at h ⊢
  unfold resAll at h
  split at h
  ·exact ⟨[r], by simp [h], .inl ⟨r, rfl, rfl⟩⟩
  ·rename_i hne
   obtain ⟨ds, h1, h2⟩ := Option.bind_eq_some_iff.mp h
   split at h2
   ·rename_i hall
    cases h2
    have h3 := mapM_some h1
    refine ⟨ds, h3, .inr ⟨?_, rfl, hall⟩⟩
    intro hl
    have : l.length = 1 := by have := congrArg List.length h3; simpa [hl] using this
    match l, this with
    | [rv], _ => exact hne rv rfl
   ·cases h2
 have hl : fn.results.toList.length = ds.length := by simpa using congrArg List.length hd
 obtain ⟨vs, hvs, hlen, hrs⟩ := run_mapM (pr := pr) (w := w) (f := rvSem a.tmps)
  (R := fun v d => DRel w S x.base g v d) (l := fn.results.toList) (ds := ds) (fun i h1 h2 => hs.res (by
   have h3 : (fn.results.toList.map (resD pr st))[i]? = (ds.map some)[i]? := by rw [hd]
   rw [List.getElem?_map, List.getElem?_map, List.getElem?_eq_getElem h1, List.getElem?_eq_getElem h2] at h3
   exact Option.some.inj h3)) hl
 have hm : (fn.results.mapM (rvSem a.tmps)).run pr w = .ok vs.toArray w := by
  have e : fn.results = fn.results.toList.toArray := by simp
  rw [e, List.mapM_toArray]
  simp only [Sem.run_map]
  rw [hvs]
  rfl
 refine ⟨if h : vs.toArray.size = 1 then vs.toArray[0] else .tuple vs.toArray, ?_, ?_⟩
 ·rw [results_eq]
  simp only [Sem.run_bind]
  rw [hm]; rfl
 ·rcases hr with ⟨d, rfl, rfl⟩ | ⟨hne, rfl, hall⟩
  ·have : vs.length = 1 := by simpa using hlen
   simp only [List.size_toArray, this, dif_pos]
   have := hrs 0 (by simp) (by omega)
   simpa using this
  ·rw [dif_neg (by simp; omega)]
   refine .tup vs hlen fun i h1 h2 => ?_
   have h3 := hrs i h1 h2
   have h4 : isT ds[i] = true := List.all_eq_true.mp hall _ (List.getElem_mem _)
   generalize ds[i] = d at h3 h4
   generalize vs[i] = v at h3 ⊢
   cases h3 with
   | t h3 => exact h3
   | tup _ _ _ => cases h4

def fr0 (args : List D) (i : Nat) : D := args.getD i (.one .top)

/-- from the body to the call. -/
theorem MeetsM.of_body {m : Nat} {f : FuncId} {fn : Func} {c : Code} {args : List D} {H H' : List (Option AObj)} {r : D} {n : Nat} (hf : pr.funcs[f]? = some fn) (hb : fn.body = some c) (hn : fn.ntmps = n) (hargs : args.length ≤ n)
  (h : ∀ x : Ctx, x.k = H.length → m ≤ x.base → AW pr x c (finalK pr H.length fn r H') ⟨n, fr0 args, H⟩) : MeetsM m pr f args H r H' := by
 intro vs w S g hmw hl hr hok
 refine calls_of_wp hf hb ?_
 have hs : Sim (ctxOf w S g H) ⟨n, fr0 args, H⟩ { tmps := vs.toArray ++ Array.replicate (fn.ntmps - vs.toArray.size) undef, defers := [] } w S g := by
  refine ⟨by simp [hn]; omega, rfl, fun i => ?_, hok, fun b hb => .inr (.inl hb), fun t o b N h1 h2 => .inr ⟨t, o, N, h1, h2⟩, ⟨rfl, rfl, rfl, Nat.le_refl _, fun _ _ _ => rfl⟩, fun _ _ => rfl, Nat.le_refl _⟩
  show DRel w S w.heap.size g _ _
  simp only [Array.getD_eq_getD_getElem?, fr0, List.getD_eq_getElem?_getD]
  by_cases hi : i < args.length
  ·have := hr i hi (by omega)
   rw [Array.getElem?_append_left (by simp; omega)]
   have hi' : i < vs.length := by omega
   simpa [hi, hi'] using this
  ·have hi' : vs.length ≤ i := by omega
   rw [List.getElem?_eq_none (by omega)]
   exact .top _
 refine Go.wp_mono (h (ctxOf w S g H) rfl hmw _ w S g hs) ?_
 rintro e a' w' ⟨st, S', g', h1, h2⟩
 have fin : ∀ st, Sim (ctxOf w S g H) st a' w' S' g' → (∃ d, resAll pr st fn.results.toList = some d ∧ Weak H.length ⟨1, upd 1 topF 0 d, st.H⟩ ⟨1, upd 1 topF 0 r, H'⟩) → a'.defers = [] ∧ ∃ v, (results fn a'.tmps).run pr w' = .ok v w' ∧
   (fun e w' => ∃ v S' g', e = .returned v ∧ DRel w' S' w.heap.size g' v r ∧ HOK w' S' w.heap.size g' H' ∧
   (∀ b, S' b → w.heap.size ≤ b ∨ S b ∨ argB g H b) ∧ (∀ t o b N, Live H' t o → g' t = some (some (b, N)) → w.heap.size ≤ b ∨ argB g H b) ∧
   Ext (ctxOf w S g H) w' ∧ (∀ t, t < H.length → g' t = g t) ∧ H.length ≤ H'.length) (Ending.returned v) w' := by
  rintro st h1 ⟨d, hd, hw⟩
  obtain ⟨v, hv, hdr⟩ := h1.results hd
  have h2 : Sim (ctxOf w S g H) ⟨1, upd 1 topF 0 d, st.H⟩ { tmps := #[v], defers := [] } w' S' g' := by
   refine ⟨rfl, rfl, fun i => ?_, h1.ok, h1.s0, h1.wr, h1.ext, h1.par, h1.kl⟩
   cases i with
   | zero => exact hdr
   | succ i => exact .top _
  obtain ⟨S'', g'', h3⟩ := hw _ _ _ _ _ rfl h2
  have hr : DRel w' S'' w.heap.size g'' v r := h3.fr 0
  exact ⟨h1.nodef, v, hv, v, S'', g'', rfl, hr, h3.ok, h3.s0, h3.wr, h3.ext, h3.par, h3.kl⟩
 cases e with
 | normal => exact fin st h1 h2
 | ret => exact fin st h1 h2
 | _ => exact h2.elim
theorem Meets.of_body {f : FuncId} {fn : Func} {c : Code} {args : List D} {H H' : List (Option AObj)} {r : D} {n : Nat} (hf : pr.funcs[f]? = some fn) (hb : fn.body = some c) (hn : fn.ntmps = n) (hargs : args.length ≤ n)
  (h : ∀ x : Ctx, x.k = H.length → AW pr x c (finalK pr H.length fn r H') ⟨n, fr0 args, H⟩) : Meets pr f args H r H' :=
 fun vs w S g => MeetsM.of_body (m := 0) hf hb hn hargs (fun x hx _ => h x hx) vs w S g (Nat.zero_le _)
end
end Go.Abs
