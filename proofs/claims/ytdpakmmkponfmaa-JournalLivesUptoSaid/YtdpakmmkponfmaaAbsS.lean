import Derived.Test.YtdpakmmkponfmaaAbsR
set_option linter.unusedVariables false
set_option linter.unusedSimpArgs false
namespace Go.Abs

/-- the live ones among the numbers are told apart. -/
def ndl : List Nat → List (Option AObj) → Bool
 | t :: ρ, some _ :: H => ndl1 t ρ H && ndl ρ H
 | _ :: ρ, none :: H => ndl ρ H
 | _, _ => true
where
 ndl1 (t : Nat) : List Nat → List (Option AObj) → Bool
 | u :: ρ, some _ :: H => !Nat.beq t u && ndl1 t ρ H
 | _ :: ρ, none :: H => ndl1 t ρ H
 | _, _ => true

theorem ndl1_ne {t : Nat} : ∀ {ρ : List Nat} {H : List (Option AObj)} {i u : Nat} {o : AObj}, ndl.ndl1 t ρ H = true → Live H i o → ρ[i]? = some u → t ≠ u
 | [], H, i, u, o, _, _, hu => by simp at hu
 | v :: ρ, [], i, u, o, _, hl, _ => by simp [Live] at hl
 | v :: ρ, some q :: H, 0, u, o, h, hl, hu => by
  simp only [ndl.ndl1, Bool.and_eq_true] at h
  simp at hu
  subst hu
  intro e; subst e; simp at h
 | v :: ρ, none :: H, 0, u, o, h, hl, hu => by simp [Live] at hl
 | v :: ρ, some q :: H, i + 1, u, o, h, hl, hu => by
  simp only [ndl.ndl1, Bool.and_eq_true] at h
  exact ndl1_ne (i := i) h.2 (by simpa [Live] using hl) (by simpa using hu)
 | v :: ρ, none :: H, i + 1, u, o, h, hl, hu => by
  simp only [ndl.ndl1] at h
  exact ndl1_ne (i := i) h (by simpa [Live] using hl) (by simpa using hu)

theorem ndl_inj : ∀ {ρ : List Nat} {H : List (Option AObj)} {i j u : Nat} {o o' : AObj}, ndl ρ H = true → Live H i o → Live H j o' → ρ[i]? = some u → ρ[j]? = some u → i = j
 | [], H, i, j, u, o, o', _, _, _, hu, _ => by simp at hu
 | v :: ρ, [], i, j, u, o, o', _, hl, _, _, _ => by simp [Live] at hl
 | v :: ρ, some q :: H, 0, 0, u, o, o', _, _, _, _, _ => rfl
 | v :: ρ, none :: H, 0, j, u, o, o', _, hl, _, _, _ => by simp [Live] at hl
 | v :: ρ, none :: H, i + 1, 0, u, o, o', _, _, hl, _, _ => by simp [Live] at hl
 | v :: ρ, some q :: H, 0, j + 1, u, o, o', h, _, hl', hu, hu' => by
  simp only [ndl, Bool.and_eq_true] at h
  simp at hu; subst hu
  exact absurd rfl (ndl1_ne (i := j) h.1 (by simpa [Live] using hl') (by simpa using hu'))
 | v :: ρ, some q :: H, i + 1, 0, u, o, o', h, hl, _, hu, hu' => by
  simp only [ndl, Bool.and_eq_true] at h
  simp at hu'; subst hu'
  exact absurd rfl (ndl1_ne (i := i) h.1 (by simpa [Live] using hl) (by simpa using hu))
 | v :: ρ, some q :: H, i + 1, j + 1, u, o, o', h, hl, hl', hu, hu' => by
  simp only [ndl, Bool.and_eq_true] at h
  have := ndl_inj (i := i) (j := j) h.2 (by simpa [Live] using hl) (by simpa [Live] using hl') (by simpa using hu) (by simpa using hu')
  omega
 | v :: ρ, none :: H, i + 1, j + 1, u, o, o', h, hl, hl', hu, hu' => by
  simp only [ndl] at h
  have := ndl_inj (i := i) (j := j) h (by simpa [Live] using hl) (by simpa [Live] using hl') (by simpa using hu) (by simpa using hu')
  omega

section
variable {x : Ctx} {st st' : St} {a : Act} {w : World} {S : Nat → Prop} {g : G} {ρ fz : List Nat}

theorem Weak.genL {k kk : Nat} (ρ fz : List Nat) (hk : k = kk) (hkk : (List.range kk).all (fun i => ρ[i]? == some i) = true) (hkl : kk ≤ ρ.length) (hnd : ndl ρ st'.H = true) (hdj : fz.all (fun t => !ρ.contains t) = true)
  (hfz : fz.all (cellsAt st.H) = true) (hn : st'.n = st.n) (hfr : ∀ i, DLe st.H ρ fz (st.fr i) (st'.fr i)) (hH : All2 (OLe st.H ρ fz) (ρ.map fun t => st.H.getD t none) st'.H) : Weak k st st' := by
 subst hk
 intro x a w S g hxk hs
 refine ⟨SFz S g fz, gIn g ρ, ?_⟩
 have hHl := hH.len
 simp only [List.length_map] at hHl
 have key : ∀ i o, Live st'.H i o → ∃ t, ρ[i]? = some t ∧ ∃ o1, Live st.H t o1 ∧ OLe st.H ρ fz (some o1) (some o) := by
  intro i o hi
  have hil : i < ρ.length := by have := hi.lt; omega
  have h2 := hH.get i (by simpa using hil) (by omega)
  have h3 : st'.H[i]'(by omega) = some o := by
   have := hi
   unfold Live at this
   rw [List.getElem?_eq_getElem (by omega)] at this
   exact Option.some.inj this
  rw [h3] at h2
  simp only [List.getElem_map] at h2
  refine ⟨ρ[i], List.getElem?_eq_getElem hil, ?_⟩
  generalize hq : st.H.getD ρ[i] none = q at h2
  cases q with
  | none => cases h2
  | some o1 =>
   refine ⟨o1, ?_, h2⟩
   rw [List.getD_eq_getElem?_getD] at hq
   unfold Live
   cases hz : st.H[ρ[i]]? with
   | none => rw [hz] at hq; cases hq
   | some z => rw [hz] at hq; simp at hq; rw [hq]
 have hfz' : ∀ t ∈ fz, t ∉ ρ ∧ ∃ fr cs, Live st.H t (.cells fr cs) := by
  intro t ht
  refine ⟨?_, cellsAt_some (List.all_eq_true.mp hfz t ht)⟩
  have := List.all_eq_true.mp hdj t ht
  simpa using this
 have hfb : ∀ t b N, t ∈ fz → g t = some (some (b, N)) → (x.base ≤ b ∨ x.wr b) ∧ b < w.heap.size := by
  intro t b N ht hg
  obtain ⟨_, fr, cs, hl⟩ := hfz' t ht
  exact ⟨hs.wr t _ b N hl hg, hs.ok.lt t _ b N hl hg⟩
 refine ⟨by rw [hs.size, hn], hs.nodef, fun i => (hs.fr i).le hs (hfr i), ⟨?_, ?_, ?_, ?_, ?_, ?_, hs.ok.glob.mono fun b hb => ⟨.inl hb, rfl⟩⟩, ?_, ?_, hs.ext, ?_, ?_⟩
 ·intro i o hi
  obtain ⟨t, ht, o1, h1, h2⟩ := key i o hi
  have h3 := hs.ok.obj t o1 h1
  cases h2 with
  | cells hf hall =>
   have hlen := hall.len
   rcases h3 with h4 | ⟨b, N, arr, e, h4, h5, h6, h7, h8, h9⟩
   ·exact .inl (by rw [gIn_at ht]; exact h4)
   ·exact .inr ⟨b, N, arr, e, by rw [gIn_at ht]; exact h4, fun h => h5 (hf h), h6, h7, by omega, fun j hj => (h9 j (by omega)).le hs (hall.get j (by omega) hj)⟩
  | map =>
   obtain ⟨b, arr, clock, h4, h5, h6, h7, h8⟩ := h3
   exact ⟨b, arr, clock, by rw [gIn_at ht]; exact h4, h5, h6, h7, fun j hj hj' => (h8 j hj hj').mono (fun b hb => ⟨.inl hb, rfl⟩)⟩
 ·intro i i' o o' b N N' hi hi' hb hb'
  obtain ⟨t, ht, o1, h1, _⟩ := key i o hi
  obtain ⟨t', ht', o1', h1', _⟩ := key i' o' hi'
  rw [gIn_at ht] at hb
  rw [gIn_at ht'] at hb'
  have := hs.ok.inj t t' _ _ b N N' h1 h1' hb hb'
  subst this
  exact ndl_inj hnd hi hi' ht ht'
 ·rintro b (hb | ⟨t, N, ht, hg⟩)
  ·exact hs.ok.st b hb
  ·exact (hfb t b N ht hg).2
 ·intro b i o N hb hi hgi
  obtain ⟨t, ht, o1, h1, _⟩ := key i o hi
  rw [gIn_at ht] at hgi
  rcases hb with hb | ⟨t', N', ht', hg'⟩
  ·exact hs.ok.dis b t o1 N hb h1 hgi
  ·obtain ⟨h3, fr, cs, h4⟩ := hfz' t' ht'
   have := hs.ok.inj t t' _ _ b N N' h1 h4 hgi hg'
   exact h3 (this ▸ List.mem_of_getElem? ht)
 ·intro t ht
  simp only [gIn]
  rw [List.getElem?_eq_none (by omega)]
 ·intro i o b N hi hgi
  obtain ⟨t, ht, o1, h1, _⟩ := key i o hi
  rw [gIn_at ht] at hgi
  exact hs.ok.lt t o1 b N h1 hgi
 ·rintro b (hb | ⟨t, N, ht, hg⟩)
  ·exact hs.s0 b hb
  ·rcases (hfb t b N ht hg).1 with q | q
   ·exact .inl q
   ·exact .inr (.inr q)
 ·intro i o b N hi hgi
  obtain ⟨t, ht, o1, h1, _⟩ := key i o hi
  rw [gIn_at ht] at hgi
  exact hs.wr t o1 b N h1 hgi
 ·intro t ht
  have := List.all_eq_true.mp hkk t (List.mem_range.mpr (by omega))
  have h2 : ρ[t]? = some t := by simpa using this
  rw [gIn_at h2]; exact hs.par t ht
 ·omega


/-! ### told otherwise: one object -/
theorem Sim.retell (hs : Sim x st a w S g) {t : Nat} {fr : Bool} {cs cs' : List C} (hl : Live st.H t (.cells fr cs)) (hlen : cs'.length = cs.length)
  (h : ∀ j (h : j < cs.length) (h' : j < cs'.length) v, CRel w S x.base g v (cs[j]'h) → CRel w S x.base g v (cs'[j]'h')) : Sim x (st.heap (st.H.set t (some (.cells fr cs')))) a w S g := by
 have hlv : ∀ u o, Live (st.H.set t (some (.cells fr cs'))) u o → ∃ q, Live st.H u q := by
  intro u o hu
  rcases live_set hl hu with ⟨rfl, _⟩ | ⟨_, h⟩ <;> exact ⟨_, by assumption⟩
 refine hs.change (fun b hb => ⟨hb, rfl⟩) (fun _ _ h => h) ⟨?_, ?_, hs.ok.st, ?_, fun t ht => hs.ok.dom t (by simpa using ht), ?_, hs.ok.glob⟩ hs.s0 ?_ hs.ext (fun _ _ => rfl) (by simp)
 ·intro u o hu
  rcases live_set hl hu with ⟨rfl, rfl⟩ | ⟨_, hu⟩
  ·rcases hs.ok.obj _ _ hl with h1 | ⟨b, N, arr, e, h1, h2, h3, h4, h5, h6⟩
   ·exact .inl h1
   ·exact .inr ⟨b, N, arr, e, h1, h2, h3, h4, by omega, fun j hj => h j (by omega) hj _ (h6 j (by omega))⟩
  ·exact hs.ok.obj u o hu
 ·intro u u' o o' b N N' hu hu' hb hb'
  obtain ⟨q, hq⟩ := hlv u o hu
  obtain ⟨q', hq'⟩ := hlv u' o' hu'
  exact hs.ok.inj u u' q q' b N N' hq hq' hb hb'
 ·intro b u o N hb hu hgu
  obtain ⟨q, hq⟩ := hlv u o hu
  exact hs.ok.dis b u q N hb hq hgu
 ·intro u o b N hu hgu
  obtain ⟨q, hq⟩ := hlv u o hu
  exact hs.ok.lt u q b N hq hgu
 ·intro u o b N hu hgu
  obtain ⟨q, hq⟩ := hlv u o hu
  exact hs.wr u q b N hq hgu

/-- an object that is not there, told otherwise. -/
theorem Sim.revirt (hs : Sim x st a w S g) {t : Nat} {fr : Bool} {cs : List C} (cs' : List C) (hl : Live st.H t (.cells fr cs)) (hg : g t = some none) : Sim x (st.heap (st.H.set t (some (.cells fr cs')))) a w S g := by
 have hlv : ∀ u o, Live (st.H.set t (some (.cells fr cs'))) u o → ∃ q, Live st.H u q := by
  intro u o hu
  rcases live_set hl hu with ⟨rfl, _⟩ | ⟨_, h⟩ <;> exact ⟨_, by assumption⟩
 refine hs.change (fun b hb => ⟨hb, rfl⟩) (fun _ _ h => h) ⟨?_, ?_, hs.ok.st, ?_, fun t ht => hs.ok.dom t (by simpa using ht), ?_, hs.ok.glob⟩ hs.s0 ?_ hs.ext (fun _ _ => rfl) (by simp)
 ·intro u o hu
  rcases live_set hl hu with ⟨rfl, rfl⟩ | ⟨_, hu⟩
  ·exact .inl hg
  ·exact hs.ok.obj u o hu
 ·intro u u' o o' b N N' hu hu' hb hb'
  obtain ⟨q, hq⟩ := hlv u o hu
  obtain ⟨q', hq'⟩ := hlv u' o' hu'
  exact hs.ok.inj u u' q q' b N N' hq hq' hb hb'
 ·intro b u o N hb hu hgu
  obtain ⟨q, hq⟩ := hlv u o hu
  exact hs.ok.dis b u q N hb hq hgu
 ·intro u o b N hu hgu
  obtain ⟨q, hq⟩ := hlv u o hu
  exact hs.ok.lt u q b N hq hgu
 ·intro u o b N hu hgu
  obtain ⟨q, hq⟩ := hlv u o hu
  exact hs.wr u q b N hq hgu

/-- nil in a cell becomes a row of the call's own. -/
theorem Weak.nilC {k n t j sz : Nat} {fr : Nat → D} {H : List (Option AObj)} {b f : Bool} {cs cs' : List C} (hl : H[t]? = some (some (.cells b cs))) (hc : cs[j]? = some (.p f (.v (.slice none 0 0))))
  (hcs : cs.set j (.own H.length 0 0 sz) = cs') : Weak k ⟨n, fr, H⟩ ⟨n, fr, H.set t (some (.cells b cs')) ++ [some (.cells true [])]⟩ := by
 subst hcs
 intro x a w S g hxk hs
 have h1 := hs.newNone
 obtain ⟨hj, hcj⟩ := List.getElem?_eq_some_iff.mp hc
 have ht : t < H.length := (List.getElem?_eq_some_iff.mp hl).1
 have hl' : Live (St.heap ⟨n, fr, H⟩ (H ++ [some (.cells true [])])).H t (.cells b cs) := by
  show (H ++ [some (AObj.cells true [])])[t]? = _
  rw [List.getElem?_append_left ht]; exact hl
 have h2 := h1.retell hl' (cs' := cs.set j (.own H.length 0 0 sz)) (by simp) (by
  intro i hi hi' v hv
  rw [List.getElem_set]
  split
  ·rename_i e; subst e
   rw [hcj] at hv
   cases hv with
   | p hv => cases hv with | v _ _ => exact .own0 none gnew_at
  ·exact hv)
 have e : (St.heap ⟨n, fr, H⟩ (H ++ [some (AObj.cells true [])])).H.set t (some (.cells b (cs.set j (.own H.length 0 0 sz)))) = H.set t (some (.cells b (cs.set j (.own H.length 0 0 sz)))) ++ [some (.cells true [])] := by
  show (H ++ [some (AObj.cells true [])]).set t _ = _
  rw [List.set_append_left _ _ ht]
 rw [e] at h2
 exact ⟨S, _, h2⟩

/-- what is known to be fresh may be told to be. -/
theorem Sim.fresher {H H' : List (Option AObj)} (hs : Sim x (st.heap H) a w S g) (Q : Nat → Prop) (hq : ∀ u o b N, Q u → Live H u o → g u = some (some (b, N)) → x.base ≤ b) (hlen : H'.length = H.length)
  (h : ∀ u o, Live H' u o → ∃ o1, Live H u o1 ∧ (o = o1 ∨ (Q u ∧ ((∃ f f' cs, o1 = .cells f cs ∧ o = .cells f' cs))))) : Sim x (st.heap H') a w S g := by
 have hlv : ∀ u o, Live H' u o → ∃ q, Live H u q := fun u o hu => let ⟨o1, h1, _⟩ := h u o hu; ⟨o1, h1⟩
 refine ⟨hs.size, hs.nodef, hs.fr, ⟨?_, ?_, hs.ok.st, ?_, fun t ht => hs.ok.dom t (by simp only [St.heap] at ht ⊢; omega), ?_, hs.ok.glob⟩, hs.s0, ?_, hs.ext, hs.par, by have := hs.kl; simp only [St.heap] at this ⊢; omega⟩
 ·intro u o hu
  obtain ⟨o1, h1, h2⟩ := h u o hu
  rcases h2 with rfl | ⟨hQ, f, f', cs, rfl, rfl⟩
  ·exact hs.ok.obj u o h1
  ·rcases hs.ok.obj u _ h1 with h3 | ⟨b, N, arr, e, q1, q2, q3⟩
   ·exact .inl h3
   ·exact .inr ⟨b, N, arr, e, q1, fun _ => hq u _ b N hQ h1 q1, q3⟩
 ·intro u u' o o' b N N' hu hu' hb hb'
  obtain ⟨q, h1⟩ := hlv u o hu
  obtain ⟨q', h2⟩ := hlv u' o' hu'
  exact hs.ok.inj u u' q q' b N N' h1 h2 hb hb'
 ·intro b u o N hb hu hgu
  obtain ⟨q, h1⟩ := hlv u o hu
  exact hs.ok.dis b u q N hb h1 hgu
 ·intro u o b N hu hgu
  obtain ⟨q, h1⟩ := hlv u o hu
  exact hs.ok.lt u q b N h1 hgu
 ·intro u o b N hu hgu
  obtain ⟨q, h1⟩ := hlv u o hu
  exact hs.wr u q b N h1 hgu

/-! ### a call, once more: what it hands back is fresh, where all that was handed over is -/
def orF (q : Bool) : Option AObj → Option AObj
 | some (.cells fr cs) => some (.cells (fr || q) cs)
 | o => o
def mergeH2 (σ : Nat → Nat) (H : List (Option AObj)) (ρ : List Nat) (H' : List (Option AObj)) (q : Bool) : List (Option AObj) :=
 mergeAt σ H ρ H' ++ (H'.drop ρ.length).map fun o => orF q (o.map (renO σ))
theorem mergeH2_len (σ : Nat → Nat) (H : List (Option AObj)) (ρ : List Nat) (H' : List (Option AObj)) (q : Bool) : (mergeH2 σ H ρ H' q).length = (mergeH σ H ρ H').length := by
 simp [mergeH2, mergeH]
theorem orF_false (o : Option AObj) : orF false o = o := by
 cases o with
 | none => rfl
 | some o => cases o <;> simp [orF]
theorem mergeH2_false (σ : Nat → Nat) (H : List (Option AObj)) (ρ : List Nat) (H' : List (Option AObj)) : mergeH2 σ H ρ H' false = mergeH σ H ρ H' := by
 simp [mergeH2, mergeH, orF_false]
theorem mergeH2_live {σ : Nat → Nat} {H : List (Option AObj)} {ρ : List Nat} {H' : List (Option AObj)} {q : Bool} {u : Nat} {o : AObj} (h : Live (mergeH2 σ H ρ H' q) u o) :
  ∃ o1, Live (mergeH σ H ρ H') u o1 ∧ (o = o1 ∨ (H.length ≤ u ∧ ∃ f f' cs, o1 = .cells f cs ∧ o = .cells f' cs)) := by
 unfold Live mergeH2 at h
 rw [List.getElem?_append, mergeAt_len] at h
 unfold Live mergeH
 rw [List.getElem?_append, mergeAt_len]
 split at h
 ·rename_i hlt
  rw [if_pos hlt]
  exact ⟨o, h, .inl rfl⟩
 ·rename_i hge
  rw [if_neg hge]
  rw [List.getElem?_map] at h
  rw [List.getElem?_map]
  generalize (List.drop ρ.length H')[u - H.length]? = p at h ⊢
  cases p with
  | none => cases h
  | some p =>
   cases p with
   | none => simp [orF] at h
   | some p =>
    simp only [Option.map_some] at h ⊢
    cases p with
    | cells f cs =>
     simp only [renO, orF, Option.some.injEq] at h
     exact ⟨_, rfl, .inr ⟨by omega, f, (f || q), _, rfl, h.symm⟩⟩
    | map f es =>
     simp only [renO, orF, Option.some.injEq] at h
     exact ⟨_, rfl, .inl h.symm⟩

variable {pr : Program} {K : Exit → St → Prop}
variable {ops : Array Oper} {rest : List Oper} {dst : Option Tmp} {ty : TypeId} {pos : String} {aft : Array Edge}

/-- a call. -/
theorem s_call2M {m : Nat} {y : Operand} {l : List Operand} {tys : Array TypeId} {f : FuncId} {caps : List C} {ds args' : List D} {H0 H1 H2 : List (Option AObj)} {r d : D} {ρ : List Nat} {br : Bool}
  (hc : callable pr f = true) (hy : st.val y = .one (.clo f caps)) (hl : l.map st.val = ds) (hlend : All2 (LendT st ρ br) (ds ++ caps.map D.one) args')
  (hH0 : All2 (LendO st ρ br) (ρ.map fun t => st.H.getD t none) H0) (hnd : ρ.Nodup) (hρ : ρ.all (fun t => Nat.blt t st.H.length) = true)
  (hmx : m ≤ x.base) (hm : MeetsM m pr f args' H0 r H1) (hfr : br = false ∨ (frD r = true ∧ frH H1 = true)) (hH2 : mergeH2 (sig ρ st.H.length) st.H ρ H1 (ρ.all (freshAt st.H)) = H2) (hd : renD (sig ρ st.H.length) r = d)
  (k : AWops pr x ops rest K ((st.heap H2).put dst d)) :
  AWops pr x ops (⟨dst, .call { callee := .value y, args := l.toArray, argTypes := tys }, ty, pos, aft, none⟩ :: rest) K st := by
 intro a w S g hs
 subst hH2 hd
 refine wpList_plain rfl fun K' hK => ?_
 -- the values that are handed over
 have hyv := hy ▸ hs.val y
 obtain ⟨cv, hcv, hcl, hcr⟩ : ∃ cv : List Value, a.eval y = .func (.func f) #[] cv.toArray ∧ cv.length = caps.length ∧ ∀ i (h : i < caps.length) (h' : i < cv.length), CRel w S x.base g (cv[i]'h') (caps[i]'h) := by
  generalize a.eval y = q at hyv
  cases hyv with
  | t h => cases h with | one h => cases h with | clo vs hs h => exact ⟨vs, rfl, hs, h⟩
 have hargs : ∀ i (h : i < (ds ++ caps.map D.one).length) (h' : i < (l.map a.eval ++ cv).length), DRel w S x.base g ((l.map a.eval ++ cv)[i]'h') ((ds ++ caps.map D.one)[i]'h) := by
  have hll : l.length = ds.length := by simpa using congrArg List.length hl
  intro i h h'
  by_cases hi : i < l.length
  ·rw [List.getElem_append_left (by simpa using hi), List.getElem_append_left (by omega)]
   exact list_rel (fun o => hs.val o) hl i (by omega) (by simpa using hi)
  ·rw [List.getElem_append_right (by simpa using Nat.le_of_not_lt hi), List.getElem_append_right (by omega)]
   simp only [List.getElem_map, List.length_map]
   have h3 : i - l.length < cv.length := by simp at h'; omega
   have := hcr (i - l.length) (by omega) h3
   simp only [← hll]
   exact .t (.one this)
 have hlen2 : (l.map a.eval ++ cv).length = (ds ++ caps.map D.one).length := by
  have hll : l.length = ds.length := by simpa using congrArg List.length hl
  simp [hcl, hll]
 have hrl := hlend.len
 have hHl := hH0.len
 simp only [List.length_map] at hHl
 have hpre := hm (l.map a.eval ++ cv) w (SIn S g st.H ρ br) (gIn g ρ) (Nat.le_trans hmx hs.ext.size) (by omega) (fun i h1 h2 => (hargs i (by omega) h2).lend hs (hlend.get i (by omega) h1))
  (hs.hokIn hHl.symm hnd (fun i t ht => by
   obtain ⟨h1, h2⟩ := List.getElem?_eq_some_iff.mp ht
   have := hH0.get i (by simpa using h1) (by omega)
   simp only [List.getElem_map, h2] at this
   rw [List.getD_eq_getElem?_getD (l := H0), List.getElem?_eq_getElem (by omega)]
   exact this))
 -- the machine's way into the call
 have hrun : (execOp a.eval ⟨dst, .call { callee := .value y, args := l.toArray, argTypes := tys }, ty, pos, aft, none⟩).run pr w = .ok (.enter f (l.map a.eval ++ cv).toArray) w := by
  unfold callable at hc
  cases hfn : pr.funcs[f]? with
  | none => rw [hfn] at hc; cases hc
  | some fn =>
   rw [hfn] at hc
   simp only [Bool.and_eq_true] at hc
   obtain ⟨h1, h2⟩ := hc
   have h3 : ¬ fn.name = "runtime.NumGoroutine" := by simpa using h1
   have h4 : ¬ fn.body = none := by intro hb; rw [hb] at h2; cases h2
   simp [execOp, resolve, hcv, Deferred.ofValue, invoke, callFunc, hfn, h3, h4]
 simp only [Oper.wp, hrun, Oper.upon_enter]
 refine hpre.mono ?_
 rintro e w' ⟨v, S', g', rfl, hv, hok, hs0, hwr, hext, hpar, hle⟩
 have hlive : ∀ i o, Live H0 i o → ∃ t o1, ρ[i]? = some t ∧ Live st.H t o1 := by
  intro i o hi
  have h1 : i < ρ.length := by have := hi.lt; omega
  have := hH0.get i (by simpa using h1) (by omega)
  have h2 : H0[i]'(by omega) = some o := by
   have := hi
   unfold Live at this
   rw [List.getElem?_eq_getElem (by omega)] at this
   exact Option.some.inj this
  rw [h2] at this
  simp only [List.getElem_map] at this
  generalize hq : st.H.getD ρ[i] none = q at this
  cases q with
  | none => cases this
  | some o1 =>
   refine ⟨ρ[i], o1, List.getElem?_eq_getElem h1, ?_⟩
   rw [List.getD_eq_getElem?_getD] at hq
   unfold Live
   cases hz : st.H[ρ[i]]? with
   | none => rw [hz] at hq; cases hq
   | some z => rw [hz] at hq; simp at hq; rw [hq]
 have hlt : ∀ t ∈ ρ, t < st.H.length := fun t ht => by have := List.all_eq_true.mp hρ t ht; simpa [Nat.blt_eq] using this
 obtain ⟨h5, h6⟩ := hs.called hnd hHl.symm hlive hlt hok hs0 hwr hext hpar hle (hfr.imp id And.right)
 have h7 : Sim x (st.heap (mergeH2 (sig ρ st.H.length) st.H ρ H1 (ρ.all (freshAt st.H)))) a w' (SOut S S' w.heap.size (argB (gIn g ρ) H0)) (gOut g g' ρ st.H.length) := by
  by_cases hq : ρ.all (freshAt st.H) = true
  ·rw [hq]
   refine h5.fresher (H := mergeH (sig ρ st.H.length) st.H ρ H1) (fun u => st.H.length ≤ u) ?_ (mergeH2_len _ _ _ _ _) (fun u o h => mergeH2_live h)
   intro u o b N hu hl hg
   rcases live_merge hnd (by omega) hl with ⟨h8, _⟩ | ⟨_, _, h8, _⟩ | ⟨j, o', rfl, h8, _⟩
   ·omega
   ·omega
   ·have hg' : g' (ρ.length + j) = some (some (b, N)) := by
     unfold gOut at hg
     rw [if_neg (by omega), show st.H.length + j - st.H.length = j by omega] at hg; exact hg
    rcases hwr _ o' b N h8 hg' with h9 | ⟨i, oo, N2, h9, h10⟩
    ·have := hs.ext.size; omega
    ·obtain ⟨t, o1, ht, h11⟩ := hlive i oo h9
     rw [gIn_at ht] at h10
     obtain ⟨cs, h12⟩ := freshAt_some (List.all_eq_true.mp hq t (List.mem_of_getElem? ht))
     exact (hs.row h12 h10).1 rfl
  ·rw [Bool.not_eq_true] at hq
   rw [hq, mergeH2_false]; exact h5
 exact hK _ _ (k _ _ _ _ (Sim.put (st := st.heap _) h7 dst (hv.way h6 (frD_ok (hfr.imp id And.left)))))
theorem s_call2 {y : Operand} {l : List Operand} {tys : Array TypeId} {f : FuncId} {caps : List C} {ds args' : List D} {H0 H1 H2 : List (Option AObj)} {r d : D} {ρ : List Nat} {br : Bool}
  (hc : callable pr f = true) (hy : st.val y = .one (.clo f caps)) (hl : l.map st.val = ds) (hlend : All2 (LendT st ρ br) (ds ++ caps.map D.one) args')
  (hH0 : All2 (LendO st ρ br) (ρ.map fun t => st.H.getD t none) H0) (hnd : ρ.Nodup) (hρ : ρ.all (fun t => Nat.blt t st.H.length) = true)
  (hm : Meets pr f args' H0 r H1) (hfr : br = false ∨ (frD r = true ∧ frH H1 = true)) (hH2 : mergeH2 (sig ρ st.H.length) st.H ρ H1 (ρ.all (freshAt st.H)) = H2) (hd : renD (sig ρ st.H.length) r = d)
  (k : AWops pr x ops rest K ((st.heap H2).put dst d)) :
  AWops pr x ops (⟨dst, .call { callee := .value y, args := l.toArray, argTypes := tys }, ty, pos, aft, none⟩ :: rest) K st :=
 s_call2M hc hy hl hlend hH0 hnd hρ (Nat.zero_le _) hm.toM hfr hH2 hd k

/-- nil, told as a list of nothing. -/
inductive NLe : C → C → Prop
 | s (c : C) : NLe c c
 | n {f f' : Bool} : NLe (.p f (.v (.slice none 0 0))) (.p f' (.sl 0 []))
theorem Weak.nils {k n t : Nat} {fr : Nat → D} {H H' : List (Option AObj)} {b : Bool} {cs cs' : List C} (hl : H[t]? = some (some (.cells b cs))) (h : All2 NLe cs cs') (hH : H.set t (some (.cells b cs')) = H') : Weak k ⟨n, fr, H⟩ ⟨n, fr, H'⟩ := by
 subst hH
 intro x a w S g hxk hs
 refine ⟨S, g, hs.retell (cs' := cs') hl h.len.symm ?_⟩
 intro j hj hj' v hv
 have := h.get j hj hj'
 generalize cs[j] = c at this hv
 generalize cs'[j] = c' at this ⊢
 cases this with
 | s => exact hv
 | n => cases hv with | p hv => cases hv; exact .p (.nil none 0)

theorem LendC.ownN {ρ : List Nat} {br : Bool} {t t' off n n' sz : Nat} (h : ρ[t']? = some t) (hn : n = n') : LendC st ρ br (.own t off n sz) (.own t' off n' sz) := by
 subst hn; exact .own h

end
end Go.Abs
