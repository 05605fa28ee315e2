import Derived.Test.YtdpakmmkponfmaaAbsH
set_option linter.unusedVariables false
set_option linter.unusedSimpArgs false
namespace Go.Abs

/-- what a cell may be told as instead: less, under another number, or frozen. -/
inductive CLe (H : List (Option AObj)) (ρ fz : List Nat) : C → C → Prop
 | top (c : C) : CLe H ρ fz c .top
 | sc {f f' : Bool} {v : Value} : CLe H ρ fz (.p f (.v v)) (.p f' (.v v))
 | same {f : Bool} {p : P} : CLe H ρ fz (.p f p) (.p f p)
 | imm {f : Bool} {p : P} : CLe H ρ fz (.p f p) (.p false p)
 | fs {f : Bool} {m n : Nat} {cs : List P} : CLe H ρ fz (.p f (.fsl m n cs)) (.p false (.sl n cs))
 | nil {f f' : Bool} : CLe H ρ fz (.p f (.v (.slice none 0 0))) (.p f' (.sl 0 []))
 | peek {f : Bool} {ps : List P} : CLe H ρ fz (.peek f ps) (.peek f ps)
 | own {t t' off n sz : Nat} (h : ρ[t']? = some t) : CLe H ρ fz (.own t off n sz) (.own t' off n sz)
 | ref {t t' off : Nat} (h : ρ[t']? = some t) : CLe H ρ fz (.ref t off) (.ref t' off)
 | er {t t' off : Nat} (h : ρ[t']? = some t) : CLe H ρ fz (.er t off) (.er t' off)
 | opt {o : Bool} {t t' off : Nat} (h : ρ[t']? = some t) : CLe H ρ fz (.opt o t off) (.opt o t' off)
 | toOpt {t t' off : Nat} (h : ρ[t']? = some t) : CLe H ρ fz (.ref t off) (.opt true t' off)
 | noOpt {f : Bool} {t' off : Nat} : CLe H ρ fz (.p f (.v (.pointer none))) (.opt false t' off)
 | optYes {o : Bool} {t t' off : Nat} (ho : o = true) (h : ρ[t']? = some t) : CLe H ρ fz (.opt o t off) (.ref t' off)
 | optNo {o f : Bool} {t off : Nat} (ho : o = false) : CLe H ρ fz (.opt o t off) (.p f (.v (.pointer none)))
 | cut {t t' off n sz : Nat} (h : ρ[t']? = some t) : CLe H ρ fz (.cut t off n sz) (.cut t' off n sz)
 | mp {t t' : Nat} (h : ρ[t']? = some t) : CLe H ρ fz (.mp t) (.mp t')
 | clo {f : FuncId} {caps caps' : List C} (hl : caps.length = caps'.length) (h : ∀ i (h : i < caps.length) (h' : i < caps'.length), CLe H ρ fz (caps[i]'h) (caps'[i]'h')) :
   CLe H ρ fz (.clo f caps) (.clo f caps')
 | freeze {t off n sz : Nat} {fr : Bool} {cs : List C} {ps : List P} {f : Bool} (ht : fz.contains t = true) (hl : H[t]? = some (some (.cells fr cs)))
   (hp : ((cs.drop off).take (n * sz)).map plainOf = ps.map some) (hf : f = false ∨ (fr = true ∧ ((cs.drop off).take (n * sz)).all frC = true)) : CLe H ρ fz (.own t off n sz) (.p f (.sl n ps))
 | freezeU {t off n sz : Nat} {cs : List C} {vs : List Value} (ht : fz.contains t = true) (hl : H[t]? = some (some (.cells true cs)))
   (hp : ((cs.drop off).take (n * sz)).map plainOf = vs.map fun v => some (.v v)) : CLe H ρ fz (.own t off n sz) (.p true (.fsl 0 n (vs.map P.v)))

inductive TLe (H : List (Option AObj)) (ρ fz : List Nat) : D → D → Prop
 | top (d : D) : TLe H ρ fz d (.one .top)
 | one {c c' : C} (h : CLe H ρ fz c c') : TLe H ρ fz (.one c) (.one c')
 | agg {cs cs' : List C} (h : All2 (CLe H ρ fz) cs cs') : TLe H ρ fz (.agg cs) (.agg cs')

inductive DLe (H : List (Option AObj)) (ρ fz : List Nat) : D → D → Prop
 | t {d d' : D} (h : TLe H ρ fz d d') : DLe H ρ fz d d'
 | tup {ds ds' : List D} (h : All2 (TLe H ρ fz) ds ds') : DLe H ρ fz (.tup ds) (.tup ds')

inductive OLe (H : List (Option AObj)) (ρ fz : List Nat) : Option AObj → Option AObj → Prop
 | none (o : Option AObj) : OLe H ρ fz o none
 | cells {fr fr' : Bool} {cs cs' : List C} (hf : fr' = true → fr = true) (h : All2 (CLe H ρ fz) cs cs') : OLe H ρ fz (some (.cells fr cs)) (some (.cells fr' cs'))
 | map {fr : Bool} {es : List (Value × Bool × List P)} : OLe H ρ fz (some (.map fr es)) (some (.map fr es))

def freshAt (H : List (Option AObj)) (t : Nat) : Bool :=
 match H[t]? with
 | some (some (.cells true _)) => true
 | _ => false

section
variable {x : Ctx} {st st' : St} {a : Act} {w : World} {S : Nat → Prop} {g : G} {ρ fz : List Nat}

/-- the stable blocks, with the frozen ones. -/
def SFz (S : Nat → Prop) (g : G) (fz : List Nat) (b : Nat) : Prop := S b ∨ ∃ t N, t ∈ fz ∧ g t = some (some (b, N))

def cellsAt (H : List (Option AObj)) (t : Nat) : Bool :=
 match H[t]? with
 | some (some (.cells _ _)) => true
 | _ => false
theorem cellsAt_some {H : List (Option AObj)} {t : Nat} (h : cellsAt H t = true) : ∃ fr cs, Live H t (.cells fr cs) := by
 unfold cellsAt at h
 split at h
 ·rename_i fr cs hc; exact ⟨fr, cs, hc⟩
 ·cases h
theorem freshAt_some {H : List (Option AObj)} {t : Nat} (h : freshAt H t = true) : ∃ cs, Live H t (.cells true cs) := by
 unfold freshAt at h
 split at h
 ·rename_i cs hc; exact ⟨cs, hc⟩
 ·cases h

theorem CRel.le (hs : Sim x st a w S g) {v : Value} {c c' : C} (hv : CRel w S x.base g v c) (h : CLe st.H ρ fz c c') : CRel w (SFz S g fz) x.base (gIn g ρ) v c' := by
 have hS : ∀ b, S b → SFz S g fz b ∧ w.heap[b]? = w.heap[b]? := fun b hb => ⟨.inl hb, rfl⟩
 induction h generalizing v with
 | top c => exact .top v
 | sc => cases hv with | p hv => cases hv with | v _ h1 => exact .p (.v _ h1)
 | same => cases hv with | p hv => exact .p (hv.weak fun b hb => ⟨.inl hb.1, hb.2⟩)
 | imm => cases hv with | p hv => exact .p (hv.weak fun b hb => ⟨.inl hb.1, fun h => by cases h⟩)
 | fs => cases hv with | p hv => exact .p (hv.unf.weak fun b hb => ⟨.inl hb.1, fun h => by cases h⟩)
 | nil => cases hv with | p hv => cases hv; exact .p (.nil none 0)
 | peek =>
  cases hv with
  | peek b o _ us hb hc hr => exact .peek b o _ us ⟨.inl hb.1, hb.2⟩ hc fun j hj => (hr j hj).weak fun b hb => ⟨.inl hb.1, hb.2⟩
 | own h =>
  cases hv with
  | own hg hn hN => exact .own (by rw [gIn_at h]; exact hg) hn hN
  | own0 ad hg => exact .own0 ad (by rw [gIn_at h]; exact hg)
 | ref h => cases hv with | ref hg ho => exact .ref (by rw [gIn_at h]; exact hg) ho
 | er h => cases hv with | er hg => exact .er (by rw [gIn_at h]; exact hg)
 | opt h =>
  cases hv with
  | opt1 hg ho => exact .opt1 (by rw [gIn_at h]; exact hg) ho
  | opt0 => exact .opt0
 | toOpt h => cases hv with | ref hg ho => exact .opt1 (by rw [gIn_at h]; exact hg) ho
 | noOpt => cases hv with | p hv => cases hv; exact .opt0
 | optYes ho h =>
  subst ho
  cases hv with | opt1 hg ho => exact .ref (by rw [gIn_at h]; exact hg) ho
 | optNo ho =>
  subst ho
  cases hv with | opt0 => exact .p (.v _ rfl)
 | cut h => cases hv with | cut hg hn hN ho => exact .cut (by rw [gIn_at h]; exact hg) hn hN ho
 | mp h => cases hv with | mp hg => exact .mp (by rw [gIn_at h]; exact hg)
 | clo hl _ ih =>
  cases hv with
  | clo vs hlen hr => exact .clo vs (by omega) fun i h1 h2 => ih i (by omega) h1 (hr i (by omega) h2)
 | @freeze t off n sz fr0 cs ps f ht hl hp hf =>
  have htm : t ∈ fz := by simpa using ht
  have hpl : ps.length = ((cs.drop off).take (n * sz)).length := by have := congrArg List.length hp; simpa using this.symm
  cases hv with
  | @own _ b N _ _ cap _ hg hn hN =>
   obtain ⟨hfr, arr, e, hblk, ha, hle, hc⟩ := hs.row hl hg
   refine .p (.sl b (N.o + off) n cap ps (fun j => arr.getD (N.o + (off + j)) undef) ⟨.inr ⟨t, N, htm, hg⟩, fun h => by rcases hf with rfl | hf; cases h; exact hfr hf.1⟩ hn ?_ ?_)
   ·intro j hj
    have h1 : off + j < cs.length := by rw [hpl] at hj; simp at hj; omega
    rw [cell_row (N := N) hblk, Array.getD_eq_getD_getElem?, Nat.add_assoc]
    simp [show N.o + (off + j) < arr.size by omega]
   ·intro j hj
    have h1 : off + j < cs.length := by rw [hpl] at hj; simp at hj; omega
    have h2 := hc (off + j) h1
    have h3 : (((cs.drop off).take (n * sz)).map plainOf)[j]? = (ps.map some)[j]? := by rw [hp]
    have hjl : j < ((cs.drop off).take (n * sz)).length := by omega
    rw [List.getElem?_map, List.getElem?_map, List.getElem?_eq_getElem hjl, List.getElem?_eq_getElem hj] at h3
    have h4 : f = false ∨ frC (cs[off + j]) = true := by
     rcases hf with h | h
     ·exact .inl h
     ·have := List.all_eq_true.mp h.2 _ (List.getElem_mem hjl)
      simp only [List.getElem_take, List.getElem_drop] at this
      exact .inr this
    simp only [List.getElem_take, List.getElem_drop, Option.map_some, Option.some.injEq] at h3
    generalize hq : cs[off + j] = q at h2 h3 h4
    generalize arr.getD (N.o + (off + j)) undef = v2 at h2 ⊢
    cases q with
    | p f2 p =>
     simp only [plainOf, Option.some.injEq] at h3
     subst h3
     cases h2 with
     | p h2 =>
      by_cases hv : ∃ y, ps[j] = .v y
      ·obtain ⟨y, hy⟩ := hv
       rw [hy] at h2 ⊢
       cases h2 with | v _ h1 => exact .v _ h1
      ·refine h2.weak fun b hb => ⟨.inl hb.1, fun hf1 => hb.2 ?_⟩
       rcases h4 with h4 | h4
       ·rw [h4] at hf1; cases hf1
       ·generalize ps[j] = pp at hv h4
        cases pp with
        | v y => exact absurd ⟨y, rfl⟩ hv
        | sl n cs => exact h4
        | fsl m n cs => exact h4
        | fptr m p => exact h4
    | _ => simp [plainOf] at h3
  | own0 ad hg =>
   have : ps = [] := List.eq_nil_of_length_eq_zero (by rw [hpl]; simp)
   subst this
   exact .p (.nil ad 0)
 | @freezeU t off n sz cs vs ht hl hp =>
  have htm : t ∈ fz := by simpa using ht
  have hpl : vs.length = ((cs.drop off).take (n * sz)).length := by have := congrArg List.length hp; simpa using this.symm
  cases hv with
  | @own _ b N _ _ cap _ hg hn hN =>
   obtain ⟨hfr, arr, e, hblk, ha, hle, hc⟩ := hs.row hl hg
   refine .p (.fsl 0 b (N.o + off) n cap _ (fun j => arr.getD (N.o + (off + j)) undef) ⟨.inr ⟨t, N, htm, hg⟩, fun _ => hfr rfl⟩ (Nat.zero_le _) ⟨arr, e, hblk⟩ hn ?_ ?_)
   ·intro j hj
    rw [List.length_map] at hj
    have h1 : off + j < cs.length := by rw [hpl] at hj; simp at hj; omega
    rw [cell_row (N := N) hblk, Array.getD_eq_getD_getElem?, Nat.add_assoc]
    simp [show N.o + (off + j) < arr.size by omega]
   ·intro j hj
    rw [List.length_map] at hj
    have h1 : off + j < cs.length := by rw [hpl] at hj; simp at hj; omega
    have h2 := hc (off + j) h1
    have h3 : (((cs.drop off).take (n * sz)).map plainOf)[j]? = (vs.map fun v => some (P.v v))[j]? := by rw [hp]
    rw [List.getElem?_map, List.getElem?_map, List.getElem?_eq_getElem (by omega : j < ((cs.drop off).take (n * sz)).length), List.getElem?_eq_getElem hj] at h3
    simp only [List.getElem_take, List.getElem_drop, Option.map_some, Option.some.injEq] at h3
    rw [List.getElem_map]
    generalize hq : cs[off + j] = q at h2 h3
    generalize arr.getD (N.o + (off + j)) undef = v2 at h2 ⊢
    cases q with
    | p f2 p =>
     simp only [plainOf, Option.some.injEq] at h3
     subst h3
     cases h2 with | p h2 => cases h2 with | v _ h1 => exact .v _ h1
    | _ => simp [plainOf] at h3
  | own0 ad hg =>
   have : vs = [] := List.eq_nil_of_length_eq_zero (by rw [hpl]; simp)
   subst this
   exact .p (.fnil 0 ad 0)

theorem TRel.le (hs : Sim x st a w S g) {v : Value} {d d' : D} (hv : TRel w S x.base g v d) (h : TLe st.H ρ fz d d') : TRel w (SFz S g fz) x.base (gIn g ρ) v d' := by
 cases h with
 | top d => exact .one (.top v)
 | one h => cases hv with | one hv => exact .one (hv.le hs h)
 | agg h =>
  cases hv with
  | agg vs hl hr => exact .agg vs (by have := h.len; omega) fun i h1 h2 => (hr i (by have := h.len; omega) h2).le hs (h.get i (by have := h.len; omega) h1)

theorem DRel.le (hs : Sim x st a w S g) {v : Value} {d d' : D} (hv : DRel w S x.base g v d) (h : DLe st.H ρ fz d d') : DRel w (SFz S g fz) x.base (gIn g ρ) v d' := by
 cases h with
 | t h =>
  cases hv with
  | t hv => exact .t (hv.le hs h)
  | tup vs hl hr => cases h; exact .t (.one (.top _))
 | tup h =>
  cases hv with
  | t hv => cases hv
  | tup vs hl hr => exact .tup vs (by have := h.len; omega) fun i h1 h2 => (hr i (by have := h.len; omega) h2).le hs (h.get i (by have := h.len; omega) h1)

theorem Weak.gen {k kk : Nat} (ρ fz : List Nat) (hk : k = kk) (hkk : (List.range kk).all (fun i => ρ[i]? == some i) = true) (hkl : kk ≤ ρ.length) (hnd : ρ.Nodup) (hdj : fz.all (fun t => !ρ.contains t) = true)
  (hfz : fz.all (cellsAt st.H) = true) (hn : st'.n = st.n) (hfr : ∀ i, DLe st.H ρ fz (st.fr i) (st'.fr i)) (hH : All2 (OLe st.H ρ fz) (ρ.map fun t => st.H.getD t none) st'.H) : Weak k st st' := by
 subst hk
 intro x a w S g hxk hs
 refine ⟨SFz S g fz, gIn g ρ, ?_⟩
 have hHl := hH.len
 simp only [List.length_map] at hHl
 have key : ∀ i o, Live st'.H i o → ∃ t, ρ[i]? = some t ∧ ∃ o1, Live st.H t o1 ∧ OLe st.H ρ fz (some o1) (some o) := by
  intro i o hi
  have hil : i < ρ.length := by have := hi.lt; omega
  have h2 := hH.get i (by simpa using hil) (by omega)
  have h3 : st'.H[i]'(by omega) = some o := by
   have := hi
   unfold Live at this
   rw [List.getElem?_eq_getElem (by omega)] at this
   exact Option.some.inj this
  rw [h3] at h2
  simp only [List.getElem_map] at h2
  refine ⟨ρ[i], List.getElem?_eq_getElem hil, ?_⟩
  generalize hq : st.H.getD ρ[i] none = q at h2
  cases q with
  | none => cases h2
  | some o1 =>
   refine ⟨o1, ?_, h2⟩
   rw [List.getD_eq_getElem?_getD] at hq
   unfold Live
   cases hz : st.H[ρ[i]]? with
   | none => rw [hz] at hq; cases hq
   | some z => rw [hz] at hq; simp at hq; rw [hq]
 have hfz' : ∀ t ∈ fz, t ∉ ρ ∧ ∃ fr cs, Live st.H t (.cells fr cs) := by
  intro t ht
  refine ⟨?_, cellsAt_some (List.all_eq_true.mp hfz t ht)⟩
  have := List.all_eq_true.mp hdj t ht
  simpa using this
 have hfb : ∀ t b N, t ∈ fz → g t = some (some (b, N)) → (x.base ≤ b ∨ x.wr b) ∧ b < w.heap.size := by
  intro t b N ht hg
  obtain ⟨_, fr, cs, hl⟩ := hfz' t ht
  exact ⟨hs.wr t _ b N hl hg, hs.ok.lt t _ b N hl hg⟩
 refine ⟨by rw [hs.size, hn], hs.nodef, fun i => (hs.fr i).le hs (hfr i), ⟨?_, ?_, ?_, ?_, ?_, ?_, hs.ok.glob.mono fun b hb => ⟨.inl hb, rfl⟩⟩, ?_, ?_, hs.ext, ?_, ?_⟩
 ·intro i o hi
  obtain ⟨t, ht, o1, h1, h2⟩ := key i o hi
  have h3 := hs.ok.obj t o1 h1
  cases h2 with
  | cells hf hall =>
   have hlen := hall.len
   rcases h3 with h4 | ⟨b, N, arr, e, h4, h5, h6, h7, h8, h9⟩
   ·exact .inl (by rw [gIn_at ht]; exact h4)
   ·exact .inr ⟨b, N, arr, e, by rw [gIn_at ht]; exact h4, fun h => h5 (hf h), h6, h7, by omega, fun j hj => (h9 j (by omega)).le hs (hall.get j (by omega) hj)⟩
  | map =>
   obtain ⟨b, arr, clock, h4, h5, h6, h7, h8⟩ := h3
   exact ⟨b, arr, clock, by rw [gIn_at ht]; exact h4, h5, h6, h7, fun j hj hj' => (h8 j hj hj').mono (fun b hb => ⟨.inl hb, rfl⟩)⟩
 ·intro i i' o o' b N N' hi hi' hb hb'
  obtain ⟨t, ht, o1, h1, _⟩ := key i o hi
  obtain ⟨t', ht', o1', h1', _⟩ := key i' o' hi'
  rw [gIn_at ht] at hb
  rw [gIn_at ht'] at hb'
  have := hs.ok.inj t t' _ _ b N N' h1 h1' hb hb'
  subst this
  exact (List.getElem?_inj (List.getElem?_eq_some_iff.mp ht).1 hnd).mp (ht.trans ht'.symm)
 ·rintro b (hb | ⟨t, N, ht, hg⟩)
  ·exact hs.ok.st b hb
  ·exact (hfb t b N ht hg).2
 ·intro b i o N hb hi hgi
  obtain ⟨t, ht, o1, h1, _⟩ := key i o hi
  rw [gIn_at ht] at hgi
  rcases hb with hb | ⟨t', N', ht', hg'⟩
  ·exact hs.ok.dis b t o1 N hb h1 hgi
  ·obtain ⟨h3, fr, cs, h4⟩ := hfz' t' ht'
   have := hs.ok.inj t t' _ _ b N N' h1 h4 hgi hg'
   exact h3 (this ▸ List.mem_of_getElem? ht)
 ·intro t ht
  simp only [gIn]
  rw [List.getElem?_eq_none (by omega)]
 ·intro i o b N hi hgi
  obtain ⟨t, ht, o1, h1, _⟩ := key i o hi
  rw [gIn_at ht] at hgi
  exact hs.ok.lt t o1 b N h1 hgi
 ·rintro b (hb | ⟨t, N, ht, hg⟩)
  ·exact hs.s0 b hb
  ·rcases (hfb t b N ht hg).1 with q | q
   ·exact .inl q
   ·exact .inr (.inr q)
 ·intro i o b N hi hgi
  obtain ⟨t, ht, o1, h1, _⟩ := key i o hi
  rw [gIn_at ht] at hgi
  exact hs.wr t o1 b N h1 hgi
 ·intro t ht
  have := List.all_eq_true.mp hkk t (List.mem_range.mpr (by omega))
  have h2 : ρ[t]? = some t := by simpa using this
  rw [gIn_at h2]; exact hs.par t ht
 ·omega

/-- nil becomes a row of the call's own. -/
theorem Weak.nil {k i n sz : Nat} {fr : Nat → D} {H : List (Option AObj)} {f : Bool} (h : fr i = .one (.p f (.v (.slice none 0 0)))) :
  Weak k ⟨n, fr, H⟩ ⟨n, upd n fr i (.one (.own H.length 0 0 sz)), H ++ [some (.cells true [])]⟩ := by
 intro x a w S g hxk hs
 have h1 := hs.newNone
 refine ⟨S, _, h1.size, h1.nodef, fun j => ?_, h1.ok, h1.s0, h1.wr, h1.ext, h1.par, h1.kl⟩
 have h2 := h1.fr j
 simp only [upd]
 by_cases hj : (Nat.beq j i && Nat.blt i n) = true
 ·rw [hj]
  simp only [cond_true]
  have hji : j = i := by
   simp only [Bool.and_eq_true] at hj
   simpa [Nat.beq_eq] using hj.1
  subst hji
  have h3 : DRel w S x.base (gnew g H.length none) (a.tmps.getD j undef) (.one (.p f (.v (.slice none 0 0)))) := h ▸ h2
  rw [h3.of_v]
  exact .t (.one (.own0 none gnew_at))
 ·rw [Bool.not_eq_true] at hj
  rw [hj]; exact h2
end
end Go.Abs
