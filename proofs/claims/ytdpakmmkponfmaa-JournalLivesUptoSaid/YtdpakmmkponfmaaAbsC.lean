import Derived.Test.YtdpakmmkponfmaaAbsB
import Derived.Laws.Cover3
import Derived.Laws.CopyRow
set_option linter.unusedVariables false
set_option linter.unusedSimpArgs false
namespace Go.Abs

section
variable {pr : Program} {x : Ctx} {K : Exit → St → Prop} {st : St} {a : Act} {w : World} {S : Nat → Prop} {g : G}

theorem Sim.change (hs : Sim x st a w S g) {w' : World} {S' : Nat → Prop} {g' : G} {H' : List (Option AObj)}
  (hS : ∀ b, S b → S' b ∧ w'.heap[b]? = w.heap[b]?) (hg : ∀ t v, g t = some v → g' t = some v) (hok : HOK w' S' x.base g' H')
  (s0 : ∀ b, S' b → x.base ≤ b ∨ x.S0 b ∨ x.wr b) (wr : ∀ t o b N, Live H' t o → g' t = some (some (b, N)) → x.base ≤ b ∨ x.wr b) (ext : Ext x w')
  (hp : ∀ t, t < st.H.length → g' t = g t) (hl : st.H.length ≤ H'.length) : Sim x (st.heap H') a w' S' g' :=
 ⟨hs.size, hs.nodef, fun i => (hs.fr i).mono hS hg, hok, s0, wr, ext, fun t ht => (hp t (by have := hs.kl; omega)).trans (hs.par t ht), Nat.le_trans hs.kl hl⟩

/-- a draw. -/
theorem Ext.same {w w' : World} (h : Ext x w) (h1 : w'.heap = w.heap) (h2 : w'.tape = w.tape) (h3 : w'.os = w.os) (h4 : w'.output = w.output) : Ext x w' :=
 ⟨h2.trans h.tape, h3.trans h.os, h4.trans h.output, by rw [h1]; exact h.size, fun b hb hw => by rw [h1]; exact h.frame b hb hw⟩

theorem HOK.same {w w' : World} {base : Nat} {H : List (Option AObj)} (h : HOK w S base g H) (h1 : w'.heap = w.heap) : HOK w' S base g H :=
 ⟨fun t o hl => (h.obj t o hl).mono (fun b hb => ⟨hb, by rw [h1]⟩) (fun _ _ h => h) (fun b N _ => by rw [h1]), h.inj, fun b hb => by rw [h1]; exact h.st b hb,
  h.dis, h.dom, fun t o b N hl hg => by rw [h1]; exact h.lt t o b N hl hg, h.glob.mono fun b hb => ⟨hb, by rw [h1]⟩⟩

theorem Sim.same {w' : World} (hs : Sim x st a w S g) (h1 : w'.heap = w.heap) (h2 : w'.tape = w.tape) (h3 : w'.os = w.os) (h4 : w'.output = w.output) : Sim x st a w' S g :=
 ⟨hs.size, hs.nodef, fun i => (hs.fr i).mono (fun b hb => ⟨hb, by rw [h1]⟩) (fun _ _ h => h), hs.ok.same h1, hs.s0, hs.wr, hs.ext.same h1 h2 h3 h4, hs.par, hs.kl⟩

theorem Live.lt {H : List (Option AObj)} {t : Nat} {o : AObj} (h : Live H t o) : t < H.length := (List.getElem?_eq_some_iff.mp h).1

theorem live_snoc {H : List (Option AObj)} {o' : AObj} {t : Nat} {o : AObj} (h : Live (H ++ [some o']) t o) : Live H t o ∨ (t = H.length ∧ o = o') := by
 unfold Live at h ⊢
 rw [List.getElem?_append] at h
 split at h
 ·exact .inl h
 ·have : t - H.length = 0 := by
   apply Classical.byContradiction; intro hne
   rw [List.getElem?_eq_none (by simp; omega)] at h; cases h
  rw [this] at h
  simp at h
  exact .inr ⟨by omega, h.symm⟩

/-- the ghost of a new object. -/
def gnew (g : G) (n : Nat) (v : Option (Nat × RI)) : G := fun u => if u = n then some v else g u

theorem gnew_old {H : List (Option AObj)} (hdom : ∀ t, H.length ≤ t → g t = none) {v : Option (Nat × RI)} : ∀ t y, g t = some y → gnew g H.length v t = some y := by
 intro t y h
 unfold gnew
 split
 ·rename_i e; rw [hdom t (by omega)] at h; cases h
 ·exact h

theorem gnew_lt {n t : Nat} {v : Option (Nat × RI)} (h : t < n) : gnew g n v t = g t := by unfold gnew; rw [if_neg (by omega)]

theorem push_old {w : World} {o : Obj} {b : Nat} (h : b < w.heap.size) : (w.heap.push o)[b]? = w.heap[b]? := by
 rw [Array.getElem?_push, if_neg (by omega)]

theorem Ext.push (h : Ext x w) (o : Obj) : Ext x { w with heap := w.heap.push o } :=
 ⟨h.tape, h.os, h.output, by have := h.size; simp; omega, fun b hb hw => by
  show (w.heap.push o)[b]? = _
  rw [push_old (by have := h.size; omega)]; exact h.frame b hb hw⟩

/-- a new row of cells. -/
theorem Sim.newCells (hs : Sim x st a w S g) (arr : Array Value) (e : TypeId) {cs : List C} (hl : cs.length ≤ arr.size)
  (hc : ∀ j (h : j < cs.length), CRel w S x.base g (arr.getD j undef) (cs[j]'h)) :
  Sim x (st.heap (st.H ++ [some (.cells true cs)])) a { w with heap := w.heap.push (.cells arr e) } S (gnew g st.H.length (some (w.heap.size, ⟨arr.size, 0⟩))) := by
 have hgo := gnew_old (H := st.H) hs.ok.dom (v := some (w.heap.size, ⟨arr.size, 0⟩))
 have hS : ∀ b, S b → S b ∧ (w.heap.push (.cells arr e))[b]? = w.heap[b]? := fun b hb => ⟨hb, push_old (hs.ok.st b hb)⟩
 have hgn : ∀ t o b N, Live st.H t o → gnew g st.H.length (some (w.heap.size, ⟨arr.size, 0⟩)) t = some (some (b, N)) → g t = some (some (b, N)) := by
  intro t o b N hl h
  unfold gnew at h
  rw [if_neg (by have := hl.lt; omega)] at h; exact h
 refine hs.change hS hgo ⟨?_, ?_, ?_, ?_, ?_, ?_, hs.ok.glob.mono hS⟩ hs.s0 ?_ (hs.ext.push _) (fun t ht => gnew_lt ht) (by simp)
 ·intro t o hlive
  rcases live_snoc hlive with h | ⟨rfl, rfl⟩
  ·refine (hs.ok.obj t o h).mono hS hgo fun b N hb => push_old (hs.ok.lt t o b N h hb)
  ·refine .inr ⟨w.heap.size, ⟨arr.size, 0⟩, arr, e, by simp [gnew], fun _ => hs.ext.size, by simp, rfl, by simpa using hl, fun j hj => by simpa using (hc j hj).mono hS hgo⟩
 ·intro t t' o o' b N N' h h' hb hb'
  rcases live_snoc h with h | ⟨rfl, rfl⟩ <;> rcases live_snoc h' with h' | ⟨rfl, rfl⟩
  ·exact hs.ok.inj t t' o o' b N N' h h' (hgn _ _ _ _ h hb) (hgn _ _ _ _ h' hb')
  ·simp [gnew] at hb'; have := hs.ok.lt t o b N h (hgn _ _ _ _ h hb); omega
  ·simp [gnew] at hb; have := hs.ok.lt t' o' b N' h' (hgn _ _ _ _ h' hb'); omega
  ·rfl
 ·intro b hb; have := hs.ok.st b hb; simp; omega
 ·intro b t o N hb hlive hgb
  rcases live_snoc hlive with h | ⟨rfl, rfl⟩
  ·exact hs.ok.dis b t o N hb h (hgn _ _ _ _ h hgb)
  ·simp [gnew] at hgb; have := hs.ok.st b hb; omega
 ·intro t ht
  simp at ht
  unfold gnew
  rw [if_neg (by omega)]; exact hs.ok.dom t (by omega)
 ·intro t o b N hlive hgb
  rcases live_snoc hlive with h | ⟨rfl, rfl⟩
  ·have := hs.ok.lt t o b N h (hgn _ _ _ _ h hgb); simp; omega
  ·simp [gnew] at hgb; simp; omega
 ·intro t o b N hlive hgb
  rcases live_snoc hlive with h | ⟨rfl, rfl⟩
  ·exact hs.wr t o b N h (hgn _ _ _ _ h hgb)
  ·simp [gnew] at hgb; have := hs.ext.size; omega

theorem gnew_at {v : Option (Nat × RI)} {n : Nat} : gnew g n v n = some v := by simp [gnew]

/-- an object that is not there, whatever is told of it. -/
theorem Sim.newVirt (hs : Sim x st a w S g) (fr : Bool) (cs : List C) : Sim x (st.heap (st.H ++ [some (.cells fr cs)])) a w S (gnew g st.H.length none) := by
 have hgo := gnew_old (H := st.H) hs.ok.dom (v := none)
 have hS : ∀ b, S b → S b ∧ w.heap[b]? = w.heap[b]? := fun b hb => ⟨hb, rfl⟩
 have hgn : ∀ t b N, gnew g st.H.length none t = some (some (b, N)) → g t = some (some (b, N)) := by
  intro t b N h
  unfold gnew at h
  split at h
  ·cases h
  ·exact h
 have hlv : ∀ t o b N, Live (st.H ++ [some (.cells fr cs)]) t o → gnew g st.H.length none t = some (some (b, N)) → Live st.H t o := by
  intro t o b N hl h
  rcases live_snoc hl with h' | ⟨rfl, rfl⟩
  ·exact h'
  ·simp [gnew] at h
 refine hs.change hS hgo ⟨?_, ?_, hs.ok.st, ?_, ?_, ?_, hs.ok.glob.mono hS⟩ hs.s0 ?_ hs.ext (fun t ht => gnew_lt ht) (by simp)
 ·intro t o hlive
  rcases live_snoc hlive with h | ⟨rfl, rfl⟩
  ·exact (hs.ok.obj t o h).mono hS hgo fun _ _ _ => rfl
  ·exact .inl (by simp [gnew])
 ·exact fun t t' o o' b N N' h h' hb hb' => hs.ok.inj t t' o o' b N N' (hlv _ _ _ _ h hb) (hlv _ _ _ _ h' hb') (hgn _ _ _ hb) (hgn _ _ _ hb')
 ·exact fun b t o N hb h hg' => hs.ok.dis b t o N hb (hlv _ _ _ _ h hg') (hgn _ _ _ hg')
 ·intro t ht
  simp at ht
  unfold gnew
  rw [if_neg (by omega)]; exact hs.ok.dom t (by omega)
 ·exact fun t o b N h hg' => hs.ok.lt t o b N (hlv _ _ _ _ h hg') (hgn _ _ _ hg')
 ·exact fun t o b N h hg' => hs.wr t o b N (hlv _ _ _ _ h hg') (hgn _ _ _ hg')

/-- a virtual row: nothing in it, and no block. -/
theorem Sim.newNone (hs : Sim x st a w S g) : Sim x (st.heap (st.H ++ [some (.cells true [])])) a w S (gnew g st.H.length none) := hs.newVirt true []

/-- the cells of a live row. -/
theorem Sim.row (hs : Sim x st a w S g) {t b : Nat} {N : RI} {fr : Bool} {cs : List C} (hl : Live st.H t (.cells fr cs)) (hg : g t = some (some (b, N))) :
  (fr = true → x.base ≤ b) ∧ ∃ arr e, w.heap[b]? = some (.cells arr e) ∧ arr.size = N.n ∧ N.o + cs.length ≤ N.n ∧ ∀ j (h : j < cs.length), CRel w S x.base g (arr.getD (N.o + j) undef) (cs[j]'h) := by
 rcases hs.ok.obj t _ hl with h | ⟨b', N', arr, e, h1, h2, h3, h4, h5, h6⟩
 ·rw [hg] at h; cases h
 ·rw [hg] at h1
  cases h1
  exact ⟨h2, arr, e, h3, h4, h5, h6⟩

theorem live_set {H : List (Option AObj)} {t u : Nat} {o o' q : AObj} (hl : Live H t o) (h : Live (H.set t (some q)) u o') : (u = t ∧ o' = q) ∨ (u ≠ t ∧ Live H u o') := by
 unfold Live at h ⊢
 rw [List.getElem?_set] at h
 split at h
 ·rename_i e; subst e
  rw [if_pos hl.lt] at h
  exact .inl ⟨rfl, by simpa using h.symm⟩
 ·exact .inr ⟨fun e => by omega, h⟩

/-- the row of a live object is written anew: the same block. -/
theorem Sim.writeRow (hs : Sim x st a w S g) {t b : Nat} {N : RI} {fr : Bool} {cs cs' : List C} (hl : Live st.H t (.cells fr cs)) (hg : g t = some (some (b, N)))
  (arr' : Array Value) (hsz : arr'.size = N.n) (hl' : N.o + cs'.length ≤ N.n) (hc : ∀ j (h : j < cs'.length), CRel w S x.base g (arr'.getD (N.o + j) undef) (cs'[j]'h)) :
  Sim x (st.heap (st.H.set t (some (.cells fr cs')))) a (w.setRow b arr') S g := by
 obtain ⟨hfr, arr, e, hb, ha, _, _⟩ := hs.row hl hg
 have hb' := setRow_heap w b arr arr' e (0, 0) hb
 have ho : ∀ k, k ≠ b → (w.setRow b arr').heap[k]? = w.heap[k]? := fun k hk => setRow_other w b k arr' hk
 have hS : ∀ k, S k → S k ∧ (w.setRow b arr').heap[k]? = w.heap[k]? := fun k hk => ⟨hk, ho k fun e => hs.ok.dis b t _ N (e ▸ hk) hl hg⟩
 have hsize : (w.setRow b arr').heap.size = w.heap.size := by simp [World.setRow]
 refine hs.change hS (fun _ _ h => h) ⟨?_, ?_, fun k hk => by rw [hsize]; exact hs.ok.st k hk, ?_, ?_, ?_, hs.ok.glob.mono hS⟩ hs.s0 ?_ ?_ (fun _ _ => rfl) (by simp)
 ·intro u o hu
  rcases live_set hl hu with ⟨rfl, rfl⟩ | ⟨hne, hu⟩
  ·exact .inr ⟨b, N, arr', e, hg, hfr, hb', hsz, hl', fun j hj => (hc j hj).mono hS (fun _ _ h => h)⟩
  ·exact (hs.ok.obj u o hu).mono hS (fun _ _ h => h) fun k M hk => ho k fun e => hne (hs.ok.inj u t o _ b M N hu hl (e ▸ hk) hg)
 ·intro u u' o o' k M M' hu hu' hk hk'
  have h1 : ∃ q, Live st.H u q := by rcases live_set hl hu with ⟨rfl, _⟩ | ⟨_, h⟩ <;> exact ⟨_, by assumption⟩
  have h2 : ∃ q, Live st.H u' q := by rcases live_set hl hu' with ⟨rfl, _⟩ | ⟨_, h⟩ <;> exact ⟨_, by assumption⟩
  obtain ⟨q, h1⟩ := h1
  obtain ⟨q', h2⟩ := h2
  exact hs.ok.inj u u' q q' k M M' h1 h2 hk hk'
 ·intro k u o M hk hu hgu
  rcases live_set hl hu with ⟨rfl, _⟩ | ⟨_, hu⟩
  ·exact hs.ok.dis k _ _ M hk hl hgu
  ·exact hs.ok.dis k u o M hk hu hgu
 ·intro u hu; rw [List.length_set] at hu; exact hs.ok.dom u hu
 ·intro u o k M hu hgu
  rw [hsize]
  rcases live_set hl hu with ⟨rfl, _⟩ | ⟨_, hu⟩
  ·exact hs.ok.lt _ _ k M hl hgu
  ·exact hs.ok.lt u o k M hu hgu
 ·intro u o k M hu hgu
  rcases live_set hl hu with ⟨rfl, _⟩ | ⟨_, hu⟩
  ·exact hs.wr _ _ k M hl hgu
  ·exact hs.wr u o k M hu hgu
 ·refine ⟨hs.ext.tape, hs.ext.os, hs.ext.output, by rw [hsize]; exact hs.ext.size, fun k hk hw => ?_⟩
  rw [ho k]
  ·exact hs.ext.frame k hk hw
  ·rintro rfl
   rcases hs.wr t _ k N hl hg with h | h
   ·omega
   ·exact hw h

/-- objects are forgotten. -/
theorem Sim.forget (hs : Sim x st a w S g) {H' : List (Option AObj)} (hle : ∀ t o, Live H' t o → Live st.H t o) (hlen : st.H.length ≤ H'.length) : Sim x (st.heap H') a w S g :=
 hs.change (fun b hb => ⟨hb, rfl⟩) (fun _ _ h => h)
  ⟨fun t o h => hs.ok.obj t o (hle t o h), fun t t' o o' b N N' h h' => hs.ok.inj t t' o o' b N N' (hle t o h) (hle t' o' h'), hs.ok.st,
   fun b t o N hb h => hs.ok.dis b t o N hb (hle t o h), fun t ht => hs.ok.dom t (by omega), fun t o b N h => hs.ok.lt t o b N (hle t o h), hs.ok.glob⟩
  hs.s0 (fun t o b N h => hs.wr t o b N (hle t o h)) hs.ext (fun _ _ => rfl) hlen

theorem live_kill {H : List (Option AObj)} {t u : Nat} {o : AObj} (h : Live (H.set t none) u o) : u ≠ t ∧ Live H u o := by
 unfold Live at h ⊢
 rw [List.getElem?_set] at h
 split at h
 ·split at h <;> cases h
 ·rename_i e; exact ⟨fun e' => e e'.symm, h⟩

theorem Sim.kill (hs : Sim x st a w S g) (t : Nat) : Sim x (st.heap (st.H.set t none)) a w S g :=
 hs.forget (fun u o h => (live_kill h).2) (by simp)

/-- the object that was there goes on as another one (in the same block). -/
theorem Sim.move (hs : Sim x st a w S g) {t b : Nat} {N : RI} {fr : Bool} {cs : List C} (hl : Live st.H t (.cells fr cs)) (hg : g t = some (some (b, N))) :
  Sim x (st.heap (st.H.set t none ++ [some (.cells fr cs)])) a w S (gnew g st.H.length (some (b, N))) := by
 have hgo := gnew_old (H := st.H) hs.ok.dom (v := some (b, N))
 have hS : ∀ b, S b → S b ∧ w.heap[b]? = w.heap[b]? := fun b hb => ⟨hb, rfl⟩
 have key : ∀ u o, Live (st.H.set t none ++ [some (.cells fr cs)]) u o → (u = st.H.length ∧ o = .cells fr cs) ∨ (u ≠ t ∧ u < st.H.length ∧ Live st.H u o) := by
  intro u o h
  rcases live_snoc h with h | ⟨e, rfl⟩
  ·have := live_kill h; exact .inr ⟨this.1, this.2.lt, this.2⟩
  ·rw [List.length_set] at e; exact .inl ⟨e, rfl⟩
 have hgn : ∀ u v, u < st.H.length → gnew g st.H.length (some (b, N)) u = v → g u = v := by
  intro u v hu h
  unfold gnew at h
  rwa [if_neg (by omega)] at h
 refine hs.change hS hgo ⟨?_, ?_, hs.ok.st, ?_, ?_, ?_, hs.ok.glob.mono hS⟩ hs.s0 ?_ hs.ext (fun t ht => gnew_lt ht) (by simp)
 ·intro u o h
  rcases key u o h with ⟨rfl, rfl⟩ | ⟨_, _, h⟩
  ·obtain ⟨h2, arr, e, h3, h4, h5, h6⟩ := hs.row hl hg
   exact .inr ⟨b, N, arr, e, by simp [gnew], h2, h3, h4, h5, fun j hj => (h6 j hj).mono hS hgo⟩
  ·exact (hs.ok.obj u o h).mono hS hgo fun _ _ _ => rfl
 ·intro u u' o o' k M M' h h' hk hk'
  rcases key u o h with ⟨rfl, _⟩ | ⟨hne, hlt, h⟩ <;> rcases key u' o' h' with ⟨rfl, _⟩ | ⟨hne', hlt', h'⟩
  ·rfl
  ·simp [gnew] at hk; have := hgn _ _ hlt' hk'
   exact absurd (hs.ok.inj u' t o' _ k M' N h' hl this (by rw [hg, hk.1])) hne'
  ·simp [gnew] at hk'; have := hgn _ _ hlt hk
   exact absurd (hs.ok.inj u t o _ k M N h hl this (by rw [hg, hk'.1])) hne
  ·exact hs.ok.inj u u' o o' k M M' h h' (hgn _ _ hlt hk) (hgn _ _ hlt' hk')
 ·intro k u o M hk h hgu
  rcases key u o h with ⟨rfl, _⟩ | ⟨hne, hlt, h⟩
  ·simp [gnew] at hgu; exact hs.ok.dis k t _ N hk hl (by rw [hg, hgu.1])
  ·exact hs.ok.dis k u o M hk h (hgn _ _ hlt hgu)
 ·intro u hu
  simp at hu
  unfold gnew
  rw [if_neg (by omega)]; exact hs.ok.dom u (by omega)
 ·intro u o k M h hgu
  rcases key u o h with ⟨rfl, _⟩ | ⟨hne, hlt, h⟩
  ·simp [gnew] at hgu; exact hgu.1 ▸ hs.ok.lt t _ b N hl hg
  ·exact hs.ok.lt u o k M h (hgn _ _ hlt hgu)
 ·intro u o k M h hgu
  rcases key u o h with ⟨rfl, _⟩ | ⟨hne, hlt, h⟩
  ·simp [gnew] at hgu; exact hgu.1 ▸ hs.wr t _ b N hl hg
  ·exact hs.wr u o k M h (hgn _ _ hlt hgu)
end
end Go.Abs
