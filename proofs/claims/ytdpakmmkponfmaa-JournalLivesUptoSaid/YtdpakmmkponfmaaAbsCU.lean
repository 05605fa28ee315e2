/-
 The back of a row of the call's own: taken as it is, then a row of its own.
-/
import Derived.Test.YtdpakmmkponfmaaAbsZ
set_option linter.unusedVariables false
set_option linter.unusedSimpArgs false
namespace Go.Abs
section
variable {pr : Program} {x : Ctx} {K : Exit → St → Prop} {st : St} {a : Act} {w : World} {S : Nat → Prop} {g : G} {ops : Array Oper} {rest : List Oper} {dst : Option Tmp} {ty : TypeId} {pos : String} {aft : Array Edge}
/-- the back of a row of the call's own. -/
theorem s_sliceCut {t e : TypeId} {y : Operand} {lo : Option Operand} {l o n sz : Nat} {d : D} (ht : pr.underlying t = some (.slice e)) (hsz : szOf pr e = some sz)
  (hy : st.val y = .one (.own o 0 n sz)) (hlo : IsB st lo 0 l) (hl0 : 0 < l) (hln : l ≤ n) (hd : .one (.cut o (l * sz) (n - l) sz) = d)
  (k : AWops pr x ops rest K (st.put dst d)) : AWops pr x ops (⟨dst, .slice t y lo none none, ty, pos, aft, none⟩ :: rest) K st :=
 AWops.pure _ (fun a w S g hs => by
  subst hd
  have hv := hy ▸ hs.val y
  generalize hq : a.eval y = q at hv
  have fin : ∀ ad cap, q = .slice ad n cap → n ≤ cap → (execOp a.eval ⟨dst, .slice t y lo none none, ty, pos, aft, none⟩).run pr w = .ok (.value (.slice (if cap = l then ad else ad.map (·.add (l * sz))) (n - l) (cap - l))) w := by
   rintro ad cap rfl hc
   have hb := run_bounds2 (pr := pr) hs hlo (.no (d := n)) hln hc true
   simp only [Option.map_none] at hb
   simp [execOp, hq, Instr.sliceAt, Instr.slice, run_underlying ht, hb, run_size hsz]
  cases hv with
  | t hv => cases hv with
   | one hv => cases hv with
    | @own _ b N _ _ cap _ hg hn hN =>
     refine ⟨_, fin _ _ rfl hn, ?_⟩
     have hm : l * sz + (cap - l) * sz = cap * sz := by rw [← Nat.add_mul, show l + (cap - l) = cap by omega]
     by_cases hc : cap = l
     ·rw [if_pos hc]
      exact .t (.one (.cut hg (by omega) (by rw [show cap - l = 0 by omega]; omega) (.inl (by omega))))
     ·rw [if_neg hc]
      simp only [Option.map_some, add_addr]
      exact .t (.one (.cut hg (by omega) (by omega) (.inr (by omega))))
    | own0 ad hg => omega) k

/-- an object's row goes on as another one, in the same block, from elsewhere on. -/
theorem Sim.moveCut (hs : Sim x st a w S g) {t b : Nat} {N : RI} {fr : Bool} {cs cs' : List C} {o : Nat} (hl : Live st.H t (.cells fr cs)) (hg : g t = some (some (b, N)))
  (ho : o + cs'.length ≤ N.n) (hc : ∀ (arr : Array Value) (e : TypeId), w.heap[b]? = some (Obj.cells arr e) → ∀ j (h : j < cs'.length), CRel w S x.base g (arr.getD (o + j) undef) (cs'[j]'h)) :
  Sim x (st.heap (st.H.set t none ++ [some (.cells fr cs')])) a w S (gnew g st.H.length (some (b, ⟨N.n, o⟩))) := by
 have hgo := gnew_old (H := st.H) hs.ok.dom (v := some (b, ⟨N.n, o⟩))
 have hS : ∀ b, S b → S b ∧ w.heap[b]? = w.heap[b]? := fun b hb => ⟨hb, rfl⟩
 have key : ∀ u q, Live (st.H.set t none ++ [some (.cells fr cs')]) u q → (u = st.H.length ∧ q = .cells fr cs') ∨ (u ≠ t ∧ u < st.H.length ∧ Live st.H u q) := by
  intro u q h
  rcases live_snoc h with h | ⟨e, rfl⟩
  ·have := live_kill h; exact .inr ⟨this.1, this.2.lt, this.2⟩
  ·rw [List.length_set] at e; exact .inl ⟨e, rfl⟩
 have hgn : ∀ u v, u < st.H.length → gnew g st.H.length (some (b, ⟨N.n, o⟩)) u = v → g u = v := by
  intro u v hu h
  unfold gnew at h
  rwa [if_neg (by omega)] at h
 refine hs.change hS hgo ⟨?_, ?_, hs.ok.st, ?_, ?_, ?_, hs.ok.glob.mono hS⟩ hs.s0 ?_ hs.ext (fun t ht => gnew_lt ht) (by simp)
 ·intro u q h
  rcases key u q h with ⟨rfl, rfl⟩ | ⟨_, _, h⟩
  ·obtain ⟨h2, arr, e, h3, h4, h5, h6⟩ := hs.row hl hg
   exact .inr ⟨b, ⟨N.n, o⟩, arr, e, by simp [gnew], h2, h3, h4, ho, fun j hj => (hc arr e h3 j hj).mono hS hgo⟩
  ·exact (hs.ok.obj u q h).mono hS hgo fun _ _ _ => rfl
 ·intro u u' q q' k M M' h h' hk hk'
  rcases key u q h with ⟨rfl, _⟩ | ⟨hne, hlt, h⟩ <;> rcases key u' q' h' with ⟨rfl, _⟩ | ⟨hne', hlt', h'⟩
  ·rfl
  ·simp [gnew] at hk; have := hgn _ _ hlt' hk'
   exact absurd (hs.ok.inj u' t q' _ k M' N h' hl this (by rw [hg, hk.1])) hne'
  ·simp [gnew] at hk'; have := hgn _ _ hlt hk
   exact absurd (hs.ok.inj u t q _ k M N h hl this (by rw [hg, hk'.1])) hne
  ·exact hs.ok.inj u u' q q' k M M' h h' (hgn _ _ hlt hk) (hgn _ _ hlt' hk')
 ·intro k u q M hk h hgu
  rcases key u q h with ⟨rfl, _⟩ | ⟨hne, hlt, h⟩
  ·simp [gnew] at hgu; exact hs.ok.dis k t _ N hk hl (by rw [hg, hgu.1])
  ·exact hs.ok.dis k u q M hk h (hgn _ _ hlt hgu)
 ·intro u hu
  simp at hu
  unfold gnew
  rw [if_neg (by omega)]; exact hs.ok.dom u (by omega)
 ·intro u q k M h hgu
  rcases key u q h with ⟨rfl, _⟩ | ⟨hne, hlt, h⟩
  ·simp [gnew] at hgu; exact hgu.1 ▸ hs.ok.lt t _ b N hl hg
  ·exact hs.ok.lt u q k M h (hgn _ _ hlt hgu)
 ·intro u q k M h hgu
  rcases key u q h with ⟨rfl, _⟩ | ⟨hne, hlt, h⟩
  ·simp [gnew] at hgu; exact hgu.1 ▸ hs.wr t _ b N hl hg
  ·exact hs.wr u q k M h (hgn _ _ hlt hgu)

/-- an object's cell that holds the back of a row: a row of its own from now on. -/
theorem Weak.cut {k n t p j : Nat} {fr : Nat → D} {H H' : List (Option AObj)} {f fo : Bool} {cs ocs : List C} {off m sz : Nat} (hl : H[t]? = some (some (.cells f cs))) (hp : H[p]? = some (some (.cells fo ocs))) (hj : ocs[j]? = some (.cut t off m sz))
  (hlen : (cs.drop off).length = m * sz) (hpt : p ≠ t) (hH : (H.set t none ++ [some (AObj.cells f (cs.drop off))]).set p (some (AObj.cells fo (ocs.set j (.own H.length 0 m sz)))) = H') : Weak k ⟨n, fr, H⟩ ⟨n, fr, H'⟩ := by
 subst hH
 intro x a w S g hxk hs
 -- the cell
 obtain ⟨hjl, hje⟩ := List.getElem?_eq_some_iff.mp hj
 have hob := hs.ok.obj p _ hp
 have hpl0 : p < H.length := (show Live H p _ from hp).lt
 by_cases hgp : g p = some none
 ·have h1 := (hs.kill t).newVirt f (cs.drop off)
  have hlive : Live (H.set t none ++ [some (AObj.cells f (cs.drop off))]) p (AObj.cells fo ocs) := by
   unfold Live
   rw [List.getElem?_append_left (by simpa using hpl0), List.getElem?_set_ne (fun e => hpt e.symm)]; exact hp
  have h2 := h1.revirt (ocs.set j (.own H.length 0 m sz)) hlive (by
   show gnew g _ none p = some none
   rw [gnew_lt (by simpa [St.heap] using hpl0)]; exact hgp)
  exact ⟨_, _, h2⟩
 obtain ⟨pb, pN, parr, pe, q1, q2, q3, q4, q5, q6⟩ : ∃ (b : Nat) (N : RI) (arr : Array Value) (e : TypeId), g p = some (some (b, N)) ∧ (fo = true → x.base ≤ b) ∧ w.heap[b]? = some (Obj.cells arr e) ∧ arr.size = N.n ∧ N.o + ocs.length ≤ N.n ∧ ∀ j (h : j < ocs.length), CRel w S x.base g (arr.getD (N.o + j) undef) (ocs[j]'h) := by
  rcases hob with h | h
  ·exact absurd h hgp
  ·exact h
 have hcell := q6 j hjl
 rw [hje] at hcell
 generalize hv : parr.getD (pN.o + j) undef = v at hcell
 cases hcell with
 | @cut _ b N _ o _ cap _ hg hn hN ho =>
  have h1 := hs.moveCut (o := o) (cs' := cs.drop off) hl hg (by
   rw [hlen]
   have : m * sz ≤ cap * sz := Nat.mul_le_mul_right _ hn
   omega) (fun arr e hb i hi => by
    obtain ⟨_, arr2, e2, h3, h4, h5, h6⟩ := hs.row hl hg
    rw [hb] at h3
    cases h3
    rcases ho with ho | ho
    ·rw [ho, Nat.zero_mul] at hlen; omega
    ·have h7 := h6 (off + i) (by simp at hi; omega)
     rw [List.getElem_drop, ho, Nat.add_assoc]; exact h7)
  have hpl : p < H.length := (show Live H p _ from hp).lt
  have hlive : Live (H.set t none ++ [some (AObj.cells f (cs.drop off))]) p (AObj.cells fo ocs) := by
   unfold Live
   rw [List.getElem?_append_left (by simpa using hpl), List.getElem?_set_ne (fun e => hpt e.symm)]; exact hp
  have hgp : gnew g H.length (some (b, ⟨N.n, o⟩)) p = some (some (pb, pN)) := by rw [gnew_lt hpl]; exact q1
  have h2 := h1.writeRow (cs' := ocs.set j (.own H.length 0 m sz)) hlive hgp parr q4 (by simpa using q5) (fun i hi => by
   simp only [List.length_set] at hi
   rw [List.getElem_set]
   by_cases hij : j = i
   ·subst hij
    rw [if_pos rfl, hv]
    exact .own (N := ⟨N.n, o⟩) (off := 0) gnew_at hn (by simpa using hN)
   ·rw [if_neg hij]
    exact (q6 i hi).mono (fun b hb => ⟨hb, rfl⟩) (gnew_old hs.ok.dom))
  rw [setRow_self w pb parr pe (0, 0) q3] at h2
  exact ⟨_, _, h2⟩
theorem Weak.cutR {α : Type} {e : α → List P} {k n t p j l sz : Nat} {fr : Nat → D} {H H' : List (Option AObj)} {f fo : Bool} {xs : List α} {ocs : List C} (hf : ∀ x, (e x).length = sz) (hl : H[t]? = some (some (.cells f (rowC e xs)))) (hp : H[p]? = some (some (.cells fo ocs)))
  (hj : ocs[j]? = some (.cut t (l * sz) (xs.length - l) sz)) (hpt : Nat.beq p t = false) (hH : (H.set t none ++ [some (AObj.cells f (rowC e (xs.drop l)))]).set p (some (AObj.cells fo (ocs.set j (.own H.length 0 (xs.drop l).length sz)))) = H') : Weak k ⟨n, fr, H⟩ ⟨n, fr, H'⟩ := by
 subst hH
 have e1 : (rowC e xs).drop (l * sz) = rowC e (xs.drop l) := by
  unfold rowC
  rw [← List.map_drop, flat_drop hf]
 refine Weak.cut hl hp hj (by rw [e1, row_len hf, List.length_drop]) (fun h => by subst h; rw [Nat.beq_refl] at hpt; cases hpt) ?_
 rw [e1, List.length_drop]
end
end Go.Abs
