import Derived.Test.YtdpakmmkponfmaaAbsL
import Derived.Test.YtdpakmmkponfmaaRows
import Derived.WalkKit
import Derived.ProofKit
import Derived.OpenShut
import Derived.ShutString
import Derived.ChangeOld
import Derived.Below
import Derived.JoinedCond
import Derived.Deep.Slices
import Derived.Carry
import Derived.ChangeSlices
set_option linter.unusedVariables false
set_option linter.unusedSimpArgs false
namespace Go.Abs
open Go.Proofs.Ytdpakmmkponfmaa
open Go.ChangeShapes Go.WideShapes Go.ChangeAt Go.RowKit

def CellsRel (w : World) (cs : List Value) (ps : List P) : Prop := ∀ (i : Nat) (c : Value) (p : P), cs[i]? = some c → ps[i]? = some p → PRel w (fun b => b < w.heap.size) c p

/-- how an argument of a type reads, of less bulk than m. -/
structure OpensB {α : Type} (pr : Program) (t : TypeId) (sz : Nat) (f : α → List P) (wf : α → Prop) (bulk : α → Nat) (m : Nat) : Prop where
 size : pr.cellsOf t = sz
 pos : 0 < sz
 len : ∀ x, (f x).length = sz
 op : ∀ {H : Type} {enc : TypeId × Value → H} {w : World} {fuel : Nat} {cs : List Value} {x : DataW H × List MemPlace}, DataW.trod enc pr w 0 (fun _ => true) true fuel t cs = some x → Rows.uptoBulk x.1 < m →
  ∃ a, cs.length = sz ∧ CellsRel w cs (f a) ∧ wf a ∧ bulk a ≤ Rows.uptoBulk x.1
abbrev Opens {α : Type} (pr : Program) (t : TypeId) (sz : Nat) (f : α → List P) (wf : α → Prop) (bulk : α → Nat) : Prop := ∀ m, OpensB pr t sz f wf bulk m

variable {pr : Program}

theorem one_ge {H : Type} (d : DataW H) : 1 ≤ Rows.uptoBulk d := by
 cases d with
 | lit l => cases l <;> simp [Rows.uptoBulk]
 | nil => simp [Rows.uptoBulk]
 | ptr d => simp [Rows.uptoBulk]
 | slice elems spare => simp [Rows.uptoBulk]
 | agg parts => simp [Rows.uptoBulk]
 | iface t d => simp [Rows.uptoBulk]
 | map entries => simp [Rows.uptoBulk]
 | held h => simp [Rows.uptoBulk]
theorem bulk_append {H : Type} (l r : List (DataW H)) : Rows.uptoBulkAll (l ++ r) = Rows.uptoBulkAll l + Rows.uptoBulkAll r := by
 induction l with
 | nil => simp [Rows.uptoBulkAll]
 | cons x l ih => simp only [List.cons_append, Rows.uptoBulkAll, ih]; omega

def wfI (k : IntKind) (n : Int) : Prop := (Lit.int k n).wf = true
def wfB (_ : Bool) : Prop := True
def wfS (s : ByteArray) : Prop := s.size ≤ maxLen
def bk1 {α : Type} (_ : α) : Nat := 1
def bkS (s : ByteArray) : Nat := s.size + 1
def wfL {α : Type} (wf : α → Prop) (xs : List α) : Prop := ∀ x ∈ xs, wf x
def bkL {α : Type} (bk : α → Nat) (xs : List α) : Nat := (xs.map bk).sum + 1

theorem one_cell {w : World} {cs : List Value} {v : Value} {q : P} (hc : cs = [v]) (h : PRel w (fun b => b < w.heap.size) v q) :
  CellsRel w cs [q] := by
 subst hc
 intro i c p h1 h2
 cases i with
 | zero => simp at h1 h2; subst h1 h2; exact h
 | succ i => simp at h1

theorem Opens.int {t : TypeId} (k : IntKind) (f : Int → List P) (hf : ∀ n, f n = [.v (.int k n)]) (hc : pr.cellsOf t = 1) (ht : pr.underlying t = some (.int k)) : Opens pr t 1 f (wfI k) bk1 := by
 intro m
 refine ⟨hc, by decide, fun n => by rw [hf]; rfl, ?_⟩
 intro H enc w fuel cs x h hb0
 clear hb0
 cases fuel with
 | zero => simp [DataW.trod] at h
 | succ fuel =>
  unfold DataW.trod at h
  rw [ht] at h
  split at h <;> simp_all
  rename_i k' n heq
  obtain ⟨h1, h2⟩ := h
  refine ⟨n, ?_, h1.2, ?_⟩
  ·obtain ⟨rfl, _⟩ := h1
   exact one_cell rfl (.v _ rfl)
  ·rw [← h2]; simp [bk1, Rows.uptoBulk]

theorem Opens.bool {t : TypeId} (hc : pr.cellsOf t = 1) (ht : pr.underlying t = some .bool) : Opens pr t 1 e_bool wfB bk1 := by
 intro m
 refine ⟨hc, by decide, fun n => rfl, ?_⟩
 intro H enc w fuel cs x h hb0
 clear hb0
 cases fuel with
 | zero => simp [DataW.trod] at h
 | succ fuel =>
  unfold DataW.trod at h
  rw [ht] at h
  split at h <;> simp_all
  rename_i b
  have key : ∀ c : Bool, b = c → (CellsRel w [Value.bool b] (e_bool c) ∧ wfB c ∧ bk1 c ≤ Rows.uptoBulk x.1) := by
   rintro c rfl
   exact ⟨one_cell rfl (.v _ rfl), trivial, by rw [← h]; simp [bk1, Rows.uptoBulk]⟩
  cases b with
  | false => exact .inl (key _ rfl)
  | true => exact .inr (key _ rfl)

theorem Opens.str {t : TypeId} (hc : pr.cellsOf t = 1) (ht : pr.underlying t = some .string) : Opens pr t 1 e_str wfS bkS := by
 intro m
 refine ⟨hc, by decide, fun n => rfl, ?_⟩
 intro H enc w fuel cs x h hb0
 clear hb0
 cases fuel with
 | zero => simp [DataW.trod] at h
 | succ fuel =>
  unfold DataW.trod at h
  rw [ht] at h
  split at h <;> simp_all
  rename_i s
  refine ⟨s, one_cell rfl (.v _ rfl), h.1, ?_⟩
  rw [← h.2]
  have e : s.data.toList.length = s.size := by rw [Array.length_toList]; rfl
  simp [bkS, Rows.uptoBulk] at e ⊢

theorem add_cell {w : World} {a : Addr} {n : Nat} {c : Value} (h : w.cell? (a.add n) = some c) (hs : a.spot = none) : w.cell? ⟨a.block, a.off + n, none⟩ = some c := by
 have : a.add n = ⟨a.block, a.off + n, none⟩ := by
  unfold Addr.add
  split
  ·subst n; cases a; simp_all
  ·rfl
 rwa [← this]

theorem add_add (a : Addr) (m n : Nat) : (a.add m).add n = a.add (m + n) := by
 unfold Addr.add
 by_cases h1 : m = 0 <;> by_cases h2 : n = 0 <;> simp [h1, h2]
 omega

theorem cell_lt {w : World} {a : Addr} {c : Value} (h : w.cell? a = some c) : a.block < w.heap.size ∧ a.spot = none := by
 unfold World.cell? at h
 split at h
 ·rename_i h1
  refine ⟨(Array.getElem?_eq_some_iff.mp h1).1, ?_⟩
  split at h
  ·cases h
  ·rename_i h2; simpa using h2
 ·cases h

theorem bulk_mem {H : Type} {d : DataW H} : ∀ {l : List (DataW H)}, d ∈ l → Rows.uptoBulk d ≤ Rows.uptoBulkAll l
 | [], h => by cases h
 | x :: l, h => by
  simp only [Rows.uptoBulkAll]
  rcases List.mem_cons.mp h with rfl | h
  ·omega
  ·have := bulk_mem h; omega

theorem OpensB.slice {α : Type} {t e : TypeId} {sz M : Nat} {f : α → List P} {wf : α → Prop} {bulk : α → Nat} (O : OpensB pr e sz f wf bulk M) (hc : pr.cellsOf t = 1) (ht : pr.underlying t = some (.slice e)) :
  OpensB pr t 1 (e_sl f) (wfL wf) (bkL bulk) (M + 1) := by
 refine ⟨hc, by decide, fun n => rfl, ?_⟩
 intro H enc w fuel cs x h hsmall
 rcases Go.Deep.open_slice ht h with ⟨rfl, rfl⟩ | ⟨a, len, cap, m, n, D, Pl, rfl, hb, hl, hm, rfl, rfl, hel⟩
 ·exact ⟨[], rfl, one_cell rfl (.nil none 0), by intro x hx; simp at hx, by simp [bkL, Rows.uptoBulk]⟩
 ·have key : ∀ l, l ≤ len → ∃ xs : List α, xs.length = l ∧ wfL wf xs ∧ (xs.map bulk).sum ≤ Rows.uptoBulkAll ((List.range l).map D) ∧
    ∀ j p, (xs.flatMap f)[j]? = some p → ∃ u, w.cell? (a.add j) = some u ∧ PRel w (fun b => b < w.heap.size) u p := by
   intro l
   induction l with
   | zero => intro _; exact ⟨[], rfl, by intro x hx; simp at hx, by simp [Rows.uptoBulkAll], by simp⟩
   | succ l ih =>
    intro hll
    obtain ⟨xs, h1, h2, h3, h4⟩ := ih (by omega)
    obtain ⟨cs', hcs, htr⟩ := hel l (by first | omega | (simp; omega))
    have hsm : Rows.uptoBulk (D l) < M := by
     have h1 := bulk_mem (d := D l) (l := (List.range len).map D) (List.mem_map.mpr ⟨l, List.mem_range.mpr (by omega), rfl⟩)
     simp only [Rows.uptoBulk] at hsmall
     omega
    obtain ⟨y, hlen, hy, hwf, hbk⟩ := O.op htr hsm
    refine ⟨xs ++ [y], by simp [h1], ?_, ?_, ?_⟩
    ·intro x hx
     rcases List.mem_append.mp hx with hx | hx
     ·exact h2 x hx
     ·simp at hx; subst hx; exact hwf
    ·rw [List.range_succ, List.map_append (f := D), bulk_append]
     simp only [List.map_append, List.sum_append, List.map_cons, List.map_nil, List.sum_cons, List.sum_nil, Rows.uptoBulkAll]
     have hbk' : bulk y ≤ Rows.uptoBulk (D l) := hbk
     omega
    ·intro j p hj
     rw [List.flatMap_append, List.getElem?_append] at hj
     split at hj
     ·exact h4 j p hj
     ·rename_i hj'
      have hfl : (xs.flatMap f).length = l * sz := by rw [flat_len O.len, h1]
      rw [hfl] at hj hj'
      simp only [List.flatMap_cons, List.flatMap_nil, List.append_nil] at hj
      obtain ⟨-, hcl, hcell⟩ := World.cells?_some hcs
      have hjs : j - l * sz < sz := by
       have := (List.getElem?_eq_some_iff.mp hj).1
       rw [O.len] at this; exact this
      have h5 := hcell (j - l * sz) (by rw [O.size]; exact hjs)
      rw [add_add, O.size, show l * sz + (j - l * sz) = j by omega] at h5
      have h6 : j - l * sz < cs'.length := by rw [hcl, O.size]; exact hjs
      refine ⟨cs'[j - l * sz], by rw [h5, List.getElem?_eq_getElem h6], hy _ _ _ (List.getElem?_eq_getElem h6) hj⟩
  obtain ⟨xs, h1, h2, h3, h4⟩ := key len (Nat.le_refl _)
  refine ⟨xs, rfl, one_cell rfl ?_, h2, ?_⟩
  ·subst h1
   cases xs with
   | nil => exact .nil _ _
   | cons y ys =>
    have hlen0 : 0 < ((y :: ys).flatMap f).length := by
     rw [flat_len O.len]; exact Nat.mul_pos (by simp) O.pos
    obtain ⟨u0, hu0, _⟩ := h4 0 _ (List.getElem?_eq_getElem hlen0)
    have hsp := cell_lt hu0
    simp only [Addr.add, if_pos rfl] at hsp
    obtain ⟨ab, ao, asp⟩ := a
    obtain ⟨hs1, rfl⟩ := hsp
    refine .sl ab ao _ _ _ (fun j => (w.cell? ⟨ab, ao + j, none⟩).getD undef) hs1 hl ?_ ?_
    ·intro j hj
     obtain ⟨u, hu, _⟩ := h4 j _ (List.getElem?_eq_getElem hj)
     have := add_cell hu rfl
     rw [this]; rfl
    ·intro j hj
     obtain ⟨u, hu, hr⟩ := h4 j _ (List.getElem?_eq_getElem hj)
     have := add_cell hu rfl
     simp only at this
     rw [this]; exact hr
  ·simp only [bkL, Rows.uptoBulk]
   omega

theorem OpensB.mono {α : Type} {t : TypeId} {sz m m' : Nat} {f : α → List P} {wf : α → Prop} {bulk : α → Nat} (O : OpensB pr t sz f wf bulk m) (h : m' ≤ m) : OpensB pr t sz f wf bulk m' :=
 ⟨O.size, O.pos, O.len, fun hx hb => O.op hx (by omega)⟩
theorem OpensB.zero {α : Type} {t : TypeId} {sz : Nat} {f : α → List P} {wf : α → Prop} {bulk : α → Nat} (h1 : pr.cellsOf t = sz) (h2 : 0 < sz) (h3 : ∀ x, (f x).length = sz) : OpensB pr t sz f wf bulk 0 :=
 ⟨h1, h2, h3, fun _ hb => absurd hb (by omega)⟩
theorem Opens.slice {α : Type} {t e : TypeId} {sz : Nat} {f : α → List P} {wf : α → Prop} {bulk : α → Nat} (O : Opens pr e sz f wf bulk) (hc : pr.cellsOf t = 1) (ht : pr.underlying t = some (.slice e)) :
  Opens pr t 1 (e_sl f) (wfL wf) (bkL bulk) := fun m => ((O m).slice hc ht).mono (by omega)

/-- a field. -/
theorem OpensB.fld {α : Type} {t : TypeId} {sz m n o : Nat} {f : α → List P} {wf : α → Prop} {bulk : α → Nat} {H : Type} {enc : TypeId × Value → H} {w : World} {cs : List Value} {y : DataW H × List MemPlace} (O : OpensB pr t sz f wf bulk m)
  (h : DataW.trod enc pr w 0 (fun _ => true) true n t ((cs.drop o).take (pr.cellsOf t)) = some y) (hb : Rows.uptoBulk y.1 < m) :
  ∃ a, CellsRel w ((cs.drop o).take sz) (f a) ∧ wf a ∧ bulk a ≤ Rows.uptoBulk y.1 := by
 obtain ⟨a, h1, h2, h3, h4⟩ := O.op h hb
 rw [O.size] at h2
 exact ⟨a, h2, h3, h4⟩
theorem CellsRel.app {w : World} {cs : List Value} {l1 l2 : List P} {o n : Nat} (h1 : CellsRel w (cs.take o) l1) (hl : l1.length = o) (h2 : CellsRel w ((cs.drop o).take n) l2) : CellsRel w (cs.take (o + n)) (l1 ++ l2) := by
 intro i c p hc hp
 rw [List.getElem?_take] at hc
 split at hc
 ·rw [List.getElem?_append] at hp
  split at hp
  ·exact h1 i c p (by rw [List.getElem?_take, if_pos (by omega)]; exact hc) hp
  ·refine h2 (i - o) c p ?_ (by rw [← hl]; exact hp)
   rw [List.getElem?_take, if_pos (by omega), List.getElem?_drop, show o + (i - o) = i by omega]; exact hc
 ·cases hc
theorem CellsRel.all {w : World} {cs : List Value} {l : List P} {n : Nat} (h : CellsRel w (cs.take n) l) (hn : cs.length = n) : CellsRel w cs l := by
 rwa [List.take_of_length_le (by omega)] at h

/-! ### arguments -/
section
variable {H : Type} {enc : TypeId × Value → H} {W : World} {t : TypeId} {v : Value} {d : DataW H} {ps : List MemPlace} {base : Nat} {g : G}

theorem arg_sc {α : Type} {f : α → List P} {wf : α → Prop} {bk : α → Nat} (O : Opens pr t 1 f wf bk) (x : α → Value) (hf : ∀ a, f a = [.v (x a)]) (hv : v.cells.toList = [v]) (h : DataW.Trod enc pr W 0 (fun _ => true) true t v d ps) :
  ∃ a, DRel W (fun b => b < W.heap.size) base g v (sc (x a)) ∧ wf a ∧ bk a ≤ Rows.uptoBulk d := by
 obtain ⟨fuel, h⟩ := h
 obtain ⟨a, hl, hc, hw, hb⟩ := (O (Rows.uptoBulk d + 1)).op h (Nat.lt_succ_self _)
 rw [hv] at hc
 have h1 := hc 0 v (.v (x a)) rfl (by rw [hf]; rfl)
 have h2 : v = x a := by cases h1; rfl
 have h3 : (x a).oneCell' = true := by cases h1; assumption
 refine ⟨a, ?_, hw, hb⟩
 rw [h2]
 exact .t (.one (.p (.v _ h3)))

theorem arg_sl {α : Type} {f : α → List P} {wf : List α → Prop} {bk : List α → Nat} (O : Opens pr t 1 (e_sl f) wf bk) (hv : v.cells.toList = [v]) (h : DataW.Trod enc pr W 0 (fun _ => true) true t v d ps) :
  ∃ xs, DRel W (fun b => b < W.heap.size) base g v (.one (.p false (.sl xs.length (xs.flatMap f)))) ∧ wf xs ∧ bk xs ≤ Rows.uptoBulk d := by
 obtain ⟨fuel, h⟩ := h
 obtain ⟨a, hl, hc, hw, hb⟩ := (O (Rows.uptoBulk d + 1)).op h (Nat.lt_succ_self _)
 rw [hv] at hc
 have h1 := hc 0 v _ rfl rfl
 exact ⟨a, .t (.one (.p (h1.weak fun b hb => ⟨hb, fun e => by cases e⟩))), hw, hb⟩

theorem arg_agg {α : Type} {n : Nat} {f : α → List P} {wf : α → Prop} {bk : α → Nat} (O : Opens pr t n f wf bk) {cs : Array Value} (hv : v = .agg cs) (h : DataW.Trod enc pr W 0 (fun _ => true) true t v d ps) :
  ∃ a, DRel W (fun b => b < W.heap.size) base g v (.agg ((f a).map mkC)) ∧ wf a ∧ bk a ≤ Rows.uptoBulk d := by
 obtain ⟨fuel, h⟩ := h
 obtain ⟨a, hl, hc, hw, hb⟩ := (O (Rows.uptoBulk d + 1)).op h (Nat.lt_succ_self _)
 subst hv
 refine ⟨a, ?_, hw, hb⟩
 have e1 : (Value.agg cs).cells.toList = cs.toList := rfl
 rw [e1] at hl hc
 have hlen := (O 0).len a
 have key : DRel W (fun b => b < W.heap.size) base g (.agg cs.toList.toArray) (.agg ((f a).map mkC)) := by
  refine .t (.agg cs.toList (by simp only [List.length_map]; omega) ?_)
  intro i h1 h2
  have h3 : i < (f a).length := by simpa using h1
  have h4 := hc i _ _ (List.getElem?_eq_getElem h2) (List.getElem?_eq_getElem h3)
  rw [List.getElem_map]
  generalize (f a)[i] = q at h4
  generalize cs.toList[i] = y at h4 ⊢
  cases h4 with
  | v x h => exact .p (.v _ h)
  | nil ad cap => exact .p (.nil _ _)
  | fnil m ad cap => exact .p (.fnil _ _ _)
  | fsl m b o n cap cs us hb hm hz hn hcc hr => exact .p ((PRel.fsl m b o n cap cs us hb hm hz hn hcc hr).weak fun b hb => ⟨hb, fun e => by cases e⟩)
  | fptr m b o u p hb hm hz hc hr => exact .p ((PRel.fptr m b o u p hb hm hz hc hr).weak fun b hb => ⟨hb, fun e => by cases e⟩)
  | sl b o n cap cs us hb hn hcc hr => exact .p ((PRel.sl b o n cap cs us hb hn hcc hr).weak fun b hb => ⟨hb, fun e => by cases e⟩)
 simpa using key
end

/-- the call, seen from without. -/
theorem call_true {f : FuncId} {args : List D} (hm : Meets pr f args [] (sc (.bool true)) []) (vs : List Value) (W : World) (hgl : GlobOK W (fun b => b < W.heap.size)) (hl : vs.length = args.length)
  (hr : ∀ i (h : i < args.length) (h' : i < vs.length), DRel W (fun b => b < W.heap.size) W.heap.size (fun _ => none) (vs[i]'h') (args[i]'h)) :
  Calls pr f vs.toArray W fun e w' => e = .returned (.bool true) ∧ Below W.heap.size W w' := by
 have hok : HOK W (fun b => b < W.heap.size) W.heap.size (fun _ => none) [] := by
  refine ⟨?_, ?_, fun b h => h, ?_, fun t _ => rfl, ?_, hgl⟩
  ·intro t o h; simp [Live] at h
  ·intro t t' o o' b N N' h; simp [Live] at h
  ·intro b t o N _ h; simp [Live] at h
  ·intro t o b N h; simp [Live] at h
 refine (hm vs W _ _ hl hr hok).mono ?_
 rintro e w' ⟨v, S', g', rfl, hv, hok', h1, h2, hx, h3, h4⟩
 have hv' : v = .bool true := DRel.of_v hv
 subst hv'
 refine ⟨rfl, hx.os, hx.tape, hx.output, hx.size, fun k hk => hx.frame k hk ?_⟩
 rintro ⟨t, o, N, hL, _⟩
 simp [Live] at hL

theorem trodAll_below {H : Type} {enc : TypeId × Value → H} (hl : laidOutB pr = true) {W W' : World} (hb : Below W.heap.size W W') : ∀ {ts : List TypeId} {vs : List Value} {ds : List (DataW H)} {ps : List MemPlace},
  (ts.all fun t => pr.readableRec t && decide (t < pr.types.size)) = true → DataW.TrodAll enc pr W 0 (fun _ => true) true ts vs ds ps → DataW.TrodAll enc pr W' 0 (fun b => decide (b < W.heap.size)) true ts vs ds ps
 | [], vs, ds, ps, _, h => by
  obtain ⟨rfl, rfl, rfl⟩ := trodAll_nil h
  exact rfl
 | t :: ts, vs, ds, ps, hts, h => by
  obtain ⟨v, vs', d, ds', p, q, rfl, rfl, rfl, h1, h2⟩ := trodAll_cons h
  simp only [List.all_cons, Bool.and_eq_true, decide_eq_true_eq] at hts
  refine ⟨p, q, ?_, trodAll_below hl hb hts.2 h2, rfl⟩
  have lt : ∀ x ∈ p, x.block < W.heap.size := by obtain ⟨m, hm⟩ := h1; exact DataW.trod_lt m _ _ _ hm
  exact Below.trod hl hts.1.1 hts.1.2 h1 hb lt

theorem close_true {H : Type} {enc : TypeId × Value → H} {fn : Func} {spec : ChangeSpec} {W W' : World} {args : Array Value} {ds gs : List (DataW H)} {before : List MemPlace} {tb : TypeId}
  (hW : DataW.Whole enc pr fn.params.toList spec.vars false W args.toList ds gs before) (hv : spec.vars = []) (hsp : spec.fn H (ds ++ gs) = { results := [.lit (.bool true)], args := ds })
  (hres : fn.resultTypes = #[tb]) (htb : pr.underlying tb = some .bool) (hl : laidOutB pr = true) (hts : (fn.params.toList.all fun t => pr.readableRec t && decide (t < pr.types.size)) = true)
  (bel : Below W.heap.size W W') : spec.post enc pr fn false true false false W args (.bool true) W' := by
 have hW' := hW
 obtain ⟨p, q, hA0, hV, rfl, hfz, hnd⟩ := hW
 rw [hv] at hV
 obtain ⟨rfl, rfl⟩ := trodVars_none hV
 refine ⟨ds, [], _, [], p, [], hW', ?_, ?_, ?_, bel.frame _, fun h => by cases h⟩
 ·rw [hsp, hres]
  exact trodAll_mk1 (shut_bool htb _)
 ·rw [hsp]
  exact trodAll_below hl bel hts hA0
 ·rw [hsp, hv]
  rfl

theorem sum_le {α : Type} (bk : α → Nat) (h : ∀ a, 1 ≤ bk a) (xs : List α) : xs.length ≤ (xs.map bk).sum := by
 induction xs with
 | nil => simp
 | cons x xs ih => have := h x; simp only [List.length_cons, List.map_cons, List.sum_cons]; omega
theorem bk1_ge {α : Type} (a : α) : 1 ≤ bk1 a := Nat.le_refl _
theorem bkS_ge (a : ByteArray) : 1 ≤ bkS a := by simp [bkS]
theorem bkL_mem {α : Type} (bk : α → Nat) {x : α} : ∀ {xs : List α}, x ∈ xs → bk x < bkL bk xs
 | [], h => by cases h
 | y :: xs, h => by
  simp only [bkL, List.map_cons, List.sum_cons]
  rcases List.mem_cons.mp h with rfl | h
  ·omega
  ·have := bkL_mem bk h; simp only [bkL] at this; omega
theorem bkL_len {α : Type} {bk : α → Nat} (h : ∀ a, 1 ≤ bk a) (xs : List α) : xs.length < bkL bk xs := by
 have := sum_le bk h xs; simp only [bkL]; omega
theorem bkL_cons {α : Type} (bk : α → Nat) (x : α) (xs : List α) : bkL bk (x :: xs) = bk x + bkL bk xs := by
 simp only [bkL, List.map_cons, List.sum_cons]; omega
theorem bkL_nil {α : Type} (bk : α → Nat) : bkL bk [] = 1 := rfl
theorem bkL_ge {α : Type} {bk : α → Nat} (xs : List α) : 1 ≤ bkL bk xs := by simp [bkL]
end Go.Abs
