import Derived.Test.YthdbbamkjmogfaaDoorAbsSHf
set_option linter.unusedVariables false
set_option linter.unusedSimpArgs false
set_option maxRecDepth 100000
set_option maxHeartbeats 4000000
namespace Go.Abs.GenS
open Go Go.Abs Go.Proofs Go.RowKit Go.Shelf
/-- what a callee left as it was, but for one new block that nobody writes. -/
theorem sim_later1 {x : Ctx} {st : St} {a : Act} {w w' : World} {S : Nat → Prop} {g : G} (hs : Sim x st a w S g) (hb : Below w.heap.size w w') {c : Nat} (h0 : w.heap.size ≤ c) (h1 : c < w'.heap.size) : Sim x st a w' (fun b => S b ∨ b = c) g := by
 have hsz := hb.size
 have hS : ∀ b, S b → (S b ∨ b = c) ∧ w'.heap[b]? = w.heap[b]? := fun b hb' => ⟨.inl hb', hb.block b (hs.ok.st b hb')⟩
 refine ⟨hs.size, hs.nodef, fun i => (hs.fr i).mono hS (fun _ _ h => h), ⟨?_, hs.ok.inj, ?_, ?_, hs.ok.dom, ?_, hs.ok.glob.mono hS⟩, ?_, hs.wr, ?_, hs.par, hs.kl⟩
 ·exact fun t o h => (hs.ok.obj t o h).mono hS (fun _ _ h => h) fun b N hb' => hb.block b (hs.ok.lt t o b N h hb')
 ·rintro b (hb' | rfl)
  ·have := hs.ok.st b hb'; omega
  ·omega
 ·rintro b t o N (hb' | rfl) hl hg
  ·exact hs.ok.dis b t o N hb' hl hg
  ·have := hs.ok.lt t o _ N hl hg; omega
 ·intro t o b N hl hg; have := hs.ok.lt t o b N hl hg; omega
 ·rintro b (hb' | rfl)
  ·exact hs.s0 b hb'
  ·exact .inl (by have := hs.ext.size; omega)
 ·refine ⟨hb.tape.trans hs.ext.tape, hb.os.trans hs.ext.os, hb.output.trans hs.ext.output, by have := hs.ext.size; omega, fun b hb' hwr => ?_⟩
  rw [hb.block b (by have := hs.ext.size; omega)]; exact hs.ext.frame b hb' hwr
theorem rel2 {w : World} {S : Nat → Prop} {base : Nat} {g : G} {x y : Value} {c d : C} (h1 : CRel w S base g x c) (h2 : CRel w S base g y d) : DRel w S base g (.tuple #[x, y]) (.tup [.one c, .one d]) :=
 .tup [x, y] rfl fun i h h' => by
  match i, h with
  | 0, _ => exact .one h1
  | 1, _ => exact .one h2
theorem meets_base {doc : ByteArray} {b0 : Bool} (h : decide (doc.size ≤ 1048576) = true) : Meets Tryd.prog 11 [.one (.p b0 (.v (.string doc)))] [] (.tup [.one (.p true (.v (.string (sh_base doc).1))), .one (.p true (.v (.bool (sh_base doc).2)))]) [] := by
 refine Meets.of_calls fun vs w S g hl hr hs => ?_
 match vs, hl with
 | [v], _ =>
  have hv : v = .string doc := DRel.of_v (hr 0 (by simp) (by simp))
  subst hv
  refine (base_calls doc (of_decide_eq_true h) w).mono fun e w' ⟨he, hb⟩ => ?_
  exact ⟨_, S, g, he, rel2 (.p (.v _ rfl)) (.p (.v _ rfl)), hs.later (fun j hj => hb.block j hj) hb.size hb.tape hb.os hb.output⟩
theorem meets_last {doc : ByteArray} {b0 : Bool} (h : decide (doc.size ≤ 1048576) = true) : Meets Tryd.prog 12 [.one (.p b0 (.v (.string doc)))] [] (.tup [.one (.p true (.v (.string (sh_last doc).1))), .one (.p true (.v (.int .i64 (sh_last doc).2)))]) [] := by
 refine Meets.of_calls fun vs w S g hl hr hs => ?_
 match vs, hl with
 | [v], _ =>
  have hv : v = .string doc := DRel.of_v (hr 0 (by simp) (by simp))
  subst hv
  refine (last12_calls doc (of_decide_eq_true h) w).mono fun e w' ⟨he, hb⟩ => ?_
  exact ⟨_, S, g, he, rel2 (.p (.v _ rfl)) (.p (.v _ rfl)), hs.later (fun j hj => hb.block j hj) hb.size hb.tape hb.os hb.output⟩
/-- the cells of a row of parts. -/
theorem flat_cells (f : ByteArray → Int → List P) (hf : ∀ a b, f a b = [P.v (.string a), P.v (.int .i64 b)]) : ∀ (ps : List Piece) (j : Nat) (p : P), (ps.flatMap fun q => f q.1 q.2.1)[j]? = some p → ∃ u, (ps.flatMap pcells)[j]? = some u ∧ p = .v u ∧ u.oneCell' = true
 | [], j, p, h => by simp at h
 | q :: qs, j, p, h => by
  rw [List.flatMap_cons, hf] at h
  rw [List.flatMap_cons]
  match j with
  | 0 => simp at h; exact ⟨_, rfl, h.symm, rfl⟩
  | 1 => simp at h; exact ⟨_, rfl, h.symm, rfl⟩
  | j + 2 =>
   have h' : (qs.flatMap fun q => f q.1 q.2.1)[j]? = some p := by simpa using h
   obtain ⟨u, h1, h2, h3⟩ := flat_cells f hf qs j p h'
   exact ⟨u, by simpa using h1, h2, h3⟩
theorem meets_list {α : Type} (mk : ByteArray → Int → α) (f : α → List P) (hf : ∀ a b, f (mk a b) = [P.v (.string a), P.v (.int .i64 b)]) {doc : ByteArray} {b0 : Bool} (h : decide (doc.size ≤ 1048576) = true) :
  Meets Tryd.prog 17 [.one (.p b0 (.v (.string doc)))] [] (.tup [.one (.p false (.sl ((sh_list doc).1.map fun p => mk p.1 p.2).length (((sh_list doc).1.map fun p => mk p.1 p.2).flatMap f))), .one (.p true (.v (.bool (sh_list doc).2)))]) [] := by
 refine Meets.of_calls fun vs w S g hl hr hs => ?_
 match vs, hl with
 | [v], _ =>
  have hv : v = .string doc := DRel.of_v (hr 0 (by simp) (by simp))
  subst hv
  refine (list_calls doc (of_decide_eq_true h) w).mono fun e w' ⟨he, hb⟩ => ?_
  rcases he with ⟨hok, c, cap, he, hrow⟩ | ⟨hok, he⟩
  ·have hsl : sh_list doc = ((piecesS doc).map fun p => (p.1, p.2.1), true) := by rw [sh_list, if_pos hok]
   rw [hsl]
   have hc := hrow.lt c rfl
   refine ⟨_, _, g, he, rel2 (.p ?_) (.p (.v _ rfl)), sim_later1 hs hb hc.1 hc.2⟩
   have hlen : (((piecesS doc).map fun p => (p.1, p.2.1)).map fun p => mk p.1 p.2).length = (piecesS doc).length := by simp
   have hfl : ((((piecesS doc).map fun p => (p.1, p.2.1)).map fun p => mk p.1 p.2).flatMap f) = (piecesS doc).flatMap fun q => f (mk q.1 q.2.1) := by
    rw [List.map_map, List.flatMap_map]; rfl
   rw [hlen, hfl]
   rcases hrow.2 with ⟨he', h0⟩ | ⟨c', cap', cur, he', _, hg, h1, h2, h3, h4⟩
   ·cases he'
   ·cases he'
    have hcell : ∀ j u, ((piecesS doc).flatMap pcells)[j]? = some u → w'.cell? ⟨c, 0 + j, none⟩ = some u := by
     intro j u hu
     rw [← h4, List.getElem?_take] at hu
     split at hu
     ·have : cur[j]? = some u := by simpa using hu
      simp [World.cell?, hg, this]
     ·cases hu
    refine .sl c 0 _ cap _ (fun j => (((piecesS doc).flatMap pcells)[j]?).getD undef) ⟨.inr rfl, fun e => by cases e⟩ h1 (fun j hj => ?_) (fun j hj => ?_)
    ·obtain ⟨u, h5, _, _⟩ := flat_cells (fun a b => f (mk a b)) hf (piecesS doc) j _ (List.getElem?_eq_getElem hj)
     rw [h5]
     exact hcell j u h5
    ·obtain ⟨u, h5, h6, h7⟩ := flat_cells (fun a b => f (mk a b)) hf (piecesS doc) j _ (List.getElem?_eq_getElem hj)
     rw [h5, h6]
     exact .v _ h7
  ·have hsl : sh_list doc = ([], false) := by rw [sh_list, if_neg (by rw [hok]; decide)]
   rw [hsl]
   exact ⟨_, S, g, he, rel2 (.p (.nil none 0)) (.p (.v _ rfl)), hs.later (fun j hj => hb.block j hj) hb.size hb.tape hb.os hb.output⟩
end Go.Abs.GenS
