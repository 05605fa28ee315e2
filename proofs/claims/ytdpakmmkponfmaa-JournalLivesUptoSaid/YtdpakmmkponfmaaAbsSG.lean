import Derived.Test.YtdpakmmkponfmaaAbsZ
import Derived.Shelf.SlIter.Nil
import Derived.Shelf.SortM.Plain
set_option linter.unusedVariables false
set_option linter.unusedSimpArgs false
namespace Go.Abs
open MapKept

/-! ### contracts that the shelf has, as contracts of this machine -/
section
variable {pr : Program} {x : Ctx} {st : St} {a : Act} {w : World} {S : Nat → Prop} {g : G}
theorem Meets.of_calls {f : FuncId} {args : List D} {H H' : List (Option AObj)} {r : D}
  (h : ∀ (vs : List Value) (w : World) (S : Nat → Prop) (g : G), vs.length = args.length → (∀ i (h : i < args.length) (h' : i < vs.length), DRel w S w.heap.size g (vs[i]'h') (args[i]'h)) →
   Sim (ctxOf w S g H) ⟨0, fun _ => .one .top, H⟩ { tmps := #[], defers := [] } w S g →
   Calls pr f vs.toArray w fun e w' => ∃ v S' g', e = .returned v ∧ DRel w' S' w.heap.size g' v r ∧ Sim (ctxOf w S g H) ⟨0, fun _ => .one .top, H'⟩ { tmps := #[], defers := [] } w' S' g') : Meets pr f args H r H' := by
 intro vs w S g hl hr hok
 have hs : Sim (ctxOf w S g H) ⟨0, fun _ => .one .top, H⟩ { tmps := #[], defers := [] } w S g :=
  ⟨rfl, rfl, fun i => .t (.one (.top _)), hok, fun b hb => .inr (.inl hb), fun t o b N h1 h2 => .inr ⟨t, o, N, h1, h2⟩, ⟨rfl, rfl, rfl, Nat.le_refl _, fun _ _ _ => rfl⟩, fun _ _ => rfl, Nat.le_refl _⟩
 refine (h vs w S g hl hr hs).mono fun e w' ⟨v, S', g', he, hd, hs'⟩ => ?_
 exact ⟨v, S', g', he, hd, hs'.ok, fun b hb => hs'.s0 b hb, fun t o b N h1 h2 => hs'.wr t o b N h1 h2, hs'.ext, fun t ht => hs'.par t ht, hs'.kl⟩

/-- a row that a callee made. -/
theorem Sim.newAt (hs : Sim x st a w S g) {w' : World} (hb : ∀ j, j < w.heap.size → w'.heap[j]? = w.heap[j]?) (hsz : w.heap.size ≤ w'.heap.size) (h2 : w'.tape = w.tape) (h3 : w'.os = w.os) (h4 : w'.output = w.output)
  {gb : Nat} {arr : Array Value} {e : TypeId} (hgb : w.heap.size ≤ gb) (hg : w'.heap[gb]? = some (.cells arr e)) {cs : List C} (hl : cs.length ≤ arr.size) (hc : ∀ j (h : j < cs.length), CRel w' S x.base g (arr.getD j undef) (cs[j]'h)) :
  Sim x (st.heap (st.H ++ [some (.cells true cs)])) a w' S (gnew g st.H.length (some (gb, ⟨arr.size, 0⟩))) := by
 have hgo := gnew_old (H := st.H) hs.ok.dom (v := some (gb, ⟨arr.size, 0⟩))
 have hS : ∀ b, S b → S b ∧ w'.heap[b]? = w.heap[b]? := fun b h => ⟨h, hb b (hs.ok.st b h)⟩
 have hlt : gb < w'.heap.size := (Array.getElem?_eq_some_iff.mp hg).1
 have hgn : ∀ t o b N, Live st.H t o → gnew g st.H.length (some (gb, ⟨arr.size, 0⟩)) t = some (some (b, N)) → g t = some (some (b, N)) := by
  intro t o b N hl h
  unfold gnew at h
  rw [if_neg (by have := hl.lt; omega)] at h; exact h
 have hes := hs.ext.size
 refine hs.change hS hgo ⟨?_, ?_, ?_, ?_, ?_, ?_, hs.ok.glob.mono hS⟩ hs.s0 ?_ ⟨h2.trans hs.ext.tape, h3.trans hs.ext.os, h4.trans hs.ext.output, by omega, fun b hb' hw => (hb b (by omega)).trans (hs.ext.frame b hb' hw)⟩ (fun t ht => gnew_lt ht) (by simp)
 ·intro t o hlive
  rcases live_snoc hlive with h | ⟨rfl, rfl⟩
  ·exact (hs.ok.obj t o h).mono hS hgo fun b N hb' => hb b (hs.ok.lt t o b N h hb')
  ·exact .inr ⟨gb, ⟨arr.size, 0⟩, arr, e, by simp [gnew], fun _ => by omega, hg, rfl, by simpa using hl, fun j hj => by simpa using (hc j hj).mono (fun b hb' => ⟨hb', rfl⟩) hgo⟩
 ·intro t t' o o' b N N' h h' hb1 hb2
  rcases live_snoc h with h | ⟨rfl, rfl⟩ <;> rcases live_snoc h' with h' | ⟨rfl, rfl⟩
  ·exact hs.ok.inj t t' o o' b N N' h h' (hgn _ _ _ _ h hb1) (hgn _ _ _ _ h' hb2)
  ·simp [gnew] at hb2; have := hs.ok.lt t o b N h (hgn _ _ _ _ h hb1); omega
  ·simp [gnew] at hb1; have := hs.ok.lt t' o' b N' h' (hgn _ _ _ _ h' hb2); omega
  ·rfl
 ·intro b hb'; have := hs.ok.st b hb'; omega
 ·intro b t o N hb' hlive hgb'
  rcases live_snoc hlive with h | ⟨rfl, rfl⟩
  ·exact hs.ok.dis b t o N hb' h (hgn _ _ _ _ h hgb')
  ·simp [gnew] at hgb'; have := hs.ok.st b hb'; omega
 ·intro t ht
  simp at ht
  unfold gnew
  rw [if_neg (by omega)]; exact hs.ok.dom t (by omega)
 ·intro t o b N hlive hgb'
  rcases live_snoc hlive with h | ⟨rfl, rfl⟩
  ·have := hs.ok.lt t o b N h (hgn _ _ _ _ h hgb'); omega
  ·simp [gnew] at hgb'; omega
 ·intro t o b N hlive hgb'
  rcases live_snoc hlive with h | ⟨rfl, rfl⟩
  ·exact hs.wr t o b N h (hgn _ _ _ _ h hgb')
  ·simp [gnew] at hgb'; omega
/-- what a callee left as it was. -/
theorem Sim.later (hs : Sim x st a w S g) {w' : World} (hb : ∀ j, j < w.heap.size → w'.heap[j]? = w.heap[j]?) (hsz : w.heap.size ≤ w'.heap.size) (h2 : w'.tape = w.tape) (h3 : w'.os = w.os) (h4 : w'.output = w.output) : Sim x st a w' S g := by
 have hS : ∀ b, S b → S b ∧ w'.heap[b]? = w.heap[b]? := fun b h => ⟨h, hb b (hs.ok.st b h)⟩
 have hes := hs.ext.size
 refine ⟨hs.size, hs.nodef, fun i => (hs.fr i).mono hS (fun _ _ h => h), ⟨fun t o h => (hs.ok.obj t o h).mono hS (fun _ _ h => h) fun b N hb' => hb b (hs.ok.lt t o b N h hb'), hs.ok.inj, fun b h => by have := hs.ok.st b h; omega, hs.ok.dis, hs.ok.dom, fun t o b N h hg => by have := hs.ok.lt t o b N h hg; omega, hs.ok.glob.mono hS⟩, hs.s0, hs.wr, ⟨h2.trans hs.ext.tape, h3.trans hs.ext.os, h4.trans hs.ext.output, by omega, fun b hb' hw => (hb b (by omega)).trans (hs.ext.frame b hb' hw)⟩, hs.par, hs.kl⟩

theorem meets_keys {fK fK1 : FuncId} {T : TypeId} (h : ∀ mb W, Calls pr fK #[.map mb] W fun e w' => e = .returned (.func (.func fK1) #[] #[.pointer (some ⟨W.heap.size, 0, none⟩)]) ∧ w' = W.alloc (.cells #[.map mb] T)) (es : List (Value × Bool × List P)) :
  Meets pr fK [.one (.mp 0)] [some (.map false es)] (.one (.clo fK1 [.ref 1 0])) [some (.map false es), some (.cells true [.mp 0])] := by
 refine Meets.of_calls fun vs w S g hl hr hs => ?_
 match vs, hl with
 | [v], _ =>
  have h0 := hr 0 (by simp) (by simp)
  cases h0 with | t h0 => cases h0 with | one h0 => cases h0 with | @mp _ b hg =>
   refine (h (some b) w).mono fun e w' ⟨he, hw⟩ => ?_
   subst he hw
   have hs' := hs.newCells #[.map (some b)] T (cs := [.mp 0]) (by simp) (fun j hj => by
    have : j = 0 := by simp at hj; omega
    subst this; exact .mp hg)
   refine ⟨_, _, _, rfl, .t (.one (.clo [.pointer (some ⟨w.heap.size, 0, none⟩)] rfl fun i hi hi' => ?_)), hs'⟩
   have : i = 0 := by simp at hi; omega
   subst this
   exact .ref gnew_at rfl
/-- a map copied. -/
theorem meets_clone {f : FuncId} (h : ∀ b arr clock w, w.heap[b]? = some (.map arr clock) → Calls pr f #[.map (some b)] w fun e w' => e = .returned (.map (some w.heap.size)) ∧ w' = w.alloc (.map arr clock)) (es : List (Value × Bool × List P)) :
  Meets pr f [.one (.mp 0)] [some (.map false es)] (.one (.mp 1)) [some (.map false es), some (.map false es)] := by
 refine Meets.of_calls fun vs w S g hl hr hs => ?_
 match vs, hl with
 | [v], _ =>
  have h0 := hr 0 (by simp) (by simp)
  cases h0 with | t h0 => cases h0 with | one h0 => cases h0 with | @mp _ b hg =>
   obtain ⟨b', arr, clock, k1, _, k2, ⟨k3, k4⟩, k5⟩ := hs.mapAt (t := 0) (fr := false) (es := es) rfl
   rw [hg] at k1
   cases k1
   refine (h b arr clock w k2).mono fun e w' ⟨he, hw⟩ => ?_
   subst he hw
   have hs' := hs.newMapE k3 k4 k5
   exact ⟨_, _, _, rfl, .t (.one (.mp gnew_at)), hs'⟩
end

/-! ### the keys of a map, rising -/
def strK {V : Type} (m : List (ByteArray × V)) : List (List UInt8) := m.map fun e => e.1.data.toList
def sortK {V : Type} (m : List (ByteArray × V)) : List ByteArray := ((strK m).mergeSort fun x y => decide (x ≤ y)).map fun l => ⟨l.toArray⟩
def okK {V : Type} (m : List (ByteArray × V)) : Bool := decide (m.length ≤ 8796093022208) && m.all fun e => decide (e.1.size ≤ maxLen)

section
variable {pr : Program}
theorem merge_same {l l' : List (List UInt8)} (h : l.Perm l') : l.mergeSort (fun x y => decide (x ≤ y)) = l'.mergeSort (fun x y => decide (x ≤ y)) := mergeSort_of_perm h
theorem meets_sorted {V : Type} {f : V → List P} {b : Bool} {m : List (ByteArray × V)} {fS fK1 : FuncId} {kT : TypeId} (hkT : pr.underlying kT = some .string)
  (hS : ∀ (Bm bb nn : Nat) (D0 : DataW Unit) (R : Value → Option (DataW Unit × List MemPlace)) (w : World), Bm < w.heap.size → w.cell? ⟨Bm, 0, none⟩ = some (.map (some bb)) → w.ownsMap pr kT R bb nn D0 → Maps.size D0 ≤ maxLen → Maps.size D0 * 16 ≤ 140737488355328 →
   Calls pr fS #[.func (.func fK1) #[] #[.pointer (some ⟨Bm, 0, none⟩)]] w fun e w' => ∃ (v : Value) (ss : List (List UInt8)), e = .returned v ∧ ss.Perm (strKeys D0) ∧
    w'.ownsRow w.heap.size kT 1 v ss.length ((ss.mergeSort fun x y => decide (x ≤ y)).map Proofs.encStr) ∧ (v = .slice none 0 0 ↔ ss = []) ∧ Go.RowKit.Below w.heap.size w w')
  (hok : okK m = true) :
  Meets pr fS [.one (.clo fK1 [.ref 0 0])] [some (.cells false [.mp 1]), some (.map false (mapE b f m))] (.one (.own 2 0 (sortK m).length 1)) [some (.cells false [.mp 1]), some (.map false (mapE b f m)), some (.cells true (rowC e_str (sortK m)))] := by
 unfold okK at hok
 rw [Bool.and_eq_true, decide_eq_true_eq, List.all_eq_true] at hok
 obtain ⟨hok1, hok2⟩ := hok
 refine Meets.of_calls fun vs w S g hl hr hs => ?_
 match vs, hl with
 | [v], _ =>
  have h0 := hr 0 (by simp) (by simp)
  simp only [List.getElem_cons_zero] at h0
  cases h0 with | t h0 => cases h0 with | one h0 => cases h0 with | clo cv hcl hcv =>
   match cv, hcl, hcv with
   | [p], _, hcv =>
    have hp := hcv 0 (by simp) (by simp)
    simp only [List.getElem_cons_zero] at hp
    cases hp with | @ref _ Bm N _ hg0 hN0 =>
     obtain ⟨_, arr, e', hbk, ha, hle, hc⟩ := hs.row (t := 0) (fr := false) (cs := [.mp 1]) rfl hg0
     have hc0 := hc 0 (by simp)
     rw [hN0] at hc0
     simp only [List.getElem_cons_zero] at hc0
     obtain ⟨bb, arr1, clock, k1, _, k3, ⟨k4, k5⟩, k6⟩ := hs.mapAt (t := 1) (fr := false) (es := mapE b f m) rfl
     have hpos : 0 < arr.size := by rw [ha]; simp at hle; omega
     have hcell : w.cell? ⟨Bm, 0, none⟩ = some (.map (some bb)) := by
      have e1 : arr.getD 0 undef = arr[0] := by simp [Array.getD_eq_getD_getElem?, hpos]
      rw [e1] at hc0
      generalize hq : arr[0] = q at hc0
      cases hc0 with | mp hg1 =>
       rw [k1] at hg1
       cases hg1
       simp [World.cell?, hbk, hpos, hq]
     have hlt : Bm < w.heap.size := hs.ok.lt 0 _ Bm N rfl hg0
     have hkeys := erel_keys k4 k6
     have hml : (mapE b f m).length = m.length := by simp [mapE]
     let R : Value → Option (DataW Unit × List MemPlace) := fun _ => some (.nil, [])
     have hread : ∀ y ∈ arr1.toList, ∃ s : ByteArray, y.key = .string s ∧ WideElems.rd pr kT R y = some (.string s.data.toList, .nil) ∧ s.data.toList ∈ strK m := by
      intro y hy
      have h1 : y.key ∈ arr1.toList.map (·.key) := List.mem_map.mpr ⟨y, hy, rfl⟩
      rw [hkeys] at h1
      obtain ⟨z, hz, hz2⟩ := List.mem_map.mp h1
      have h3 := hok2 z hz
      rw [decide_eq_true_eq] at h3
      refine ⟨z.1, hz2.symm, ?_, List.mem_map.mpr ⟨z, hz, rfl⟩⟩
      simp [WideElems.rd, ← hz2, keyOf, mapKey, hkT, h3, R]
     have hown : w.ownsMap pr kT R bb arr1.size (.map ((arr1.toList.map (WideElems.rg pr kT R)).foldr DataW.insert [])) :=
      ⟨arr1, clock, k3, ⟨by unfold maxLen; omega, k5, fun y hy => let ⟨s, _, h, _⟩ := hread y hy; ⟨_, h⟩⟩, Nat.le_refl _, rfl⟩
     have hperm := WideShapes.sorted_perm (arr1.toList.map (WideElems.rg pr kT R))
     have hsz : Maps.size (.map ((arr1.toList.map (WideElems.rg pr kT R)).foldr DataW.insert []) : DataW Unit) = m.length := by
      show List.length _ = _
      rw [hperm.length_eq, List.length_map, Array.length_toList, k4, hml]
     have hstr : (strKeys (.map ((arr1.toList.map (WideElems.rg pr kT R)).foldr DataW.insert []) : DataW Unit)).Perm (strK m) := by
      refine (hperm.map fun p => strOf p.1).trans (List.Perm.of_eq ?_)
      rw [List.map_map]
      have e2 : arr1.toList.map ((fun p : Lit × DataW Unit => strOf p.1) ∘ WideElems.rg pr kT R) = (arr1.toList.map (·.key)).map fun k => match k with | .string s => s.data.toList | _ => [] := by
       rw [List.map_map]
       refine List.map_congr_left fun y hy => ?_
       obtain ⟨s, h1, h2, _⟩ := hread y hy
       simp [WideElems.rg, h2, h1, strOf]
      rw [e2, hkeys, List.map_map]
      rfl
     refine (hS Bm bb arr1.size _ R w hlt hcell hown (by rw [hsz]; unfold maxLen; omega) (by rw [hsz]; omega)).mono fun e w' ⟨v', ss, he, hpm, hrow, hnil, hbl⟩ => ?_
     have hsame : ss.mergeSort (fun x y => decide (x ≤ y)) = (strK m).mergeSort (fun x y => decide (x ≤ y)) := merge_same (hpm.trans hstr)
     have hlen : (sortK m).length = ss.length := by
      unfold sortK
      rw [← hsame, List.length_map, List.length_mergeSort]
     rcases hrow.2 with ⟨rfl, hn⟩ | ⟨gb, cap, cur, rfl, hgb, hcur, hcap, _, hcs, htake⟩
     ·have hz : sortK m = [] := List.eq_nil_of_length_eq_zero (by omega)
      have hs' := (hs.later hbl.block hbl.size hbl.tape hbl.os hbl.output).newNone
      rw [hz]
      exact ⟨_, _, _, he, .t (.one (.own0 none gnew_at)), hs'⟩
     ·have hrl : (rowC e_str (sortK m)).length = ss.length := by
       unfold rowC
       rw [List.length_map, flat_len e_str_len, Nat.mul_one, hlen]
      have hs' := hs.newAt hbl.block hbl.size hbl.tape hbl.os hbl.output hgb hcur (cs := rowC e_str (sortK m)) (by omega) (fun j hj => by
       have hj2 : j < ss.length := by omega
       have hj3 : j < (sortK m).length := by omega
       have hrc : (rowC e_str (sortK m))[j] = mkC (.v (.string (sortK m)[j])) := by
        have : (rowC e_str (sortK m))[j]? = some (mkC (.v (.string (sortK m)[j]))) := by
         unfold rowC
         rw [List.getElem?_map]
         have : (sortK m).flatMap e_str = (sortK m).map fun s => P.v (.string s) := by
          rw [List.flatMap_def]; induction sortK m with
          | nil => rfl
          | cons y ys ih => simp [e_str] at ih ⊢; exact ih
         rw [this]; simp [hj3]
        rw [List.getElem?_eq_getElem hj] at this
        exact Option.some.inj this
       have hcu : cur.getD j undef = .string (sortK m)[j] := by
        have h1 : (cur.toList.take (ss.length * 1))[j]? = (((ss.mergeSort fun x y => decide (x ≤ y)).map Proofs.encStr))[j]? := by rw [htake]
        rw [List.getElem?_take_of_lt (by omega), hsame, List.getElem?_map] at h1
        have h2 : (sortK m)[j]? = (((strK m).mergeSort fun x y => decide (x ≤ y))[j]?).map fun l => (⟨l.toArray⟩ : ByteArray) := by unfold sortK; rw [List.getElem?_map]
        rw [List.getElem?_eq_getElem hj3] at h2
        cases hq : ((strK m).mergeSort fun x y => decide (x ≤ y))[j]? with
        | none => rw [hq] at h2; cases h2
        | some l =>
         rw [hq] at h1 h2
         have h3 : (sortK m)[j] = (⟨l.toArray⟩ : ByteArray) := Option.some.inj h2
         rw [Array.getD_eq_getD_getElem?, ← Array.getElem?_toList, h1, h3]
         rfl
       rw [hrc, hcu]
       exact .p (.v _ rfl))
      refine ⟨_, _, _, he, ?_, hs'⟩
      rw [hlen]
      exact .t (.one (.own00 gnew_at hcap (by rw [hcs]; omega)))
end
end Go.Abs
