import Derived.Test.YthdbbamkjmogfaaDoorPlSC
import Derived.Test.YthdbbamkjmogfaaDoorAbsSG
import Derived.RangeFuncNested
import Derived.RangeFuncBound
import Derived.RangeFuncCalls
import Derived.RangeFuncLeaves
import Derived.Shelf.Abstract
import Derived.Shelf.RegionOpen
import Derived.WalkKit
import Derived.OwnWalkIn
import Derived.TacticsInMore
import Derived.LoopNIn
import Derived.LoopIn
import Derived.Maps.AppendAt
set_option linter.unusedVariables false
set_option linter.unusedSimpArgs false
set_option maxRecDepth 100000
set_option maxHeartbeats 4000000
namespace Go.Abs.GenS
open Go Go.Abs Go.Proofs Go.RowKit Go.Shelf
attribute [local go_sem] Oper.semAt_some
/-! ### contracts of plain calls -/
theorem glob0 {w : World} {S : Nat → Prop} : GlobOK w S := by
 intro b ps h; cases h
theorem calls_of {f : FuncId} {args : List D} {r : D} {H' : List (Option AObj)} (hm : Meets Tryd.prog f args [] r H') (vs : List Value) (W : World) (hl : vs.length = args.length)
  (hr : ∀ i (h : i < args.length) (h' : i < vs.length), DRel W (fun _ => False) W.heap.size (fun _ => none) (vs[i]'h') (args[i]'h)) :
  Calls Tryd.prog f vs.toArray W fun e w' => ∃ v S' g', e = .returned v ∧ DRel w' S' W.heap.size g' v r ∧ (∀ b, S' b → W.heap.size ≤ b ∧ b < w'.heap.size) ∧ Below W.heap.size W w' := by
 have hok : HOK W (fun _ => False) W.heap.size (fun _ => none) [] := by
  refine ⟨?_, ?_, fun b h => h.elim, ?_, fun t _ => rfl, ?_, glob0⟩
  ·intro t o h; simp [Live] at h
  ·intro t t' o o' b N N' h; simp [Live] at h
  ·intro b t o N _ h; simp [Live] at h
  ·intro t o b N h; simp [Live] at h
 refine (hm vs W _ _ hl hr hok).mono ?_
 rintro e w' ⟨v, S', g', rfl, hv, hok', h1, h2, hx, h3, h4⟩
 refine ⟨v, S', g', rfl, hv, fun b hb => ⟨?_, hok'.st b hb⟩, hx.os, hx.tape, hx.output, hx.size, fun k hk => hx.frame k hk ?_⟩
 ·rcases h1 b hb with h | h | ⟨t, o, N, hL, _⟩
  ·exact h
  ·exact h.elim
  ·simp [Live] at hL
 ·rintro ⟨t, o, N, hL, _⟩
  simp [Live] at hL
theorem str_rel {w : World} {S : Nat → Prop} {base : Nat} {g : G} (s : ByteArray) : DRel w S base g (.string s) (st_ s) := .t (.one (.p (.v _ rfl)))
theorem u8_rel {w : World} {S : Nat → Prop} {base : Nat} {g : G} (n : Int) : DRel w S base g (.int .u8 n) (sc (.int .u8 n)) := .t (.one (.p (.v _ rfl)))
theorem last_calls (s : ByteArray) (hs : s.size ≤ 1048576) (w : World) : Calls Tryd.prog 30 #[.string s, .int .u8 35] w fun e w' => e = .returned (.int .i64 (lastS s 35)) ∧ Below w.heap.size w w' := by
 obtain ⟨k, hk⟩ := (lib_last s 35 hs).get
 refine (calls_of (strings_LastIndexByte.meets k s 35 _ hk) [.string s, .int .u8 35] w rfl (by
  intro i h h'
  match i, h with
  | 0, _ => exact str_rel s
  | 1, _ => exact u8_rel 35)).mono ?_
 rintro e w' ⟨v, S', g', rfl, hv, _, hb⟩
 have : v = .int .i64 (lastS s 35) := DRel.of_v hv
 exact ⟨by rw [this], hb⟩
theorem fits_calls (s : ByteArray) (hs : s.size ≤ 1048576) (w : World) : Calls Tryd.prog 39 #[.string s] w fun e w' => e = .returned (.bool (fitsS s)) ∧ Below w.heap.size w w' := by
 obtain ⟨k, hk⟩ := (fits_ev s hs).get
 refine (calls_of (shape_Fits.meets k s _ hk) [.string s] w rfl (by
  intro i h h'
  match i, h with
  | 0, _ => exact str_rel s)).mono ?_
 rintro e w' ⟨v, S', g', rfl, hv, _, hb⟩
 have : v = .bool (fitsS s) := DRel.of_v hv
 exact ⟨by rw [this], hb⟩
theorem tup2 {w : World} {S : Nat → Prop} {base : Nat} {g : G} {v : Value} {b1 b2 : Bool} {x y : Value} (h : DRel w S base g v (.tup [.one (.p b1 (.v x)), .one (.p b2 (.v y))])) : v = .tuple #[x, y] := by
 cases h with
 | t h => cases h
 | tup vs hs h =>
  match vs, hs with
  | [u1, u2], _ =>
   have e1 : u1 = x := DRel.of_v (.t (h 0 (by simp) (by simp)))
   have e2 : u2 = y := DRel.of_v (.t (h 1 (by simp) (by simp)))
   rw [e1, e2]
theorem number_calls (s : ByteArray) (hs : s.size ≤ 1048576) (w : World) : Calls Tryd.prog 38 #[.string s] w fun e w' => e = .returned (.tuple #[.int .i64 (numS (bytesI s)).1, .int .i64 (numS (bytesI s)).2]) ∧ Below w.heap.size w w' := by
 obtain ⟨k, hk⟩ := (number_ev s hs).get
 refine (calls_of (chars_Number.meets k s _ hk) [.string s] w rfl (by
  intro i h h'
  match i, h with
  | 0, _ => exact str_rel s)).mono ?_
 rintro e w' ⟨v, S', g', rfl, hv, _, hb⟩
 exact ⟨by rw [tup2 hv], hb⟩
/-- a list of texts, as it lies. -/
theorem strs_at {w : World} {S : Nat → Prop} {base : Nat} {g : G} {v : Value} {b0 : Bool} {xs : List ByteArray} (hne : xs ≠ []) (h : DRel w S base g v (.one (.p b0 (.sl xs.length (xs.flatMap e_str))))) :
  ∃ b o cap, v = .slice (some ⟨b, o, none⟩) xs.length cap ∧ Sub S base b0 b ∧ xs.length ≤ cap ∧ ∀ j x, xs[j]? = some x → w.cell? ⟨b, o + j, none⟩ = some (.string x) := by
 cases h with
 | t h =>
  cases h with
  | one h =>
   cases h with
   | p h =>
    have hfl : ∀ l : List ByteArray, l.flatMap e_str = l.map fun s => P.v (.string s) := fun l => by
     induction l with
     | nil => rfl
     | cons a l ih => simp only [List.flatMap_cons, List.map_cons, ih]; rfl
    rw [hfl] at h
    generalize hn : xs.length = n at h
    generalize hc : (xs.map fun s => P.v (.string s)) = cs at h
    cases h with
    | nil a cap => exact absurd (List.length_eq_zero_iff.mp hn) hne
    | sl b o n cap cs us hb hcap hcell hr =>
     subst hc
     refine ⟨b, o, cap, rfl, hb, hcap, fun j x hx => ?_⟩
     have hj : j < xs.length := (List.getElem?_eq_some_iff.mp hx).1
     have hj' : j < (xs.map fun s => P.v (.string s)).length := by simpa using hj
     rw [hcell j hj']
     have := hr j hj'
     rw [List.getElem_map, (List.getElem?_eq_some_iff.mp hx).2] at this
     generalize us j = u at this
     cases this with
     | v x h => rfl
theorem splS_ne (doc : ByteArray) : splS doc ≠ [] := by
 obtain ⟨p, ps, h⟩ := spl_ne (us doc) []
 rw [splS, h]; simp
theorem split_calls (s : ByteArray) (hs : s.size ≤ 1048576) (w : World) : Calls Tryd.prog 37 #[.string s, .string ⟨#[46]⟩] w fun e w' => ∃ b o cap, e = .returned (.slice (some ⟨b, o, none⟩) (splS s).length cap) ∧ w.heap.size ≤ b ∧ b < w'.heap.size ∧ (splS s).length ≤ cap ∧ (∀ j x, (splS s)[j]? = some x → w'.cell? ⟨b, o + j, none⟩ = some (.string x)) ∧ Below w.heap.size w w' := by
 obtain ⟨k, hk⟩ := (split_ev s hs).get
 refine (calls_of (strings_Split.meets k s _ hk) [.string s, .string ⟨#[46]⟩] w rfl (by
  intro i h h'
  match i, h with
  | 0, _ => exact str_rel s
  | 1, _ => exact str_rel _)).mono ?_
 rintro e w' ⟨v, S', g', rfl, hv, hS, hb⟩
 obtain ⟨b, o, cap, rfl, hsb, hcap, hc⟩ := strs_at (splS_ne s) hv
 exact ⟨b, o, cap, rfl, (hS b hsb.1).1, (hS b hsb.1).2, hcap, hc, hb⟩
end Go.Abs.GenS
