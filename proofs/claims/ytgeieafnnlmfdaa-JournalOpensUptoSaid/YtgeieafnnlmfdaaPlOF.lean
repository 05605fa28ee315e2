import Derived.Test.YtgeieafnnlmfdaaPlOE
set_option linter.unusedVariables false
set_option linter.unusedSimpArgs false
set_option maxRecDepth 100000
set_option maxHeartbeats 4000000
namespace Go.Abs.GenO
open Go.Abs

theorem names_eq {N : Nat} {D : VD} {fu : Option Int} {Y : RD} (h : Rel N D fu Y) (hN : N ≤ 1000000000) : okK D.files = true ∧ sortK D.files = Y.L.map (·.Name) := by
 have hn1 : (strK D.files).Nodup := by
  have : strK D.files = (keys D.files).map key := by simp [strK, keys, key]
  rw [this]
  exact List.pairwise_map.mpr (List.Pairwise.imp (fun {a b} hab e => hab (key_inj e)) h.ag.1)
 have hn2 : (Y.L.map fun f => key f.Name).Nodup := by
  refine List.pairwise_map.mpr (List.Pairwise.imp (fun {a b} hab e => ?_) h.srt)
  exact kl_ne hab (key_inj e)
 have hmem : ∀ x, x ∈ strK D.files ↔ x ∈ Y.L.map fun f => key f.Name := by
  intro x
  have h1 : ∀ n : ByteArray, n ∈ keys D.files ↔ ∃ f ∈ Y.L, f.Name = n := by
   intro n
   rw [← mget_isSome, agree_some h.ag]
   constructor
   ·intro hs
    cases hq : fnd n Y.L with
    | none => rw [hq] at hs; cases hs
    | some f => exact ⟨f, fnd_mem hq⟩
   ·rintro ⟨f, hf, hfn⟩
    unfold fnd
    rw [List.find?_isSome]
    exact ⟨f, hf, by simpa using hfn⟩
  simp only [strK, List.mem_map]
  constructor
  ·rintro ⟨e, he, rfl⟩
   obtain ⟨f, hf, hfn⟩ := (h1 e.1).mp (List.mem_map.mpr ⟨e, he, rfl⟩)
   exact ⟨f, hf, by rw [hfn]⟩
  ·rintro ⟨f, hf, rfl⟩
   obtain ⟨e, he, hen⟩ := List.mem_map.mp ((h1 f.Name).mpr ⟨f, hf, rfl⟩)
   exact ⟨e, he, by rw [hen]⟩
 have hp : (strK D.files).Perm (Y.L.map fun f => key f.Name) := (List.perm_ext_iff_of_nodup hn1 hn2).mpr hmem
 have hlen : D.files.length = Y.L.length := by have := hp.length_eq; simpa [strK] using this
 constructor
 ·have hl := h.len
  unfold okK
  rw [Bool.and_eq_true, decide_eq_true_eq, List.all_eq_true]
  refine ⟨by omega, fun e he => ?_⟩
  have : e.1.data.toList ∈ Y.L.map fun f => key f.Name := (hmem _).mp (List.mem_map.mpr ⟨e, he, rfl⟩)
  obtain ⟨f, hf, hfe⟩ := List.mem_map.mp this
  have h3 := h.nm f hf
  have : f.Name = e.1 := key_inj hfe
  rw [← this, decide_eq_true_eq]
  have : maxLen = 9223372036854775807 := by decide
  omega
 ·have hs : ((strK D.files).mergeSort fun x y => decide (x ≤ y)) = Y.L.map fun f => key f.Name := by
   refine List.Perm.eq_of_pairwise (le := fun a b : List UInt8 => decide (a ≤ b) = true) (fun a b _ _ h1 h2 => List.le_antisymm (of_decide_eq_true h1) (of_decide_eq_true h2))
    (List.pairwise_mergeSort (fun a b c h1 h2 => by simp only [decide_eq_true_eq] at *; exact List.le_trans h1 h2) (fun a b => by simp only [Bool.or_eq_true, decide_eq_true_eq]; exact List.le_total a b) _) ?_ ((List.mergeSort_perm _ _).trans hp)
   refine List.pairwise_map.mpr (List.Pairwise.imp (fun {a b} hab => ?_) h.srt)
   exact decide_eq_true (List.not_lt.mp fun e => kl_irrefl _ (kl_trans hab e))
  unfold sortK
  rw [hs, List.map_map]
  refine List.map_congr_left fun f _ => ?_
  show (⟨(f.Name.data.toList).toArray⟩ : ByteArray) = f.Name
  simp

end Go.Abs.GenO
