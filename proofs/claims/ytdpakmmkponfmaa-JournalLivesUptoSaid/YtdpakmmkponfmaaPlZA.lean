import Derived.Test.YtdpakmmkponfmaaGenZe
import Derived.Test.YtdpakmmkponfmaaPlStr
import Derived.Sort.Walk0
set_option linter.unusedVariables false
set_option linter.unusedSimpArgs false
set_option maxRecDepth 100000
set_option maxHeartbeats 4000000
namespace Go.Abs.GenZ
open Go.Abs

/-! ### names and their order -/
abbrev key (n : ByteArray) : List UInt8 := n.data.toList
theorem key_inj {a b : ByteArray} (h : key a = key b) : a = b := by
 cases a; cases b; simp [key] at h; subst h; rfl
def kl (a b : ByteArray) : Prop := key a < key b
instance (a b : ByteArray) : Decidable (kl a b) := inferInstanceAs (Decidable (key a < key b))
theorem less_kl (a b : ByteArray) : Op.bytesLess a.toList b.toList = decide (kl a b) := by
 rw [toList_data, toList_data, Go.Proofs.bytesLess_eq]; rfl
theorem beq_eq (a b : ByteArray) : (a.toList == b.toList) = decide (a = b) := by
 by_cases h : a = b
 ·rw [(toList_iff _ _).mpr h]; simp [h]
 ·have : ¬ (a.toList == b.toList) = true := fun e => h ((toList_iff _ _).mp e)
  simp [h]; simpa using this
theorem kl_irrefl (a : ByteArray) : ¬ kl a a := List.lt_irrefl _
theorem kl_trans {a b c : ByteArray} (h : kl a b) (h' : kl b c) : kl a c := List.lt_trans h h'
theorem kl_ne {a b : ByteArray} (h : kl a b) : a ≠ b := fun e => kl_irrefl a (e ▸ h)
theorem kl_tri {a b : ByteArray} (h : ¬ kl a b) (hne : a ≠ b) : kl b a := by
 apply Classical.byContradiction
 intro h'
 exact hne (key_inj (List.le_antisymm (List.not_lt.mp h') (List.not_lt.mp h)))

/-! ### maps -/
theorem mget_mset {V : Type} (k q : ByteArray) (x : V) : ∀ m : List (ByteArray × V), mget k (mset q x m) = if k = q then some x else mget k m
 | [] => by
  by_cases h : k = q
  ·have : (k.toList == q.toList) = true := (toList_iff _ _).mpr h
   simp [mset, mget, this, h]
  ·have : ¬ (k.toList == q.toList) = true := fun e => h ((toList_iff _ _).mp e)
   simp only [mset, mget, this, if_neg h]; rfl
 | e :: m => by
  rw [mset]
  by_cases hq : q = e.1
  ·have h1 : (q.toList == e.1.toList) = true := (toList_iff _ _).mpr hq
   rw [if_pos h1, mget]
   by_cases h : k = q
   ·rw [if_pos ((toList_iff _ _).mpr h), if_pos h]
   ·have h2 : ¬ (k.toList == q.toList) = true := fun e => h ((toList_iff _ _).mp e)
    have h3 : ¬ (k.toList == e.1.toList) = true := by rw [← hq]; exact h2
    rw [if_neg h2, if_neg h, mget, if_neg h3]
  ·have h1 : ¬ (q.toList == e.1.toList) = true := fun w => hq ((toList_iff _ _).mp w)
   rw [if_neg h1, mget]
   by_cases h : k = e.1
   ·rw [if_pos ((toList_iff _ _).mpr h), if_neg (by rw [h]; exact fun w => hq w.symm), mget, if_pos ((toList_iff _ _).mpr h)]
   ·have h2 : ¬ (k.toList == e.1.toList) = true := fun w => h ((toList_iff _ _).mp w)
    rw [if_neg h2, mget_mset k q x m]
    by_cases h3 : k = q
    ·rw [if_pos h3, if_pos h3]
    ·rw [if_neg h3, if_neg h3, mget, if_neg h2]
def keys {V : Type} (m : List (ByteArray × V)) : List ByteArray := m.map (·.1)
theorem mget_isSome {V : Type} (k : ByteArray) : ∀ m : List (ByteArray × V), (mget k m).isSome = true ↔ k ∈ keys m
 | [] => by simp [mget, keys]
 | e :: m => by
  rw [mget]
  by_cases h : k = e.1
  ·rw [if_pos ((toList_iff _ _).mpr h)]; simp [keys, h]
  ·rw [if_neg fun w => h ((toList_iff _ _).mp w), mget_isSome k m]; simp [keys, h]
theorem keys_mset {V : Type} (q : ByteArray) (x : V) : ∀ m : List (ByteArray × V), (∀ n, n ∈ keys (mset q x m) ↔ n = q ∨ n ∈ keys m) ∧ ((keys m).Nodup → (keys (mset q x m)).Nodup)
 | [] => by simp [mset, keys]
 | e :: m => by
  rw [mset]
  by_cases h : q = e.1
  ·rw [if_pos ((toList_iff _ _).mpr h)]; simp [keys, h]
  ·rw [if_neg fun w => h ((toList_iff _ _).mp w)]
   obtain ⟨h1, h2⟩ := keys_mset q x m
   refine ⟨fun n => ?_, fun hn => ?_⟩
   ·have := h1 n
    simp only [keys, List.map_cons, List.mem_cons] at this ⊢
    rw [this]; constructor <;> (rintro (h | h | h) <;> simp [h])
   ·simp only [keys, List.map_cons, List.nodup_cons] at hn ⊢
    refine ⟨fun hm => ?_, h2 hn.2⟩
    rcases (h1 e.1).mp hm with h3 | h3
    ·exact h h3.symm
    ·exact hn.1 h3
theorem keys_mdel {V : Type} (q : ByteArray) : ∀ m : List (ByteArray × V), (keys m).Nodup → (∀ n, n ∈ keys (mdel q m) ↔ n ≠ q ∧ n ∈ keys m) ∧ (keys (mdel q m)).Nodup ∧ ∀ n, mget n (mdel q m) = if n = q then none else mget n m
 | [], _ => by simp [mdel, keys, mget]
 | e :: m, hn => by
  simp only [keys, List.map_cons, List.nodup_cons] at hn
  obtain ⟨h1, h2, h3⟩ := keys_mdel q m hn.2
  rw [mdel]
  by_cases h : q = e.1
  ·rw [if_pos ((toList_iff _ _).mpr h)]
   refine ⟨fun n => ?_, hn.2, fun n => ?_⟩
   ·simp only [keys, List.map_cons, List.mem_cons]
    constructor
    ·intro hm; exact ⟨fun e' => hn.1 (by rw [← h, ← e']; exact hm), .inr hm⟩
    ·rintro ⟨h4, h5 | h5⟩
     ·exact absurd (h5.trans h.symm) h4
     ·exact h5
   ·rw [mget]
    by_cases h4 : n = q
    ·rw [if_pos h4]
     cases hg : mget n m with
     | none => rfl
     | some y =>
      have : n ∈ keys m := (mget_isSome n m).mp (by rw [hg]; rfl)
      exact absurd this (by rw [h4, h]; exact hn.1)
    ·rw [if_neg h4, if_neg fun w => h4 (((toList_iff _ _).mp w).trans h.symm)]
  ·rw [if_neg fun w => h ((toList_iff _ _).mp w)]
   refine ⟨fun n => ?_, ?_, fun n => ?_⟩
   ·have := h1 n
    simp only [keys, List.map_cons, List.mem_cons] at this ⊢
    rw [this]
    constructor
    ·rintro (h4 | h4)
     ·exact ⟨fun e' => h (e'.symm.trans h4), .inl h4⟩
     ·exact ⟨h4.1, .inr h4.2⟩
    ·rintro ⟨h4, h5 | h5⟩
     ·exact .inl h5
     ·exact .inr ⟨h4, h5⟩
   ·simp only [keys, List.map_cons, List.nodup_cons]
    exact ⟨fun hm => hn.1 ((h1 e.1).mp hm).2, h2⟩
   ·rw [mget, mget, h3 n]
    by_cases h4 : n = e.1
    ·rw [if_pos ((toList_iff _ _).mpr h4), if_neg (by rw [h4]; exact fun w => h w.symm), if_pos ((toList_iff _ _).mpr h4)]
    ·have h5 : ¬ (n.toList == e.1.toList) = true := fun w => h4 ((toList_iff _ _).mp w)
     rw [if_neg h5, if_neg h5]

/-! ### files in the order of their names -/
abbrev Fl := dossierref03_File
def fnd (n : ByteArray) (L : List Fl) : Option Fl := L.find? fun f => decide (f.Name = n)
def Srt (L : List Fl) : Prop := L.Pairwise fun a b => kl a.Name b.Name
def ins (f : Fl) : List Fl → List Fl
 | [] => [f]
 | g :: t => if kl g.Name f.Name then g :: ins f t else if g.Name = f.Name then f :: t else f :: g :: t
def del (n : ByteArray) : List Fl → List Fl
 | [] => []
 | g :: t => if kl g.Name n then g :: del n t else t
def usum : List Fl → Nat
 | [] => 0
 | f :: t => f.B.length + usum t
theorem fnd_cons (n : ByteArray) (g : Fl) (t : List Fl) : fnd n (g :: t) = if g.Name = n then some g else fnd n t := by
 unfold fnd
 rw [List.find?_cons]
 by_cases h : g.Name = n <;> simp [h]
theorem fnd_ins (n : ByteArray) (f : Fl) : ∀ L, fnd n (ins f L) = if n = f.Name then some f else fnd n L
 | [] => by
  rw [ins, fnd_cons]
  by_cases h : n = f.Name
  ·rw [if_pos h, if_pos h.symm]
  ·rw [if_neg h, if_neg fun e => h e.symm]
 | g :: t => by
  rw [ins]
  by_cases h1 : kl g.Name f.Name
  ·rw [if_pos h1, fnd_cons, fnd_cons, fnd_ins n f t]
   by_cases h2 : g.Name = n
   ·rw [if_pos h2, if_neg (by rw [← h2]; exact kl_ne h1), if_pos h2]
   ·rw [if_neg h2, if_neg h2]
  ·rw [if_neg h1]
   by_cases h2 : g.Name = f.Name
   ·rw [if_pos h2, fnd_cons, fnd_cons]
    by_cases h3 : n = f.Name
    ·rw [if_pos h3, if_pos h3.symm]
    ·rw [if_neg h3, if_neg fun e => h3 e.symm, if_neg (by rw [h2]; exact fun e => h3 e.symm)]
   ·rw [if_neg h2, fnd_cons]
    by_cases h3 : n = f.Name
    ·rw [if_pos h3, if_pos h3.symm]
    ·rw [if_neg h3, if_neg fun e => h3 e.symm]
theorem fnd_none {n : ByteArray} {L : List Fl} (h : ∀ f ∈ L, kl n f.Name) : fnd n L = none := by
 unfold fnd
 rw [List.find?_eq_none]
 intro f hf
 have := kl_ne (h f hf)
 simp; exact fun e => this e.symm
theorem fnd_mem {n : ByteArray} {L : List Fl} {f : Fl} (h : fnd n L = some f) : f ∈ L ∧ f.Name = n := by
 unfold fnd at h
 refine ⟨List.mem_of_find?_eq_some h, ?_⟩
 have := List.find?_some h
 simpa using this
theorem fnd_del (n m : ByteArray) : ∀ L, Srt L → (fnd m L).isSome = true → fnd n (del m L) = if n = m then none else fnd n L
 | [], _, h => by simp [fnd] at h
 | g :: t, hs, h => by
  have hs' := List.pairwise_cons.mp hs
  rw [del]
  by_cases h1 : kl g.Name m
  ·rw [if_pos h1, fnd_cons, fnd_cons]
   rw [fnd_cons, if_neg (kl_ne h1)] at h
   rw [fnd_del n m t hs'.2 h]
   by_cases h2 : g.Name = n
   ·rw [if_pos h2, if_neg (by rw [← h2]; exact kl_ne h1), if_pos h2]
   ·rw [if_neg h2, if_neg h2]
  ·rw [if_neg h1]
   have h2 : g.Name = m := by
    apply Classical.byContradiction
    intro h2
    have h3 := kl_tri h1 h2
    rw [fnd_cons, if_neg h2, fnd_none fun f hf => kl_trans h3 (hs'.1 f hf)] at h
    cases h
   by_cases h3 : n = m
   ·rw [if_pos h3]; exact fnd_none fun f hf => by rw [h3, ← h2]; exact hs'.1 f hf
   ·rw [if_neg h3, fnd_cons, if_neg (by rw [h2]; exact fun e => h3 e.symm)]
theorem ins_mem (f : Fl) : ∀ L, ∀ g ∈ ins f L, g = f ∨ g ∈ L
 | [], g, h => by simp [ins] at h; exact .inl h
 | x :: t, g, h => by
  rw [ins] at h
  split at h
  ·rcases List.mem_cons.mp h with h | h
   ·exact .inr (by simp [h])
   ·rcases ins_mem f t g h with h | h
    ·exact .inl h
    ·exact .inr (by simp [h])
  ·split at h
   ·rcases List.mem_cons.mp h with h | h
    ·exact .inl h
    ·exact .inr (by simp [h])
   ·rcases List.mem_cons.mp h with h | h
    ·exact .inl h
    ·exact .inr h
theorem del_mem (n : ByteArray) : ∀ L, ∀ g ∈ del n L, g ∈ L
 | [], g, h => by simp [del] at h
 | x :: t, g, h => by
  rw [del] at h
  split at h
  ·rcases List.mem_cons.mp h with h | h
   ·simp [h]
   ·simp [del_mem n t g h]
  ·simp [h]
theorem ins_srt (f : Fl) : ∀ L, Srt L → Srt (ins f L)
 | [], _ => by simp [ins, Srt]
 | x :: t, hs => by
  have hs' := List.pairwise_cons.mp hs
  rw [ins]
  split
  ·rename_i h1
   refine List.pairwise_cons.mpr ⟨fun g hg => ?_, ins_srt f t hs'.2⟩
   rcases ins_mem f t g hg with rfl | h
   ·exact h1
   ·exact hs'.1 g h
  ·rename_i h1
   split
   ·rename_i h2
    exact List.pairwise_cons.mpr ⟨fun g hg => by rw [← h2]; exact hs'.1 g hg, hs'.2⟩
   ·rename_i h2
    have h3 := kl_tri h1 h2
    refine List.pairwise_cons.mpr ⟨fun g hg => ?_, hs⟩
    rcases List.mem_cons.mp hg with rfl | h
    ·exact h3
    ·exact kl_trans h3 (hs'.1 g h)
theorem del_srt (n : ByteArray) : ∀ L, Srt L → Srt (del n L)
 | [], _ => by simp [del, Srt]
 | x :: t, hs => by
  have hs' := List.pairwise_cons.mp hs
  rw [del]
  split
  ·exact List.pairwise_cons.mpr ⟨fun g hg => hs'.1 g (del_mem n t g hg), del_srt n t hs'.2⟩
  ·exact hs'.2
def blen : Option Fl → Nat
 | none => 0
 | some f => f.B.length
theorem usum_ins (f : Fl) : ∀ L, Srt L → usum (ins f L) + blen (fnd f.Name L) = usum L + f.B.length
 | [], _ => by simp [ins, usum, fnd, blen]
 | x :: t, hs => by
  have hs' := List.pairwise_cons.mp hs
  rw [ins]
  split
  ·rename_i h1
   rw [fnd_cons, if_neg (kl_ne h1), usum, usum]
   have := usum_ins f t hs'.2
   omega
  ·rename_i h1
   split
   ·rename_i h2
    rw [fnd_cons, if_pos h2, usum, usum, blen]; omega
   ·rename_i h2
    have h3 := kl_tri h1 h2
    rw [fnd_none (fun g hg => ?_), usum, usum, blen]
    ·omega
    ·rcases List.mem_cons.mp hg with rfl | h
     ·exact h3
     ·exact kl_trans h3 (hs'.1 g h)
theorem usum_del (n : ByteArray) : ∀ L, Srt L → (fnd n L).isSome = true → usum (del n L) + blen (fnd n L) = usum L
 | [], _, h => by simp [fnd] at h
 | x :: t, hs, h => by
  have hs' := List.pairwise_cons.mp hs
  rw [del]
  split
  ·rename_i h1
   rw [fnd_cons, if_neg (kl_ne h1)] at h ⊢
   rw [usum, usum]
   have := usum_del n t hs'.2 h
   omega
  ·rename_i h1
   have h2 : x.Name = n := by
    apply Classical.byContradiction
    intro h2
    have h3 := kl_tri h1 h2
    rw [fnd_cons, if_neg h2, fnd_none fun f hf => kl_trans h3 (hs'.1 f hf)] at h
    cases h
   rw [fnd_cons, if_pos h2, usum, blen]; omega
theorem ins_len (f : Fl) : ∀ L, (ins f L).length ≤ L.length + 1
 | [] => by simp [ins]
 | x :: t => by
  have := ins_len f t
  rw [ins]; split
  ·simp; omega
  ·split <;> simp
theorem del_len (n : ByteArray) : ∀ L, (del n L).length ≤ L.length
 | [] => by simp [del]
 | x :: t => by
  have := del_len n t
  rw [del]; split <;> simp; omega
theorem blen_le {n : ByteArray} : ∀ L : List Fl, blen (fnd n L) ≤ usum L
 | [] => by simp [fnd, blen]
 | x :: t => by
  have := blen_le (n := n) t
  rw [fnd_cons, usum]; split
  ·rw [blen]; omega
  ·omega
theorem mem_usum {f : Fl} : ∀ {L : List Fl}, f ∈ L → f.B.length ≤ usum L
 | [], h => by simp at h
 | x :: t, h => by
  rw [usum]
  rcases List.mem_cons.mp h with rfl | h
  ·omega
  ·have := mem_usum h; omega
end Go.Abs.GenZ
