import Derived.Test.YtlkogjcdiabjpaaDoorPlPC
set_option linter.unusedVariables false
set_option linter.unusedSimpArgs false
set_option maxRecDepth 100000
set_option maxHeartbeats 4000000
namespace Go.Abs.GenP
open Go.Abs
theorem aw : (fun k => dossierlaw18_awake.f (k + 40)) = fun _ => some true := by kernel_rfl
theorem awake_ev : Evt (fun k => dossierlaw18_awake.f k) true := ⟨40, fun k hk => by
 have h : dossierlaw18_awake.f (k - 40 + 40) = some true := congrFun aw (k - 40)
 rwa [show k - 40 + 40 = k by omega] at h⟩
theorem sameStr_eq {s t : ByteArray} (h : sameStr s t = true) : s = t := by
 unfold sameStr at h
 rw [toList_us, decide_eq_true_eq] at h
 exact us_inj h
/-! ### the order -/
abbrev before (a b : api_Inst) : Prop := ordP a.Path b.Path < 0
theorem before_tr {a b c : api_Inst} (h1 : before a b) (h2 : before b c) : before a c := by
 have h3 := ordP_lin.tr a.Path b.Path c.Path (by unfold before at h1; omega) (by unfold before at h2; omega)
 by_cases h : ordP a.Path c.Path = 0
 ·have := (ordP_lin.lt (a := a.Path) (b := b.Path) (c := c.Path) (by unfold before at h1; omega) (by unfold before at h2; omega) h).1
  unfold before at h1; omega
 ·unfold before; omega
theorem before_ne {a b : api_Inst} (h : before a b) : a.Path ≠ b.Path := by
 intro e
 have := ordP_lin.refl b.Path
 unfold before at h
 rw [e] at h
 omega
abbrev Srt (l : List api_Inst) : Prop := l.Pairwise before
theorem find_mem : ∀ (l : List api_Inst) (x : api_Inst), Srt l → x ∈ l → findL x.Path l = (x, true)
 | [], x, _, h => by simp at h
 | y :: ys, x, hs, h => by
  rw [findL]
  obtain ⟨h1, h2⟩ := List.pairwise_cons.mp hs
  by_cases hq : sameStr y.Path x.Path = true
  ·rw [if_pos hq]
   rcases List.mem_cons.mp h with rfl | h3
   ·rfl
   ·exact absurd (sameStr_eq hq) (before_ne (h1 x h3))
  ·rw [if_neg hq]
   rcases List.mem_cons.mp h with rfl | h3
   ·exact absurd (sameStr_refl _) hq
   ·exact find_mem ys x h2 h3
theorem findL_neg : ∀ (l : List api_Inst) (p : ByteArray), findL p l = (nobody, false) → ∀ y ∈ l, y.Path ≠ p
 | [], p, _, y, h => by simp at h
 | z :: zs, p, he, y, h => by
  rw [findL] at he
  by_cases hq : sameStr z.Path p = true
  ·rw [if_pos hq] at he; simp at he
  ·rw [if_neg hq] at he
   rcases List.mem_cons.mp h with rfl | h3
   ·exact fun e => hq (by rw [e]; exact sameStr_refl _)
   ·exact findL_neg zs p he y h3
theorem findL_pos : ∀ (l : List api_Inst) (p : ByteArray) (x : api_Inst), findL p l = (x, true) → x.Path = p
 | [], p, x, h => by simp [findL] at h
 | z :: zs, p, x, he => by
  rw [findL] at he
  by_cases hq : sameStr z.Path p = true
  ·rw [if_pos hq] at he; simp only [Prod.mk.injEq, and_true] at he; rw [← he]; exact sameStr_eq hq
  ·rw [if_neg hq] at he; exact findL_pos zs p x he
/-! ### the place -/
def firstG (x : api_Inst) (n : Nat) : List api_Inst → Int
 | [] => -1
 | y :: ys => if ordP y.Path x.Path > 0 then ((n - (ys.length + 1) : Nat) : Int) else firstG x n ys
theorem first_ev (l : List api_Inst) (x : api_Inst) (hl : l.length ≤ 1048576) (hp : ∀ y ∈ l, y.Path.size ≤ 1048576) (hx : x.Path.size ≤ 1048576) : Evt (fun k => slices_IndexFunc_api_Inst_api_Inst_17.f k l x) (firstG x l.length l) := by
 simp only [slices_IndexFunc_api_Inst_api_Inst_17.f]
 exact loop_pre (xs := l) (F := fun k i (_ : Unit) => slices_IndexFunc_api_Inst_api_Inst_17.l0 k i l x) (E := fun _ _ => some (-1)) (by omega) (fun k i s => by rw [slices_IndexFunc_api_Inst_api_Inst_17.l0])
  (R := fun suf s => firstG x l.length suf) (fun s => .pure _)
  (fun pre v suf s hxs ih => by
   have hv : v ∈ l := by rw [hxs]; simp
   refine Evt.bind (a := decide (ordP v.Path x.Path > 0)) (by simp only [tree_Put_1.f]; exact (tree_order _ _ (hp v hv) hx).bind (.pure _)) ?_
   have hpr : l.length - (suf.length + 1) = pre.length := by rw [hxs]; simp
   simp only [firstG, hpr]
   by_cases hq : ordP v.Path x.Path > 0
   ·rw [if_pos hq]; exact Evt.pos (by simpa using hq) (.pure _)
   ·rw [if_neg hq]; exact Evt.neg (by simpa using hq) (ih ())) l [] () rfl
theorem first_at (x : api_Inst) (c : List api_Inst) : ∀ (suf pre : List api_Inst), c = pre ++ suf → (∀ y ∈ pre, ordP y.Path x.Path ≤ 0) →
  (firstG x c.length suf = -1 ∧ ∀ y ∈ c, ordP y.Path x.Path ≤ 0) ∨ (∃ p y q, c = p ++ y :: q ∧ firstG x c.length suf = ((p.length : Nat) : Int) ∧ (∀ z ∈ p, ordP z.Path x.Path ≤ 0) ∧ ordP y.Path x.Path > 0)
 | [], pre, hx, hp => .inl ⟨rfl, by rw [hx]; simpa using hp⟩
 | y :: ys, pre, hx, hp => by
  by_cases hq : ordP y.Path x.Path > 0
  ·have hpr : c.length - (ys.length + 1) = pre.length := by rw [hx]; simp
   exact .inr ⟨pre, y, ys, hx, by rw [firstG, if_pos hq, hpr], hp, hq⟩
  ·rw [firstG, if_neg hq]
   exact first_at x c ys (pre ++ [y]) (by rw [hx]; simp) (fun z hz => by
    rcases List.mem_append.mp hz with h | h
    ·exact hp z h
    ·rw [List.mem_singleton.mp h]; omega)
/-! ### put -/
structure Put (m m' : api_Case) (x : api_Inst) : Prop where
 srt : Srt m'.Insts
 mem : x ∈ m'.Insts
 keep : ∀ y ∈ m.Insts, ∃ z ∈ m'.Insts, z.Path = y.Path
 from_ : ∀ y ∈ m'.Insts, y = x ∨ y ∈ m.Insts
 len : m'.Insts.length ≤ m.Insts.length + 1
 docs : m'.Docs = m.Docs
theorem put_ev (m : api_Case) (x : api_Inst) (h : Fine m) (hs : Srt m.Insts) (hx : x.Path.size ≤ 1048576) (hl : x.Latches.length ≤ 1048576) : ∃ m', Evt (fun k => tree_Put.f k m x) m' ∧ Put m m' x := by
 have hlen := h.insts
 rcases find_idx x.Path m.Insts m.Insts [] rfl with ⟨h1, h2⟩ | ⟨n, y, h1, h2, h3⟩
 ·-- not there
  have hne := findL_neg _ _ h2
  rcases first_at x m.Insts m.Insts [] rfl (by simp) with ⟨h4, h5⟩ | ⟨p, y, q, h4, h5, h6, h7⟩
  ·refine ⟨⟨m.ID, m.Model, m.Insts.take ((m.Insts.length : Int)).toNat ++ (x :: m.Insts.drop ((m.Insts.length : Int)).toNat), m.Docs, m.Clock⟩, ?_, ?_⟩
   ·simp only [tree_Put.f]
    refine (tree_copy m h).bind ((tree_own_ev x hl).bind ((tree_index_ev m x.Path h).bind (Evt.neg (by simp; omega) ((first_ev _ x hlen h.path hx).bind ?_))))
    rw [h4]
    exact Evt.pos (by decide) (Evt.pos (by simp; omega) (.pure _))
   ·have e : m.Insts.take ((m.Insts.length : Int)).toNat ++ (x :: m.Insts.drop ((m.Insts.length : Int)).toNat) = m.Insts ++ [x] := by simp
    refine ⟨?_, ?_, ?_, ?_, ?_, rfl⟩
    ·show Srt (_ ++ _); rw [e]
     refine List.pairwise_append.mpr ⟨hs, by simp, fun a ha b hb => ?_⟩
     rw [List.mem_singleton.mp hb]
     have := h5 a ha
     have hz : ordP a.Path x.Path ≠ 0 := fun hz => hne a ha (ordP_zero hz)
     show ordP a.Path x.Path < 0
     omega
    ·show x ∈ _ ++ _; rw [e]; simp
    ·show ∀ y ∈ m.Insts, ∃ z ∈ _ ++ _, _; rw [e]; exact fun y hy => ⟨y, by simp [hy], rfl⟩
    ·show ∀ y ∈ _ ++ _, _; rw [e]; intro y hy; simp only [List.mem_append, List.mem_singleton] at hy; rcases hy with h | h; exact .inr h; exact .inl h
    ·show List.length (_ ++ _) ≤ _; rw [e]; simp
  ·refine ⟨⟨m.ID, m.Model, m.Insts.take ((p.length : Int)).toNat ++ (x :: m.Insts.drop ((p.length : Int)).toNat), m.Docs, m.Clock⟩, ?_, ?_⟩
   ·simp only [tree_Put.f]
    refine (tree_copy m h).bind ((tree_own_ev x hl).bind ((tree_index_ev m x.Path h).bind (Evt.neg (by simp; omega) ((first_ev _ x hlen h.path hx).bind ?_))))
    rw [h5]
    have hpl : p.length ≤ m.Insts.length := by rw [h4]; simp
    exact Evt.neg (by simp) (Evt.pos (by simp; omega) (.pure _))
   ·have e : m.Insts.take ((p.length : Int)).toNat ++ (x :: m.Insts.drop ((p.length : Int)).toNat) = p ++ (x :: y :: q) := by
     rw [h4]; simp
    have hs' := hs
    rw [h4] at hs'
    obtain ⟨g1, g2, g3⟩ := List.pairwise_append.mp hs'
    obtain ⟨g4, g5⟩ := List.pairwise_cons.mp g2
    have hxy : before x y := by
     have := ordP_lin.neg x.Path y.Path
     show ordP x.Path y.Path < 0
     omega
    have hpx : ∀ z ∈ p, before z x := fun z hz => by
     have h8 := h6 z hz
     have hz0 : ordP z.Path x.Path ≠ 0 := fun h9 => hne z (by rw [h4]; simp [hz]) (ordP_zero h9)
     show ordP z.Path x.Path < 0
     omega
    refine ⟨?_, ?_, ?_, ?_, ?_, rfl⟩
    ·show Srt (_ ++ _); rw [e]
     refine List.pairwise_append.mpr ⟨g1, List.pairwise_cons.mpr ⟨fun b hb => ?_, g2⟩, fun a ha b hb => ?_⟩
     ·rcases List.mem_cons.mp hb with rfl | hb
      ·exact hxy
      ·exact before_tr hxy (g4 b hb)
     ·rcases List.mem_cons.mp hb with rfl | hb
      ·exact hpx a ha
      ·exact g3 a ha b hb
    ·show x ∈ _ ++ _; rw [e]; simp
    ·show ∀ y ∈ m.Insts, ∃ z ∈ _ ++ _, _; rw [e, h4]; exact fun z hz => ⟨z, by simp only [List.mem_append, List.mem_cons] at hz ⊢; rcases hz with h | h | h; exact .inl h; exact .inr (.inr (.inl h)); exact .inr (.inr (.inr h)), rfl⟩
    ·show ∀ y ∈ _ ++ _, _; rw [e, h4]; intro z hz; simp only [List.mem_append, List.mem_cons] at hz ⊢; rcases hz with h | h | h | h; exact .inr (.inl h); exact .inl h; exact .inr (.inr (.inl h)); exact .inr (.inr (.inr h))
    ·show List.length (_ ++ _) ≤ _; rw [e, h4]; simp only [List.length_append, List.length_cons]; omega
 ·have hpy : y.Path = x.Path := findL_pos _ _ _ h3
  have hn : n < m.Insts.length := by
   rcases Nat.lt_or_ge n m.Insts.length with h | h
   ·exact h
   ·rw [List.getElem?_eq_none h] at h2; simp at h2
  obtain ⟨p, q, h4, hp⟩ : ∃ p q, m.Insts = p ++ y :: q ∧ p.length = n := by
   refine ⟨m.Insts.take n, m.Insts.drop (n + 1), ?_, by rw [List.length_take]; omega⟩
   have : m.Insts[n] = y := by rw [List.getElem?_eq_getElem hn] at h2; exact Option.some.inj h2
   rw [← this, List.getElem_cons_drop, List.take_append_drop]
  refine ⟨⟨m.ID, m.Model, m.Insts.set ((n : Int)).toNat x, m.Docs, m.Clock⟩, ?_, ?_⟩
  ·simp only [tree_Put.f]
   refine (tree_copy m h).bind ((tree_own_ev x hl).bind ((tree_index_ev m x.Path h).bind ?_))
   rw [h1]
   exact Evt.pos (by simp) (Evt.some_bind (by rw [rd_nat]; exact h2) (.pure _))
  ·have e : m.Insts.set ((n : Int)).toNat x = p ++ x :: q := by
    rw [Int.toNat_natCast, h4, ← hp, List.set_append_right _ _ (Nat.le_refl _), Nat.sub_self, List.set_cons_zero]
   have hs' := hs
   rw [h4] at hs'
   obtain ⟨g1, g2, g3⟩ := List.pairwise_append.mp hs'
   obtain ⟨g4, g5⟩ := List.pairwise_cons.mp g2
   refine ⟨?_, ?_, ?_, ?_, ?_, rfl⟩
   ·show Srt (m.Insts.set _ _); rw [e]
    refine List.pairwise_append.mpr ⟨g1, List.pairwise_cons.mpr ⟨fun b hb => ?_, g5⟩, fun a ha b hb => ?_⟩
    ·have := g4 b hb; unfold before at this ⊢; rwa [hpy] at this
    ·rcases List.mem_cons.mp hb with rfl | hb
     ·have := g3 a ha y (by simp); unfold before at this ⊢; rwa [hpy] at this
     ·exact g3 a ha b (by simp [hb])
   ·show x ∈ m.Insts.set _ _; rw [e]; simp
   ·show ∀ y ∈ m.Insts, ∃ z ∈ m.Insts.set _ _, _; rw [e, h4]; intro z hz; simp only [List.mem_append, List.mem_cons] at hz; rcases hz with h | rfl | h
    ·exact ⟨z, by simp [h], rfl⟩
    ·exact ⟨x, by simp, hpy.symm⟩
    ·exact ⟨z, by simp [h], rfl⟩
   ·show ∀ y ∈ m.Insts.set _ _, _; rw [e, h4]; intro z hz; simp only [List.mem_append, List.mem_cons] at hz ⊢; rcases hz with h | h | h; exact .inr (.inl h); exact .inl h; exact .inr (.inr (.inr h))
   ·show List.length (m.Insts.set _ _) ≤ _; rw [List.length_set]; omega
end Go.Abs.GenP
