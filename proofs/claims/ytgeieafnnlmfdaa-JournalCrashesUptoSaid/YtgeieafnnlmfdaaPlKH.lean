import Derived.Test.YtgeieafnnlmfdaaPlKG
set_option linter.unusedVariables false
set_option linter.unusedSimpArgs false
set_option maxRecDepth 100000
set_option maxHeartbeats 4000000
namespace Go.Abs.GenK
open Go.Abs
/-! ### what a crash leaves, and opening it -/
def Fine (L : List (List Int)) : Prop := (∀ a ∈ L, U8s a ∧ a.length ≤ 700) ∧ L.length ≤ 12
theorem jf_len : ∀ {L : List (List Int)}, (∀ a ∈ L, U8s a ∧ a.length ≤ 700) → (jf L).length ≤ 708 * L.length
 | [], _ => by simp [jf]
 | a :: L, h => by
  have := jf_len (L := L) (fun x hx => h x (by simp [hx]))
  have := (h a (by simp)).2
  rw [jf_cons, List.length_append, frm_len, List.length_cons]
  omega
theorem jf_u8 : ∀ {L : List (List Int)}, (∀ a ∈ L, U8s a ∧ a.length ≤ 700) → U8s (jf L)
 | [], _ => fun x hx => by simp [jf] at hx
 | a :: L, h => by rw [jf_cons]; exact (frm_u8 (h a (by simp)).1).app (jf_u8 (fun x hx => h x (by simp [hx])))
def Torn (t : List Int) : Prop := nx t = none ∧ U8s t ∧ t.length ≤ 1000
def St (R : Int) (L : List (List Int)) (x : Bool) (D : VD) : Prop :=
 (∃ t, Torn t ∧ D = d1 R (jf L ++ t) ((jf L ++ t).length : Int) x) ∨ (∃ g : List Int, g.length ≤ 1000 ∧ D = d2 R (jf L) ((jf L).length : Int) g (g.length : Int) x)
theorem torn0 : Torn [] := ⟨rfl, (fun x hx => by cases hx), by simp⟩
theorem crash_st {R : Int} {L : List (List Int)} {x : Bool} {D : VD} (hL : Fine L) (h : St R L x D) (keeps : List Int) (p : Int) : ∃ D', Evt (fun k => vdisk_Disk_Crash_16.f k D p keeps) (0, D') ∧ St R L false D' := by
 have hj := jf_len hL.1
 have h12 := hL.2
 rcases h with ⟨t, ht, rfl⟩ | ⟨g, hg, rfl⟩
 ·have hl : (jf L ++ t).length ≤ 4194304 := by rw [List.length_append]; have := ht.2.2; omega
  obtain ⟨n, n1, n2, h⟩ := crash1 (R := R) (c := jf L ++ t) (s := ((jf L ++ t).length : Int)) (x := x) keeps p (by omega) hl
  have : n = (jf L ++ t).length := by omega
  subst this
  rw [List.take_length] at h
  exact ⟨_, h, .inl ⟨t, ht, rfl⟩⟩
 ·obtain ⟨n, m, ⟨n1, n2⟩, ⟨m1, m2⟩, h⟩ := crash2 (R := R) (c := jf L) (g := g) (s := ((jf L).length : Int)) (q := (g.length : Int)) (x := x) keeps p (by omega) (by omega) (by omega)
  have e1 : n = (jf L).length := by omega
  have e2 : m = g.length := by omega
  subst e1 e2
  rw [List.take_length, List.take_length] at h
  exact ⟨_, h, .inr ⟨g, hg, rfl⟩⟩
def optU : Option Jn → Option Unit
 | none => none
 | some _ => some ()
/-- reading, with a fuse. -/
theorem scanF {R : Int} {s : List Int} {l : List (List Int)} {t : List Int} {p : Int} (hp : 0 ≤ p ∧ p ≤ 10) (hL : Fine (s :: l)) (ht : Torn t) :
  ∃ (o : Option Unit) (e : Int) (J : Jn) (D' : VD) (q' : Int) (x : Bool), Evt (fun k => journal_Journal_scan.f k (⟨(), [], [], false⟩ : Jn) (jf (s :: l) ++ t) (d1 R (jf (s :: l) ++ t) ((jf (s :: l) ++ t).length : Int) false) p) (o, e, J, D', q') ∧ St R (s :: l) x D' := by
 have hj := jf_len hL.1
 have h12 := hL.2
 obtain ⟨t1, t2, t3⟩ := ht
 have hlen : (jf (s :: l) ++ t).length = (jf (s :: l)).length + t.length := List.length_append
 have hu : U8s (jf (s :: l) ++ t) := (jf_u8 hL.1).app t2
 have main := fun (β : Type) (T : Nat → List (List Int) → Int → Option ((Option Unit) × Int × journal_Journal × vdisk_Disk × Int)) (r : (Option Unit) × Int × journal_Journal × vdisk_Disk × Int) hS (h : Evt (fun k => T k (s :: l) ((jf (s :: l)).length : Int)) r) =>
  scan_gen (S := fun k x1 x2 => journal_Journal_scan.l0 k x1 x2 (⟨(), [], [], false⟩ : Jn) (jf (s :: l) ++ t) (d1 R (jf (s :: l) ++ t) ((jf (s :: l) ++ t).length : Int) false) p) (T := T) hu (by rw [hlen]; omega) hS (s :: l) [] t [] r rfl t1 (fun a ha => by have := (hL.1 a ha).2; omega) (by simp) (by simpa using h)
 have go : ∀ r, Evt (fun k => if (((s :: l).length : Int) == 0) = true then (some ((none : Option Unit), 72, (⟨(), [], [], false⟩ : journal_Journal), d1 R (jf (s :: l) ++ t) ((jf (s :: l) ++ t).length : Int) false, p)) else (if (decide (((jf (s :: l)).length : Int) < ((jf (s :: l) ++ t).length : Int))) = true then ((vdisk_Disk_Truncate.f k (d1 R (jf (s :: l) ++ t) ((jf (s :: l) ++ t).length : Int) false) (⟨#[106, 111, 117, 114, 110, 97, 108]⟩ : ByteArray) ((jf (s :: l)).length : Int) p).bind fun r9 => if (r9.1 != 0) = true then (some ((none : Option Unit), r9.1, (⟨(), [], [], false⟩ : journal_Journal), r9.2.1, r9.2.2)) else (journal_Journal_scan.j1 k r9.2.1.room r9.2.1.used r9.2.1.dead r9.2.1.files r9.2.2 (⟨(), [], [], false⟩ : Jn) (s :: l))) else (journal_Journal_scan.j1 k (d1 R (jf (s :: l) ++ t) ((jf (s :: l) ++ t).length : Int) false).room (d1 R (jf (s :: l) ++ t) ((jf (s :: l) ++ t).length : Int) false).used (d1 R (jf (s :: l) ++ t) ((jf (s :: l) ++ t).length : Int) false).dead (d1 R (jf (s :: l) ++ t) ((jf (s :: l) ++ t).length : Int) false).files p (⟨(), [], [], false⟩ : Jn) (s :: l)))) r →
   Evt (fun k => journal_Journal_scan.f k (⟨(), [], [], false⟩ : Jn) (jf (s :: l) ++ t) (d1 R (jf (s :: l) ++ t) ((jf (s :: l) ++ t).length : Int) false) p) r := fun r hr =>
  main Unit (fun k x1 x2 => if ((x1.length : Int) == 0) = true then (some ((none : Option Unit), 72, (⟨(), [], [], false⟩ : journal_Journal), d1 R (jf (s :: l) ++ t) ((jf (s :: l) ++ t).length : Int) false, p)) else (if (decide (x2 < ((jf (s :: l) ++ t).length : Int))) = true then ((vdisk_Disk_Truncate.f k (d1 R (jf (s :: l) ++ t) ((jf (s :: l) ++ t).length : Int) false) (⟨#[106, 111, 117, 114, 110, 97, 108]⟩ : ByteArray) x2 p).bind fun r9 => if (r9.1 != 0) = true then (some ((none : Option Unit), r9.1, (⟨(), [], [], false⟩ : journal_Journal), r9.2.1, r9.2.2)) else (journal_Journal_scan.j1 k r9.2.1.room r9.2.1.used r9.2.1.dead r9.2.1.files r9.2.2 (⟨(), [], [], false⟩ : Jn) x1)) else (journal_Journal_scan.j1 k (d1 R (jf (s :: l) ++ t) ((jf (s :: l) ++ t).length : Int) false).room (d1 R (jf (s :: l) ++ t) ((jf (s :: l) ++ t).length : Int) false).used (d1 R (jf (s :: l) ++ t) ((jf (s :: l) ++ t).length : Int) false).dead (d1 R (jf (s :: l) ++ t) ((jf (s :: l) ++ t).length : Int) false).files p (⟨(), [], [], false⟩ : Jn) x1))) r (fun k x1 x2 => by rw [journal_Journal_scan.l0]) hr
 have hne : ¬ (((s :: l : List (List Int)).length : Int) == 0) = true := by simp; omega
 have hc : decide (0 ≤ 1 ∧ 1 ≤ ((s :: l : List (List Int)).length : Int) ∧ ((s :: l : List (List Int)).length : Int) ≤ ((s :: l : List (List Int)).length : Int)) = true := by rw [decide_eq_true_eq]; simp only [List.length_cons]; omega
 have hj1 : ∀ (Z : VD) (q : Int), Evt (fun k => journal_Journal_scan.j1 k Z.room Z.used Z.dead Z.files q (⟨(), [], [], false⟩ : Jn) (s :: l)) (some (), 0, (⟨(), s, sub (s :: l) 1 ((s :: l).length : Int), false⟩ : Jn), Z, q) := by
  intro Z q
  refine Evt.succ (fun k => by rw [journal_Journal_scan.j1]) ?_
  refine Evt.some_bind (a := s) (by rfl) ?_
  refine Evt.pos hc ?_
  exact .pure _
 by_cases hn : ((jf (s :: l)).length : Int) < ((jf (s :: l) ++ t).length : Int)
 ·have hT := tru1f hp (R := R) (c := jf (s :: l) ++ t) (n := (jf (s :: l)).length) (by rw [hlen]; omega) (by rw [hlen]; omega)
  rw [List.take_left] at hT
  by_cases hp0 : p = 0
  ·rw [bt0 hp _ _ hp0] at hT
   refine ⟨none, 70, _, _, 0, true, go _ (Evt.neg hne (Evt.pos (by simpa using hn) (hT.bind (Evt.pos (by rfl) (.pure _))))), .inl ⟨t, ⟨t1, t2, t3⟩, rfl⟩⟩
  ·rw [bt1 hp _ _ hp0] at hT
   refine ⟨some (), 0, _, _, p - 1, false, go _ (Evt.neg hne (Evt.pos (by simpa using hn) (hT.bind (Evt.neg (by simp) (hj1 _ _))))), .inl ⟨[], torn0, by rw [List.append_nil]⟩⟩
 ·refine ⟨some (), 0, _, _, p, false, go _ (Evt.neg hne (Evt.neg (by simpa using hn) (hj1 _ _))), .inl ⟨t, ⟨t1, t2, t3⟩, rfl⟩⟩
theorem openF1 {R : Int} {s : List Int} {l : List (List Int)} {t : List Int} {p : Int} (hp : 0 ≤ p ∧ p ≤ 10) (hL : Fine (s :: l)) (ht : Torn t) (e0 : Int) :
  ∃ (o : Option Jn) (e : Int) (D' : VD) (q' : Int) (x : Bool), Evt (fun k => journal_Open.j0 k true [] (e0, d1 R (jf (s :: l) ++ t) ((jf (s :: l) ++ t).length : Int) false, p)) (o, e, D', q') ∧ St R (s :: l) x D' := by
 have hj := jf_len hL.1
 have h12 := hL.2
 have t3 := ht.2.2
 have hlen : (jf (s :: l) ++ t).length = (jf (s :: l)).length + t.length := List.length_append
 have hr : Evt (fun k => vdisk_Disk_Read_32.f k (d1 R (jf (s :: l) ++ t) ((jf (s :: l) ++ t).length : Int) false) nm p) (jf (s :: l) ++ t, 0) := by
  have := readP1 (d1 R (jf (s :: l) ++ t) ((jf (s :: l) ++ t).length : Int) false) nm p (by rw [lk_d1]; show (jf (s :: l) ++ t).length ≤ _; omega)
  rw [rd_d1] at this; exact this
 obtain ⟨o, e, J, D', q', x, h1, h2⟩ := scanF (R := R) hp hL ht
 cases o with
 | none =>
  refine ⟨none, e, D', q', x, ?_, h2⟩
  refine Evt.succ (fun k => by rw [journal_Open.j0]) ?_
  refine Evt.pos rfl ?_
  refine Evt.bind hr ?_
  refine Evt.pos (by rfl) (h1.bind ?_)
  exact .pure _
 | some u =>
  refine ⟨some ⟨(), J.snap, J.l, J.stopped⟩, e, D', q', x, ?_, h2⟩
  refine Evt.succ (fun k => by rw [journal_Open.j0]) ?_
  refine Evt.pos rfl ?_
  refine Evt.bind hr ?_
  refine Evt.pos (by rfl) (h1.bind ?_)
  exact .pure _
theorem openF {R : Int} {s : List Int} {l : List (List Int)} {D : VD} {p : Int} (hp : 0 ≤ p ∧ p ≤ 10) (hL : Fine (s :: l)) (h : St R (s :: l) false D) :
  ∃ (o : Option Jn) (e : Int) (D' : VD) (q' : Int) (x : Bool), Evt (fun k => journal_Open.f k D [] p) (o, e, D', q') ∧ St R (s :: l) x D' := by
 have hj := jf_len hL.1
 have h12 := hL.2
 rcases h with ⟨t, ht, rfl⟩ | ⟨g, hg, rfl⟩
 ·obtain ⟨o, e, D', q', x, h1, h2⟩ := openF1 (R := R) hp hL ht 33
  refine ⟨o, e, D', q', x, ?_, h2⟩
  simp only [journal_Open.f]
  exact (rem1f hp).bind (Evt.neg (by simp) h1)
 ·have hR := rem2f hp (R := R) (c := jf (s :: l)) (g := g) (s := ((jf (s :: l)).length : Int)) (q := (g.length : Int)) (by omega)
  by_cases hp0 : p = 0
  ·rw [bt0 hp _ _ hp0] at hR
   refine ⟨none, 70, _, 0, true, ?_, .inr ⟨g, hg, rfl⟩⟩
   simp only [journal_Open.f]
   refine hR.bind (Evt.neg (by simp) ?_)
   refine Evt.succ (fun k => by rw [journal_Open.j0]) ?_
   exact Evt.neg (by simp) (.pure _)
  ·rw [bt1 hp _ _ hp0] at hR
   obtain ⟨o, e, D', q', x, h1, h2⟩ := openF1 (R := R) (p := p - 1) (by omega) hL torn0 0
   rw [List.append_nil] at h1
   refine ⟨o, e, D', q', x, ?_, h2⟩
   simp only [journal_Open.f]
   exact hR.bind (Evt.pos (by rfl) h1)
/-! ### without a fuse -/
theorem scanN {R : Int} {s : List Int} {l : List (List Int)} {t : List Int} (hL : Fine (s :: l)) (ht : Torn t) :
  ∃ (D' : VD), Evt (fun k => journal_Journal_scan_33.f k (⟨(), [], [], false⟩ : Jn) (jf (s :: l) ++ t) (d1 R (jf (s :: l) ++ t) ((jf (s :: l) ++ t).length : Int) false)) (some (), 0, (⟨(), s, l, false⟩ : Jn), D') := by
 have hj := jf_len hL.1
 have h12 := hL.2
 obtain ⟨t1, t2, t3⟩ := ht
 have hlen : (jf (s :: l) ++ t).length = (jf (s :: l)).length + t.length := List.length_append
 have hu : U8s (jf (s :: l) ++ t) := (jf_u8 hL.1).app t2
 have main := fun (T : Nat → List (List Int) → Int → Option ((Option Unit) × Int × journal_Journal × vdisk_Disk)) (r : (Option Unit) × Int × journal_Journal × vdisk_Disk) hS (h : Evt (fun k => T k (s :: l) ((jf (s :: l)).length : Int)) r) =>
  scan_gen (S := fun k x1 x2 => journal_Journal_scan_33.l0 k x1 x2 (⟨(), [], [], false⟩ : Jn) (jf (s :: l) ++ t) (d1 R (jf (s :: l) ++ t) ((jf (s :: l) ++ t).length : Int) false)) (T := T) hu (by rw [hlen]; omega) hS (s :: l) [] t [] r rfl t1 (fun a ha => by have := (hL.1 a ha).2; omega) (by simp) (by simpa using h)
 have go := fun r hr => main (fun k x1 x2 => if ((x1.length : Int) == 0) = true then (some ((none : Option Unit), 72, (⟨(), [], [], false⟩ : journal_Journal), d1 R (jf (s :: l) ++ t) ((jf (s :: l) ++ t).length : Int) false)) else (if (decide (x2 < ((jf (s :: l) ++ t).length : Int))) = true then ((vdisk_Disk_Truncate_44.f k (d1 R (jf (s :: l) ++ t) ((jf (s :: l) ++ t).length : Int) false) (⟨#[106, 111, 117, 114, 110, 97, 108]⟩ : ByteArray) x2).bind fun r9 => if (r9.1 != 0) = true then (some ((none : Option Unit), r9.1, (⟨(), [], [], false⟩ : journal_Journal), r9.2)) else (journal_Journal_scan_33.j1 k r9.2.room r9.2.used r9.2.dead r9.2.files (⟨(), [], [], false⟩ : Jn) x1)) else (journal_Journal_scan_33.j1 k (d1 R (jf (s :: l) ++ t) ((jf (s :: l) ++ t).length : Int) false).room (d1 R (jf (s :: l) ++ t) ((jf (s :: l) ++ t).length : Int) false).used (d1 R (jf (s :: l) ++ t) ((jf (s :: l) ++ t).length : Int) false).dead (d1 R (jf (s :: l) ++ t) ((jf (s :: l) ++ t).length : Int) false).files (⟨(), [], [], false⟩ : Jn) x1))) r (fun k x1 x2 => by rw [journal_Journal_scan_33.l0]) hr
 have hne : ¬ (((s :: l : List (List Int)).length : Int) == 0) = true := by simp; omega
 have hc : decide (0 ≤ 1 ∧ 1 ≤ ((s :: l : List (List Int)).length : Int) ∧ ((s :: l : List (List Int)).length : Int) ≤ ((s :: l : List (List Int)).length : Int)) = true := by rw [decide_eq_true_eq]; simp only [List.length_cons]; omega
 have es : sub (s :: l) 1 ((s :: l).length : Int) = l := by simp [sub]
 have hj1 : ∀ (Z : VD), Evt (fun k => journal_Journal_scan_33.j1 k Z.room Z.used Z.dead Z.files (⟨(), [], [], false⟩ : Jn) (s :: l)) (some (), 0, (⟨(), s, l, false⟩ : Jn), Z) := by
  intro Z
  refine Evt.succ (fun k => by rw [journal_Journal_scan_33.j1]) ?_
  refine Evt.some_bind (a := s) (by rfl) ?_
  refine Evt.pos hc ?_
  rw [es]
  exact .pure _
 by_cases hn : ((jf (s :: l)).length : Int) < ((jf (s :: l) ++ t).length : Int)
 ·have hT : Evt (fun k => vdisk_Disk_Truncate_44.f k (d1 R (jf (s :: l) ++ t) ((jf (s :: l) ++ t).length : Int) false) nm ((jf (s :: l)).length : Int)) (0, d1 R (jf (s :: l)) ((jf (s :: l)).length : Int) false) := by
   have := (truncP0 (d1 R (jf (s :: l) ++ t) ((jf (s :: l) ++ t).length : Int) false) nm ((jf (s :: l)).length : Int)).1
   rw [pT1 none (by rw [hlen]; omega) (by rw [hlen]; omega), List.take_left] at this
   exact this
  exact ⟨_, go _ (Evt.neg hne (Evt.pos (by simpa using hn) (hT.bind (Evt.neg (by simp) (hj1 _)))))⟩
 ·exact ⟨_, go _ (Evt.neg hne (Evt.neg (by simpa using hn) (hj1 _)))⟩
theorem openN1 {R : Int} {s : List Int} {l : List (List Int)} {t : List Int} (hL : Fine (s :: l)) (ht : Torn t) (e0 : Int) :
  ∃ (D' : VD), Evt (fun k => journal_Open_12.j0 k true [] (e0, d1 R (jf (s :: l) ++ t) ((jf (s :: l) ++ t).length : Int) false)) (some (⟨(), s, l, false⟩ : Jn), 0, D') := by
 have hj := jf_len hL.1
 have h12 := hL.2
 have t3 := ht.2.2
 have hlen : (jf (s :: l) ++ t).length = (jf (s :: l)).length + t.length := List.length_append
 have hr : Evt (fun k => vdisk_Disk_Read.f k (d1 R (jf (s :: l) ++ t) ((jf (s :: l) ++ t).length : Int) false) nm) (jf (s :: l) ++ t, 0) := by
  have := readP0 (d1 R (jf (s :: l) ++ t) ((jf (s :: l) ++ t).length : Int) false) nm (by rw [lk_d1]; show (jf (s :: l) ++ t).length ≤ _; omega)
  rw [rd_d1] at this; exact this
 obtain ⟨D', h1⟩ := scanN (R := R) hL ht
 refine ⟨D', ?_⟩
 refine Evt.succ (fun k => by rw [journal_Open_12.j0]) ?_
 refine Evt.pos rfl ?_
 refine Evt.bind hr ?_
 refine Evt.pos (by rfl) (h1.bind ?_)
 exact .pure _
theorem openN {R : Int} {s : List Int} {l : List (List Int)} {D : VD} (hL : Fine (s :: l)) (h : St R (s :: l) false D) :
  ∃ (D' : VD), Evt (fun k => journal_Open_12.f k D []) (some (⟨(), s, l, false⟩ : Jn), 0, D') := by
 have hj := jf_len hL.1
 have h12 := hL.2
 rcases h with ⟨t, ht, rfl⟩ | ⟨g, hg, rfl⟩
 ·obtain ⟨D', h1⟩ := openN1 (R := R) hL ht 33
  refine ⟨D', ?_⟩
  simp only [journal_Open_12.f]
  have hR : Evt (fun k => vdisk_Disk_Remove.f k (d1 R (jf (s :: l) ++ t) ((jf (s :: l) ++ t).length : Int) false) nn) (33, d1 R (jf (s :: l) ++ t) ((jf (s :: l) ++ t).length : Int) false) := by
   have := (remP0 (d1 R (jf (s :: l) ++ t) ((jf (s :: l) ++ t).length : Int) false) nn).1
   rw [pM1 _ _ _ none] at this; exact this
  exact hR.bind (Evt.neg (by simp) h1)
 ·have hR : Evt (fun k => vdisk_Disk_Remove.f k (d2 R (jf (s :: l)) ((jf (s :: l)).length : Int) g (g.length : Int) false) nn) (0, d1 R (jf (s :: l)) ((jf (s :: l)).length : Int) false) := by
   have := (remP0 (d2 R (jf (s :: l)) ((jf (s :: l)).length : Int) g (g.length : Int) false) nn).1
   rw [pM2 none (by omega)] at this; exact this
  obtain ⟨D', h1⟩ := openN1 (R := R) hL torn0 0
  rw [List.append_nil] at h1
  refine ⟨D', ?_⟩
  simp only [journal_Open_12.f]
  exact hR.bind (Evt.pos (by rfl) h1)
end Go.Abs.GenK
