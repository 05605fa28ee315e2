import Derived.Test.YtgeieafnnlmfdaaPlKI
set_option linter.unusedVariables false
set_option linter.unusedSimpArgs false
set_option maxRecDepth 100000
set_option maxHeartbeats 4000000
namespace Go.Abs.GenK
open Go.Abs
def Told (told : Int) (s : List Int) (l : List (List Int)) (snap : List Int) (was : List (List Int)) (thn : List Int) (now : List (List Int)) : Prop :=
 (told = 0 ∧ s = thn ∧ l = now) ∨ (told = 70 ∧ ((s = snap ∧ l = was) ∨ (s = thn ∧ l = now))) ∨ (told = 1 ∧ s = snap ∧ l = was)
def Tx (l : List (List Int)) : Prop := ∀ a ∈ l, U8s a
theorem tl_ev {R : Int} {s : List Int} {l : List (List Int)} {x : Bool} {D : VD} (hL : Fine (s :: l)) (h : St R (s :: l) x D) {told : Int} {snap thn : List Int} {was now : List (List Int)} (u1 : U8s snap) (u2 : U8s thn) (u3 : Tx was) (u4 : Tx now)
  (H : Told told s l snap was thn now) (q : Int) (a6 : List Int) (J1 J2 : Jn) : Evt (fun k => tl k D q now told thn a6 (was, J1) (snap, J2)) true := by
 obtain ⟨D1, hc, hst⟩ := crash_st hL h a6 q
 obtain ⟨D2, hN⟩ := openN hL hst
 have us : U8s s := (hL.1 s (by simp)).1
 have ul : Tx l := fun a ha => (hL.1 a (by simp [ha])).1
 have h12 := hL.2
 rw [List.length_cons] at h12
 have ls : s.length ≤ 1000000000000 := by have := (hL.1 s (by simp)).2; omega
 have ll : ∀ a ∈ l, a.length ≤ 1000000000000 := fun a ha => by have := (hL.1 a (by simp [ha])).2; omega
 have hS : Evt (fun k => journal_Journal_Snapshot.f k (⟨(), s, l, false⟩ : Jn) D2) (s, (⟨(), s, l, false⟩ : Jn)) := snapN_ev _ D2 ls
 have hR : Evt (fun k => journal_Journal_Records.f k (⟨(), s, l, false⟩ : Jn) D2) (l, (⟨(), s, l, false⟩ : Jn)) := recsN_ev _ D2 (by show l.length ≤ _; omega) ll
 have aw := awake_ev.map
 simp only [tl]
 refine hc.bind (hN.bind ?_)
 simp only [optE]
 refine Evt.neg (by simp) (hS.bind ((bEq_ev us u1).bind ?_))
 by_cases h1 : s = snap
 ·refine Evt.pos (by simpa using h1) (hR.bind ((sT_ev ul u3 (by omega)).bind (hS.bind ((bEq_ev us u2).bind ?_))))
  by_cases h3 : s = thn
  ·refine Evt.pos (by simpa using h3) (hR.bind ((sT_ev ul u4 (by omega)).bind ?_))
   rcases H with ⟨rfl, _, e2⟩ | ⟨rfl, H⟩ | ⟨rfl, _, e2⟩
   ·exact Evt.pos (by rfl) (Evt.pos (by simpa using e2) aw)
   ·refine Evt.neg (by decide) (Evt.pos (by rfl) ?_)
    by_cases h2 : l = was
    ·exact Evt.pos (by simpa using h2) aw
    ·refine Evt.neg (by simpa using h2) (Evt.pos ?_ aw)
     rcases H with ⟨_, e⟩ | ⟨_, e⟩
     ·exact absurd e h2
     ·simpa using e
   ·exact Evt.neg (by decide) (Evt.neg (by decide) (Evt.pos (by simpa using e2) aw))
  ·refine Evt.neg (by simpa using h3) ?_
   rcases H with ⟨rfl, e1, e2⟩ | ⟨rfl, H⟩ | ⟨rfl, _, e2⟩
   ·exact absurd e1 h3
   ·refine Evt.neg (by decide) (Evt.pos (by rfl) (Evt.pos ?_ aw))
    rcases H with ⟨_, e⟩ | ⟨e, _⟩
    ·simpa using e
    ·exact absurd e h3
   ·exact Evt.neg (by decide) (Evt.neg (by decide) (Evt.pos (by simpa using e2) aw))
 ·refine Evt.neg (by simpa using h1) (hS.bind ((bEq_ev us u2).bind ?_))
  by_cases h3 : s = thn
  ·refine Evt.pos (by simpa using h3) (hR.bind ((sT_ev ul u4 (by omega)).bind ?_))
   rcases H with ⟨rfl, e1, e2⟩ | ⟨rfl, H⟩ | ⟨rfl, e1, e2⟩
   ·exact Evt.pos (by rfl) (Evt.pos (by simpa using e2) aw)
   ·refine Evt.neg (by decide) (Evt.pos (by rfl) (Evt.pos ?_ aw))
    rcases H with ⟨e, _⟩ | ⟨_, e⟩
    ·exact absurd e h1
    ·simpa using e
   ·exact absurd e1 h1
  ·exfalso
   rcases H with ⟨_, e1, _⟩ | ⟨_, H⟩ | ⟨_, e1, _⟩
   ·exact h3 e1
   ·rcases H with ⟨e, _⟩ | ⟨e, _⟩
    ·exact h1 e
    ·exact h3 e
   ·exact h1 e1
theorem fuse_ev (D : VD) {p : Int} (h : 0 ≤ p) : Evt (fun k => vdisk_Disk_Fuse.f k D p) (0, D, p) := by
 simp only [vdisk_Disk_Fuse.f, vdisk_Disk_none.f, Option.bind_some]
 exact Evt.neg (by rw [decide_eq_true_eq]; omega) (.pure _)
theorem mod_small (a : Int) (n : Int) (hn : 0 < n ∧ n ≤ 10) : 0 ≤ IntKind.i64.wrap (Int.tmod (IntKind.u64.wrap a) n) ∧ IntKind.i64.wrap (Int.tmod (IntKind.u64.wrap a) n) ≤ 10 := by
 rw [wrap_u64, Int.tmod_eq_emod_of_nonneg (by omega)]
 have h1 := Int.emod_nonneg (a % 18446744073709551616) (b := n) (by omega)
 have h2 := Int.emod_lt_of_pos (a % 18446744073709551616) hn.1
 rw [wrap_i64 (by omega) (by omega)]
 omega
theorem j1_ev {R : Int} {s : List Int} {l : List (List Int)} {D D1 : VD} {q : Int} {told : Int} {snap thn : List Int} {was now : List (List Int)} {a4 : List Int} (hc : Evt (fun k => vdisk_Disk_Crash_16.f k D q a4) (0, D1)) (hst : St R (s :: l) false D1) (hL : Fine (s :: l)) (u1 : U8s snap) (u2 : U8s thn) (u3 : Tx was) (u4 : Tx now)
  (H : Told told s l snap was thn now) (a5 : Int) (a6 : List Int) (J1 J2 : Jn) : Evt (fun k => dossierlaw04_JournalCrashes.j1 k D.room D.used D.dead now D.files q told thn a4 a5 a6 (was, J1) (snap, J2)) true := by
 have hp := mod_small a5 4 (by omega)
 obtain ⟨o, e, D2, q2, x, hF, hst2⟩ := openF hp hL hst
 refine Evt.succ (fun k => j1_eq k _ _ _ _ _ _ _ _ _ _ _ _ _) ?_
 refine Evt.bind hc (Evt.bind (fuse_ev D1 hp.1) (Evt.bind hF ?_))
 have ht := tl_ev hL hst2 u1 u2 u3 u4 H q2 a6 J1 J2
 cases o with
 | none => exact ht
 | some y => exact ht
theorem take_ev (v : List Int) : sub v 0 (if 700 < (v.length : Int) then 700 else (v.length : Int)) = v.take 700 := by
 split
 ·exact sub_take v 700
 ·rw [sub_take, List.take_of_length_le (Nat.le_refl _), List.take_of_length_le (by omega)]
theorem take_ok (v : List Int) : decide (0 ≤ 0 ∧ 0 ≤ (if 700 < (v.length : Int) then 700 else (v.length : Int)) ∧ (if 700 < (v.length : Int) then 700 else (v.length : Int)) ≤ (v.length : Int)) = true := by
 rw [decide_eq_true_eq]; split <;> omega
def Ok8 (l : List (List Int)) : Prop := (∀ a ∈ l, U8s a ∧ a.length ≤ 700) ∧ l.length ≤ 8
theorem u115 : U8s [115] := fun x hx => by rw [List.mem_singleton] at hx; omega
theorem Ok8.fine {l : List (List Int)} (h : Ok8 l) : Fine ([115] :: l) := ⟨fun a ha => by
 rcases List.mem_cons.mp ha with rfl | ha
 ·exact ⟨u115, by simp⟩
 ·exact h.1 a ha, by have := h.2; rw [List.length_cons]; omega⟩
theorem Ok8.more {l : List (List Int)} (h : Ok8 l) {b : List Int} (ub : U8s b) (lb : b.length ≤ 700) : Fine ([115] :: (l ++ [b])) := ⟨fun a ha => by
 rcases List.mem_cons.mp ha with rfl | ha
 ·exact ⟨u115, by simp⟩
 ·rcases List.mem_append.mp ha with ha | ha
  ·exact h.1 a ha
  ·rw [List.mem_singleton] at ha; subst ha; exact ⟨ub, lb⟩, by have := h.2; simp only [List.length_cons, List.length_append, List.length_nil]; omega⟩
theorem jf_more (l : List (List Int)) (b : List Int) : jf ([115] :: (l ++ [b])) = jf ([115] :: l) ++ frm b := by rw [← List.cons_append, jf_app, jf_one]
theorem Ok8.fits {l : List (List Int)} (h : Ok8 l) {b : List Int} (lb : b.length ≤ 700) : fits 1048576 (jf ([115] :: l)) b := by
 have := jf_len h.fine.1
 have h8 := h.2
 rw [List.length_cons] at this
 constructor <;> omega
abbrev R0 : Int := 1048576
theorem same_ev {l : List (List Int)} (hl : Ok8 l) {b : List Int} (ub : U8s b) (lb : b.length ≤ 700) (a4 : List Int) (a5 : Int) (a6 : List Int) (J1 J2 : Jn) (x : Bool) (q told : Int) (now : List (List Int)) (thn : List Int) (u2 : U8s thn) (u4 : Tx now) (ht : told = 70 ∨ told = 1) :
  Evt (fun k => dossierlaw04_JournalCrashes.j1 k (d1 R0 (jf ([115] :: l)) ((jf ([115] :: l)).length : Int) x).room (d1 R0 (jf ([115] :: l)) ((jf ([115] :: l)).length : Int) x).used (d1 R0 (jf ([115] :: l)) ((jf ([115] :: l)).length : Int) x).dead now (d1 R0 (jf ([115] :: l)) ((jf ([115] :: l)).length : Int) x).files q told thn a4 a5 a6 (l, J1) ([115], J2)) true := by
 have hst : St R0 ([115] :: l) x (d1 R0 (jf ([115] :: l)) ((jf ([115] :: l)).length : Int) x) := .inl ⟨[], torn0, by rw [List.append_nil]⟩
 obtain ⟨D1, hc, hst1⟩ := crash_st hl.fine hst a4 q
 refine j1_ev hc hst1 hl.fine u115 u2 (fun a ha => (hl.1 a ha).1) u4 ?_ a5 a6 J1 J2
 rcases ht with rfl | rfl
 ·exact .inr (.inl ⟨rfl, .inl ⟨rfl, rfl⟩⟩)
 ·exact .inr (.inr ⟨rfl, rfl, rfl⟩)
theorem wasU {l : List (List Int)} (hl : Ok8 l) {b : List Int} (ub : U8s b) (lb : b.length ≤ 700) : Tx l := fun a ha => (hl.1 a ha).1
section
variable {l : List (List Int)} (hl : Ok8 l) {b : List Int} (ub : U8s b) (lb : b.length ≤ 700) (a4 : List Int) (a5 : Int) (a6 : List Int) (J1 J2 : Jn)
include hl ub lb
theorem nowU : Tx (l ++ [b]) := fun a ha => by
 rcases List.mem_append.mp ha with ha | ha
 ·exact (hl.1 a ha).1
 ·rw [List.mem_singleton] at ha; subst ha; exact ub
theorem app_ev (p : Int) (hp : 0 ≤ p ∧ p ≤ 10) (hb : 0 < b.length) {β : Type} (F : Nat → Int × Jn × VD × Int → Option Bool) (hF : ∀ told J D q, Evt (fun k => dossierlaw04_JournalCrashes.j1 k D.room D.used D.dead (l ++ [b]) D.files q told [115] a4 a5 a6 (l, J1) ([115], J2)) true → Evt (fun k => F k (told, J, D, q)) true) :
  Evt (fun k => (journal_Journal_Append_fresh_7xx.f k (⟨(), [115], l, false⟩ : Jn) b (d1 R0 (jf ([115] :: l)) ((jf ([115] :: l)).length : Int) false) p).bind (F k)) true := by
 have h8 := hl.2
 have hj := jf_len hl.fine.1
 rw [List.length_cons] at hj
 have hfl := frm_len b
 obtain ⟨told, J', D', q, h1, h2⟩ := appendF_ev hp (snap := [115]) (l := l) (hl.fits lb) hb (by omega)
 refine h1.bind (hF _ _ _ _ ?_)
 have us := u115
 rcases h2 with ⟨rfl, rfl⟩ | ⟨rfl, rfl | rfl⟩
 ·rw [← jf_more]
  have hst : St R0 ([115] :: (l ++ [b])) false (d1 R0 (jf ([115] :: (l ++ [b]))) ((jf ([115] :: (l ++ [b]))).length : Int) false) := .inl ⟨[], torn0, by rw [List.append_nil]⟩
  obtain ⟨D1, hc, hst1⟩ := crash_st (hl.more ub lb) hst a4 q
  exact j1_ev hc hst1 (hl.more ub lb) us us (wasU hl ub lb) (nowU hl ub lb) (.inl ⟨rfl, rfl, rfl⟩) a5 a6 J1 J2
 ·exact same_ev hl ub lb a4 a5 a6 J1 J2 true q 70 _ _ us (nowU hl ub lb) (.inl rfl)
 ·have hlen : (jf ([115] :: l) ++ frm b).length = (jf ([115] :: l)).length + (8 + b.length) := by rw [List.length_append, hfl]
  obtain ⟨n, n1, n2, hc⟩ := crash1 (R := R0) (c := jf ([115] :: l) ++ frm b) (s := ((jf ([115] :: l)).length : Int)) (x := true) a4 q (by rw [hlen]; omega) (by rw [hlen]; omega)
  rw [hlen] at n2
  obtain ⟨m, rfl⟩ : ∃ m, n = (jf ([115] :: l)).length + m := ⟨n - (jf ([115] :: l)).length, by omega⟩
  rw [List.take_length_add_append] at hc
  by_cases hm : m < 8 + b.length
  ·refine j1_ev hc (.inl ⟨(frm b).take m, ⟨nx_torn b m (by omega) hm, fun x hx => frm_u8 ub x (List.mem_of_mem_take hx), by rw [List.length_take]; omega⟩, rfl⟩) hl.fine us us (wasU hl ub lb) (nowU hl ub lb) (.inr (.inl ⟨rfl, .inl ⟨rfl, rfl⟩⟩)) a5 a6 J1 J2
  ·rw [List.take_of_length_le (by omega)] at hc
   exact j1_ev hc (.inl ⟨[], torn0, by rw [List.append_nil, jf_more]⟩) (hl.more ub lb) us us (wasU hl ub lb) (nowU hl ub lb) (.inr (.inl ⟨rfl, .inr ⟨rfl, rfl⟩⟩)) a5 a6 J1 J2
theorem com_ev (p : Int) (hp : 0 ≤ p ∧ p ≤ 10) (F : Nat → Int × Jn × VD × Int → Option Bool) (hF : ∀ told J D q, Evt (fun k => dossierlaw04_JournalCrashes.j1 k D.room D.used D.dead ([] : List (List Int)) D.files q told b a4 a5 a6 (l, J1) ([115], J2)) true → Evt (fun k => F k (told, J, D, q)) true) :
  Evt (fun k => (journal_Journal_Compact_fresh_8.f k (⟨(), [115], l, false⟩ : Jn) b (d1 R0 (jf ([115] :: l)) ((jf ([115] :: l)).length : Int) false) p).bind (F k)) true := by
 have h8 := hl.2
 have hj := jf_len hl.fine.1
 rw [List.length_cons] at hj
 have hfl := frm_len b
 have nu : Tx [] := fun a ha => by cases ha
 have fb : Fine [b] := ⟨fun a ha => by rw [List.mem_singleton] at ha; subst ha; exact ⟨ub, lb⟩, by simp⟩
 obtain ⟨told, J', D', q, h1, h2⟩ := compactF_ev hp (snap := [115]) (l := l) (hl.fits lb)
 refine h1.bind (hF _ _ _ _ ?_)
 have us := u115
 rcases h2 with ⟨rfl, rfl⟩ | ⟨rfl, rfl | ⟨n, n1, rfl⟩⟩
 ·rw [← jf_one]
  have hst : St R0 [b] false (d1 R0 (jf [b]) ((jf [b]).length : Int) false) := .inl ⟨[], torn0, by rw [List.append_nil]⟩
  obtain ⟨D1, hc, hst1⟩ := crash_st fb hst a4 q
  exact j1_ev hc hst1 fb us ub (wasU hl ub lb) nu (.inl ⟨rfl, rfl, rfl⟩) a5 a6 J1 J2
 ·exact same_ev hl ub lb a4 a5 a6 J1 J2 true q 70 _ _ ub nu (.inl rfl)
 ·obtain ⟨n', m, ⟨i1, i2⟩, ⟨i3, i4⟩, hc⟩ := crash2 (R := R0) (c := jf ([115] :: l)) (g := frm b) (s := ((jf ([115] :: l)).length : Int)) (q := (n : Int)) (x := true) a4 q (by omega) (by omega) (by omega)
  have : n' = (jf ([115] :: l)).length := by omega
  subst this
  rw [List.take_length] at hc
  exact j1_ev hc (.inr ⟨(frm b).take m, by rw [List.length_take]; omega, rfl⟩) hl.fine us ub (wasU hl ub lb) nu (.inr (.inl ⟨rfl, .inl ⟨rfl, rfl⟩⟩)) a5 a6 J1 J2
end
end Go.Abs.GenK
