import Derived.Test.YtdpakmmkponfmaaGenZg
import Derived.Test.YtdpakmmkponfmaaPlZM
set_option linter.unusedVariables false
set_option linter.unusedSimpArgs false
set_option maxRecDepth 100000
set_option maxHeartbeats 4000000
namespace Go.Abs.GenZ
open Go.Abs
variable {N : Nat} {D : VD} {Y : RD}
abbrev Pr := dossierlaw04_pair
abbrev Dos := dossierlaw04_Do
structure DOk (s : Dos) : Prop where
 b : s.B.length ≤ 1000000000000
 u : U8s s.B
 st : SOk s.Step
theorem popen_ev (h : Rl N D Y) (hN : N ≤ 10000000) (P : Pr) (first : List Int) (hu : U8s first) (hf : first.length ≤ 1000000000000) :
  ∃ P' D' Y', Evt (fun k => dossierlaw04_pair_open_6.f k P first D Y) (true, P', D', Y') ∧ PairR 0 P'.j P'.x ∧ Rl (N + 4) D' Y' := by
 obtain ⟨a, b, e, D', Y', p1, q1, g1, g2⟩ := open_both h hN first hu hf
 simp only [dossierlaw04_pair_open_6.f]
 match a, b, g1 with
 | none, none, g1 =>
  refine ⟨⟨none, none, (), ()⟩, D', Y', p1.bind ?_, g1, g2⟩
  show Evt (fun k => (dossierref04_Open_11.f k Y first).bind _) _
  refine q1.bind ?_
  show Evt (fun k => some ((e == e), _, D', Y')) _
  simpa using Evt.pure _
 | some a, some b, g1 =>
  refine ⟨⟨some a, some b, (), ()⟩, D', Y', p1.bind ?_, g1, g2⟩
  show Evt (fun k => (dossierref04_Open_11.f k Y first).bind _) _
  refine q1.bind ?_
  show Evt (fun k => some ((e == e), _, D', Y')) _
  simpa using Evt.pure _
theorem recs_suf (j : Jn) (hl : j.l.length ≤ 1000000000000) (hx : ∀ x ∈ j.l, x.length ≤ 1000000000000) : ∀ suf pre, j.l = pre ++ suf → Evt (fun k => journal_Journal_Records.l0 k pre (pre.length : Int) j) j.l
 | [], pre, h => by
  have hp : j.l = pre := by rw [h, List.append_nil]
  refine Evt.succ (fun k => by rw [journal_Journal_Records.l0]) ?_
  refine Evt.neg (by simp [hp]) ?_
  rw [← hp]; exact .pure _
 | g :: t, pre, h => by
  have hv : j.l[pre.length]? = some g := by rw [h]; simp
  have hlt : pre.length < j.l.length := by rw [h]; simp
  have hg : g ∈ j.l := by rw [h]; simp
  have ih := recs_suf j hl hx t (pre ++ [g]) (by rw [h]; simp)
  refine Evt.succ (fun k => by rw [journal_Journal_Records.l0]) ?_
  refine Evt.pos (by simpa using hlt) ?_
  refine Evt.some_bind (a := g) (by rw [rd_nat]; exact hv) ?_
  refine (bclone_ev g (by have := hx g hg; omega)).bind ?_
  refine Evt.pos (by rw [decide_eq_true_eq]; simp only [List.length_cons, List.length_nil]; omega) ?_
  rw [wrap_nat (by omega)]
  rw [List.length_append] at ih
  exact ih
theorem recs_ev (j : Jn) (hl : j.l.length ≤ 1000000000000) (hx : ∀ x ∈ j.l, x.length ≤ 1000000000000) : Evt (fun k => journal_Journal_Records.f k j D) j.l := by
 simp only [journal_Journal_Records.f, journal_Journal_none.f, Option.bind_some]
 exact recs_suf j hl hx j.l [] rfl
theorem eqF_suf (l : List (List Int)) (hl : l.length < 9223372036854775807) : ∀ suf pre, l = pre ++ suf → Evt (fun k => slices_EqualFunc_byte__byte__byte__byte.l0 k (pre.length : Int) l l) true
 | [], pre, h => Evt.succ (fun k => by rw [slices_EqualFunc_byte__byte__byte__byte.l0]) (Evt.neg (by rw [h]; simp) (.pure _))
 | g :: t, pre, h => by
  have hv : l[pre.length]? = some g := by rw [h]; simp
  have hlt : pre.length < l.length := by rw [h]; simp
  have ih := eqF_suf l hl t (pre ++ [g]) (by rw [h]; simp)
  refine Evt.succ (fun k => by rw [slices_EqualFunc_byte__byte__byte__byte.l0]) ?_
  refine Evt.pos (by simpa using hlt) ?_
  refine Evt.some_bind (a := g) (by rw [rd_nat]; exact hv) ?_
  refine Evt.some_bind (a := g) (by rw [rd_nat]; exact hv) ?_
  refine (bytesEq_ev g).bind (Evt.pos rfl ?_)
  rw [wrap_nat (by omega)]
  rw [List.length_append] at ih
  exact ih
theorem sameT_ev (l : List (List Int)) (hl : l.length < 9223372036854775807) : Evt (fun k => dossierplain_SameTexts.f k l l) true := by
 simp only [dossierplain_SameTexts.f, slices_EqualFunc_byte__byte__byte__byte.f]
 refine Evt.bind (a := true) ?_ (.pure _)
 exact Evt.neg (by simp) (eqF_suf l hl l [] rfl)
theorem psame_ev (h : Rl N D Y) (hN : N ≤ 1000000000) {M : Nat} (hM : M ≤ 1000000) (P : Pr) (hP : PairR M P.j P.x) :
  ∃ P', Evt (fun k => dossierlaw04_pair_same.f k P D Y) (true, P') ∧ P'.j = P.j ∧ P'.x = P.x := by
 obtain ⟨j, x, u, v⟩ := P
 simp only [dossierlaw04_pair_same.f]
 match j, x, hP with
 | none, none, _ =>
  exact ⟨⟨none, none, (), ()⟩, (sameP h.1 hN).bind (Evt.pos rfl (Evt.pos (by rfl) (Evt.neg (by decide) (Evt.neg (by decide) (.pure _))))), rfl, rfl⟩
 | some a, some b, ⟨ha, l1, l2, l3⟩ =>
  subst ha
  have hsn : Evt (fun k => journal_Journal_Snapshot.f k (jn b) D) b.Snap := by
   simp only [journal_Journal_Snapshot.f, journal_Journal_none.f, Option.bind_some]
   exact (bclone_ev b.Snap (by omega)).bind (.pure _)
  refine ⟨⟨some (jn b), some b, (), ()⟩, (sameP h.1 hN).bind (Evt.pos rfl (Evt.pos (by rfl) (Evt.pos (by rfl) (Evt.pos (by rfl) ?_)))), rfl, rfl⟩
  show Evt (fun k => (journal_Journal_Snapshot.f k (jn b) D).bind _) _
  refine hsn.bind ((bytesEq_ev b.Snap).bind (Evt.pos rfl ?_))
  show Evt (fun k => (journal_Journal_Records.f k (jn b) D).bind _) _
  refine (recs_ev (jn b) (by show b.L.length ≤ _; omega) l3).bind ((sameT_ev b.L (by omega)).bind (Evt.pos rfl ?_))
  show Evt (fun k => some ((b.Stop == b.Stop), (⟨some (jn b), some b, (), ()⟩ : Pr))) _
  simpa using Evt.pure _
theorem pdoes_ev (h : Rl N D Y) (hN : N ≤ 1000000) {M : Nat} (hM : M ≤ 1000000) (P : Pr) (hP : PairR M P.j P.x) (s : Dos) (hs : DOk s) :
  ∃ P' D' Y', Evt (fun k => dossierlaw04_pair_does_7.f k P s D Y) (true, P', D', Y') ∧ PairR (M + 1) P'.j P'.x ∧ Rl (N + 4) D' Y' := by
 simp only [dossierlaw04_pair_does_7.f]
 by_cases c4 : (IntKind.i64.wrap (Int.tmod (IntKind.u64.wrap s.Op) 6) == 4) = true
 ·obtain ⟨D', Y', p1, p2⟩ := doP h.1 h.2 (by omega) s.Step hs.st
  exact ⟨P, D', Y', Evt.pos c4 (p1.bind (.pure _)), hP.up (by omega), p2.mono (by omega)⟩
 by_cases c5 : (IntKind.i64.wrap (Int.tmod (IntKind.u64.wrap s.Op) 6) == 5) = true
 ·obtain ⟨P', D', Y', p1, p2, p3⟩ := popen_ev h (by omega) P s.B hs.u hs.b
  exact ⟨P', D', Y', Evt.neg c4 (Evt.pos c5 (p1.bind (.pure _))), p2.up (by omega), p3⟩
 obtain ⟨j, x, u, v⟩ := P
 match j, x, hP with
 | none, none, hP => exact ⟨⟨none, none, (), ()⟩, D, Y, Evt.neg c4 (Evt.neg c5 (Evt.neg (by simp) (.pure _))), trivial, h.mono (by omega)⟩
 | some a, some b, hP =>
  obtain ⟨ha, l1, l2, l3⟩ := hP
  subst ha
  have hP : PairR M (some (jn b)) (some b) := ⟨rfl, l1, l2, l3⟩
  by_cases c3 : (IntKind.i64.wrap (Int.tmod (IntKind.u64.wrap s.Op) 6) == 3) = true
  ·obtain ⟨e, a', b', D', Y', p1, q1, g1, g2⟩ := compact_both h (by omega) b hP s.B hs.u hs.b
   refine ⟨⟨some a', some b', (), ()⟩, D', Y', Evt.neg c4 (Evt.neg c5 (Evt.pos (by rfl) (Evt.pos c3 (Evt.pos (by rfl) ?_)))), g1.up (by omega), g2.mono (by omega)⟩
   show Evt (fun k => (journal_Journal_Compact_13.f k (jn b) s.B D).bind _) _
   refine p1.bind ?_
   show Evt (fun k => (dossierref04_Journal_Compact_14.f k b s.B Y).bind _) _
   refine q1.bind ?_
   show Evt (fun k => some ((e == e), (⟨some a', some b', (), ()⟩ : Pr), D', Y')) _
   simpa using Evt.pure _
  ·obtain ⟨e, a', b', D', Y', p1, q1, g1, g2⟩ := append_both h (by omega) hM b hP s.B hs.u hs.b
   refine ⟨⟨some a', some b', (), ()⟩, D', Y', Evt.neg c4 (Evt.neg c5 (Evt.pos (by rfl) (Evt.neg c3 (Evt.pos (by rfl) ?_)))), g1, g2.mono (by omega)⟩
   show Evt (fun k => (journal_Journal_Append_15.f k (jn b) s.B D).bind _) _
   refine p1.bind ?_
   show Evt (fun k => (dossierref04_Journal_Append_16.f k b s.B Y).bind _) _
   refine q1.bind ?_
   show Evt (fun k => some ((e == e), (⟨some a', some b', (), ()⟩ : Pr), D', Y')) _
   simpa using Evt.pure _
/-! ### awake -/
theorem nn_nm : nn ≠ nm := by decide
theorem a1 (b : List Int) (hb : b.length = 9) : rAppend (⟨[], 100, -1, false⟩ : RD) nn b = (0, ⟨[⟨nn, b, 0⟩], 100, -1, false⟩) := by
 simp [rAppend, brn, old, fnd, ins, usum, hb, show nb nn = true from rfl]
theorem a2 (b : List Int) (hb : b.length = 9) : rSync (⟨[⟨nn, b, 0⟩], 100, -1, false⟩ : RD) nn = (0, ⟨[⟨nn, b, 9⟩], 100, -1, false⟩) := by
 simp [rSync, aft, chR, thr, brn, old, fnd, ins, kl, hb]
theorem a3 (b : List Int) (hb : b.length = 9) : rRename (⟨[⟨nn, b, 9⟩], 100, -1, false⟩ : RD) nn nm = (0, ⟨[⟨nm, b, 9⟩], 100, -1, false⟩) := by
 simp [rRename, aft, chR, thr, brn, old, fnd, ins, del, kl_irrefl, hb, show nb nm = true from rfl, nn_nm]
theorem a4 (b c : List Int) (hb : b.length = 9) (hc : c.length = 9) : rAppend (⟨[⟨nm, b, 9⟩], 100, -1, false⟩ : RD) nm c = (0, ⟨[⟨nm, b ++ c, 9⟩], 100, -1, false⟩) := by
 simp [rAppend, brn, old, fnd, ins, usum, kl, hb, hc, show nb nm = true from rfl]
theorem a5 (b : List Int) (q : Int) : (rSync (⟨[⟨nm, b, q⟩], 100, -1, false⟩ : RD) nm).1 = 0 := by
 simp [rSync, aft, chR, thr, brn, old, fnd, ins, kl]
theorem nine (x : Int) (h : 0 ≤ x ∧ x < 256) : U8s (frm [x]) := frm_u8 (U8s.cons h.1 h.2 U8s.nil)
theorem awake_ev : Evt (fun k => dossierlaw04_awake.f k) true := by
 have h0 : Rl 0 (⟨[], 100, 0, none, false⟩ : VD) (⟨[], 100, -1, false⟩ : RD) := ⟨rel_new 100 (by omega), fun f hf => by cases hf⟩
 have e1 : ∀ k, vdisk_New.f k 100 = some ((⟨[], 100, 0, none, false⟩ : VD), 0) := fun k => rfl
 obtain ⟨D1, p1, _, h1⟩ := rem_both h0 (by omega) nn
 have r1 : rRemove (⟨[], 100, -1, false⟩ : RD) nn = (33, ⟨[], 100, -1, false⟩) := rfl
 rw [r1] at p1 h1
 have hr : Evt (fun k => vdisk_Disk_Read.f k D1 nm) ([], 33) := by
  have := readP h1.1 nm
  rw [rd_eq h1.1] at this
  exact this
 obtain ⟨D2, p2, _, h2⟩ := app_both h1 (by omega) nn (nine 115 (by omega)) (by rw [frm_len]; simp)
 rw [a1 _ (by rw [frm_len]; rfl)] at p2 h2
 obtain ⟨D3, p3, _, h3⟩ := sync_both h2 (by omega) nn
 rw [a2 _ (by rw [frm_len]; rfl)] at p3 h3
 obtain ⟨D4, p4, _, h4⟩ := ren_both h3 (by omega) nn nm
 rw [a3 _ (by rw [frm_len]; rfl)] at p4 h4
 obtain ⟨D5, p5, _, h5⟩ := app_both h4 (by omega) nm (nine 97 (by omega)) (by rw [frm_len]; simp)
 rw [a4 _ _ (by rw [frm_len]; rfl) (by rw [frm_len]; rfl)] at p5 h5
 obtain ⟨D6, p6, _, h6⟩ := sync_both h5 (by omega) nm
 rw [a5] at p6
 have hrep : Evt (fun k => journal_replace.f k D1 [115]) (0, D4) := by
  simp only [journal_replace.f]
  refine (frameP_ev [115] (by simp)).bind (p2.bind (Evt.pos (by rfl) (p3.bind (Evt.pos (by rfl) (p4.bind ?_)))))
  exact .pure _
 have hop : Evt (fun k => journal_Open.f k (⟨[], 100, 0, none, false⟩ : VD) [115]) (some (⟨(), [115], [], false⟩ : Jn), 0, D4) := by
  simp only [journal_Open.f]
  refine p1.bind (Evt.neg (by simp) ?_)
  refine Evt.succ (fun k => by rw [journal_Open.j0]) ?_
  refine Evt.pos (by rfl) ?_
  refine Evt.bind hr ?_
  refine Evt.neg (by decide) (Evt.neg (by decide) (Evt.neg (by decide) (hrep.bind (Evt.neg (by simp) ?_))))
  exact (bclone_ev [115] (by simp)).bind (.pure _)
 have happ : Evt (fun k => journal_Journal_Append_15.f k (⟨(), [115], [], false⟩ : Jn) [97] D4) (0, (⟨(), [115], [[97]], false⟩ : Jn), D6) := by
  simp only [journal_Journal_Append_15.f]
  refine Evt.pos (by rfl) ?_
  refine Evt.bind (a := 0) ⟨0, fun k _ => rfl⟩ ?_
  refine Evt.neg (by decide) ?_
  refine (frameP_ev [97] (by simp)).bind (p5.bind ?_)
  refine Evt.neg (by simp) (Evt.pos (by rfl) (p6.bind ?_))
  refine Evt.succ (fun k => by rw [journal_Journal_Append_15.j0]) ?_
  refine Evt.neg (by simp) ?_
  refine (bclone_ev [97] (by simp)).bind ?_
  refine Evt.pos (by rfl) ?_
  exact .pure _
 simp only [dossierlaw04_awake.f, e1, Option.bind_some]
 refine Evt.neg (by decide) (hop.bind ?_)
 show Evt (fun k => if ((0 : Int) == 0) = true then _ else _) true
 refine Evt.pos (by rfl) (happ.bind (Evt.pos (by rfl) ?_))
 have hrec := recs_ev (D := D6) (⟨(), [115], [[97]], false⟩ : Jn) (by simp) (by intro x hx; simp at hx; subst hx; simp)
 have hsn : Evt (fun k => journal_Journal_Snapshot.f k (⟨(), [115], [[97]], false⟩ : Jn) D6) [115] := by
  simp only [journal_Journal_Snapshot.f, journal_Journal_none.f, Option.bind_some]
  exact (bclone_ev [115] (by simp)).bind (.pure _)
 refine hrec.bind (Evt.pos (by rfl) (hsn.bind ?_))
 have hb : ((ofNums [115]).toList == (⟨#[115]⟩ : ByteArray).toList) = true := by rw [toList_beq]; decide
 rw [hb]; exact .pure _
/-! ### the law -/
theorem loop_ev (l : List Dos) (hl : l.length < 9223372036854775807) (hs : ∀ s ∈ l, DOk s) : ∀ n i (P : Pr) (D : VD) (Y : RD), l.length - i = n → i ≤ l.length → (i ≤ 20 → Rl (4 * i + 4) D Y ∧ PairR i P.j P.x) →
  Evt (fun k => dossierlaw04_JournalLives.l0 k P.j P.x D.fuse D.room D.used D.dead Y.Most Y.Burns Y.Off D.files Y.L (i : Int) l) true
 | 0, i, P, D, Y, hn, hi, _ => by
  refine Evt.succ (fun k => by rw [dossierlaw04_JournalLives.l0]) (Evt.neg (by rw [decide_eq_true_eq]; omega) ?_)
  exact awake_ev.bind (.pure _)
 | n + 1, i, P, D, Y, hn, hi, hR => by
  have hlt : i < l.length := by omega
  refine Evt.succ (fun k => by rw [dossierlaw04_JournalLives.l0]) (Evt.pos (by rw [decide_eq_true_eq]; omega) (Evt.some_bind (rd_lt hlt) ?_))
  by_cases h20 : i < 20
  ·obtain ⟨h1, h2⟩ := hR (by omega)
   obtain ⟨P', D', Y', d1, d2, d3⟩ := pdoes_ev h1 (by omega) (by omega) P h2 l[i] (hs _ (List.getElem_mem hlt))
   obtain ⟨P2, s1, s2, s3⟩ := psame_ev d3 (by omega) (by omega) P' d2
   have ih := loop_ev l hl hs n (i + 1) P2 D' Y' (by omega) (by omega) (fun _ => ⟨d3.mono (by omega), by rw [s2, s3]; exact d2⟩)
   refine Evt.pos (by rw [decide_eq_true_eq]; omega) (d1.bind (Evt.pos rfl (s1.bind (Evt.pos rfl ?_))))
   rw [wrap_nat (by omega)]
   exact ih
  ·have ih := loop_ev l hl hs n (i + 1) P D Y (by omega) (by omega) (fun h => by omega)
   refine Evt.neg (by rw [decide_eq_true_eq]; omega) ?_
   rw [wrap_nat (by omega)]
   exact ih
theorem lives_true (room : Int) (first : List Int) (l : List Dos) (hu : U8s first) (hf : first.length ≤ 1000000000000) (hl : l.length < 9223372036854775807) (hs : ∀ s ∈ l, DOk s) :
  ∃ k, dossierlaw04_JournalLives.f k room first l = some true := by
 apply Evt.get
 simp only [dossierlaw04_JournalLives.f]
 have hm : 0 ≤ IntKind.i64.wrap (Int.tmod (IntKind.u64.wrap room) 2000) ∧ IntKind.i64.wrap (Int.tmod (IntKind.u64.wrap room) 2000) < 2000 := by
  rw [wrap_u64]
  have h : 0 ≤ room % 18446744073709551616 := by omega
  have e : Int.tmod (room % 18446744073709551616) 2000 = (room % 18446744073709551616) % 2000 := Int.tmod_eq_emod_of_nonneg h
  rw [e, wrap_i64 (by omega) (by omega)]
  omega
 generalize IntKind.i64.wrap (Int.tmod (IntKind.u64.wrap room) 2000) = m at hm
 have hr := rel_new m (by omega)
 have e1 : Evt (fun k => vdisk_New.f k m) ((⟨[], m, 0, none, false⟩ : VD), 0) := by
  simp only [vdisk_New.f]
  exact Evt.neg (by rw [decide_eq_true_eq]; omega) (Evt.neg (by rw [decide_eq_true_eq]; omega) (.pure _))
 have e2 : Evt (fun k => dossierref03_New.f k m) ((⟨[], m, -1, false⟩ : RD), 0) := by
  simp only [dossierref03_New.f]
  exact Evt.neg (by rw [decide_eq_true_eq]; omega) (Evt.neg (by rw [decide_eq_true_eq]; omega) (.pure _))
 refine e1.bind (e2.bind (Evt.neg (by simp) ?_))
 obtain ⟨P', D', Y', p1, p2, p3⟩ := popen_ev (N := 0) ⟨hr, fun f hf => by cases hf⟩ (by omega) ⟨none, none, (), ()⟩ first hu hf
 refine p1.bind (Evt.pos rfl ?_)
 exact loop_ev l hl hs l.length 0 P' D' Y' (by omega) (by omega) (fun _ => ⟨p3, p2⟩)
end Go.Abs.GenZ
