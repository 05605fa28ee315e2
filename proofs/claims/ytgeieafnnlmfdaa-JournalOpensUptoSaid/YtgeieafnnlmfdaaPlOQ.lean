import Derived.Test.YtgeieafnnlmfdaaPlOP
set_option linter.unusedVariables false
set_option linter.unusedSimpArgs false
set_option maxRecDepth 100000
set_option maxHeartbeats 4000000
namespace Go.Abs.GenO
open Go.Abs
variable {N : Nat} {D : VD} {Y : RD}
theorem app_keep (h : Rel N D none Y) (hO : Y.Off = false) (hb : Byt Y) (n : ByteArray) {b : List Int} (hu : U8s b) : (rAppend Y n b).2.Off = false ∧ Byt (rAppend Y n b).2 := by
 have hB : Y.Burns = -1 := h.fuse
 have hbr : brn Y = (0, Y) := by rw [brn, if_neg (by omega), if_neg (by omega)]
 unfold rAppend
 rw [hbr]
 split
 ·split
  ·exact ⟨hO, hb⟩
  ·split
   ·exact ⟨hO, hb⟩
   ·rw [if_pos rfl]
    refine ⟨hO, fun f hf => ?_⟩
    rcases ins_mem _ _ f hf with rfl | hf
    ·refine U8s.app ?_ hu
     unfold old
     cases hq : fnd n Y.L with
     | none => exact U8s.nil
     | some g => exact hb g (fnd_mem hq).1
    ·exact hb f hf
 ·exact ⟨hO, hb⟩
def Good (N : Nat) (D : VD) (Y : RD) : Prop := Rel N D none Y ∧ Y.Off = false ∧ Byt Y
theorem step1 (h : Good N D Y) (hN : N ≤ 1000000) (b : List Int) (hu : U8s b) (hl : b.length ≤ 100000000000) : ∃ D' Y', Evt (fun k => dossierplain_Step_Do_20.f k (⟨0, 0, (⟨#[106, 111, 117, 114, 110, 97, 108]⟩ : ByteArray), (⟨#[]⟩ : ByteArray), b, ([] : List Int)⟩ : dossierplain_Step) D Y) (true, D', Y') ∧ Good (N + 1) D' Y' := by
 obtain ⟨h1, hO, hb⟩ := h
 obtain ⟨D1, p1, q1, g1⟩ := app_both h1 (by omega) nm b (by omega)
 obtain ⟨r, hr⟩ := spoil_ev b (by omega)
 refine ⟨D1, (rAppend Y nm b).2, ?_, g1, (app_keep h1 hO hb nm hu).1, (app_keep h1 hO hb nm hu).2⟩
 simp only [dossierplain_Step_Do_20.f]
 refine (clone_ev b (by omega)).bind (p1.bind (hr.bind (q1.bind ?_)))
 simpa using Evt.pure _
theorem step2 (h : Good N D Y) (hN : N ≤ 1000000) (b : List Int) (hu : U8s b) (hl : b.length ≤ 100000000000) : ∃ D' Y', Evt (fun k => dossierplain_Step_Do_20xx.f k (⟨0, 0, (⟨#[106, 111, 117, 114, 110, 97, 108, 46, 110, 101, 119]⟩ : ByteArray), (⟨#[]⟩ : ByteArray), b, ([] : List Int)⟩ : dossierplain_Step) D Y) (true, D', Y') ∧ Good (N + 1) D' Y' := by
 obtain ⟨h1, hO, hb⟩ := h
 obtain ⟨D1, p1, q1, g1⟩ := app_both h1 (by omega) nn b (by omega)
 obtain ⟨r, hr⟩ := spoil_ev b (by omega)
 refine ⟨D1, (rAppend Y nn b).2, ?_, g1, (app_keep h1 hO hb nn hu).1, (app_keep h1 hO hb nn hu).2⟩
 simp only [dossierplain_Step_Do_20xx.f]
 refine (clone_ev b (by omega)).bind (p1.bind (hr.bind (q1.bind ?_)))
 simpa using Evt.pure _
theorem end_ev (haw : Evt (fun k => dossierlaw04_awake.f k) true) (h : Good N D Y) (hN : N ≤ 1000000) (first : List Int) (hf : first.length ≤ 1000000000000) :
  Evt (fun k => dossierlaw04_JournalOpens.j0 k D.room D.used D.dead Y.Most Y.Burns Y.Off D.files Y.L first) true := by
 obtain ⟨h1, hO, hb⟩ := h
 obtain ⟨a, b, e, D', Y', p1, q1, g1, g2⟩ := open_both h1 (by omega) hO hb first hf
 refine Evt.succ (fun k => by rw [dossierlaw04_JournalOpens.j0]) ?_
 match a, b, g1 with
 | none, none, _ =>
  have hp : Evt (fun k => dossierlaw04_pair_open_21.f k (⟨(), (), (), ()⟩ : dossierlaw04_pair) first D Y) (true, (⟨(), (), (), ()⟩ : dossierlaw04_pair), D', Y', (none : Option Jn), (none : Option Jr)) := by
   simp only [dossierlaw04_pair_open_21.f]
   refine p1.bind ?_
   show Evt (fun k => (dossierref04_Open_51.f k Y first).bind _) _
   refine q1.bind ?_
   show Evt (fun k => some ((e == e), _, D', Y', none, none)) _
   simpa using Evt.pure _
  refine hp.bind ?_
  show Evt (fun k => if true = true then _ else _) true
  refine Evt.pos rfl ((same_nn g2 (by omega)).bind (Evt.pos rfl (haw.bind (.pure _))))
 | some a, some b, ⟨ha, hs, l1, l2, l3⟩ =>
  subst ha
  have hp : Evt (fun k => dossierlaw04_pair_open_21.f k (⟨(), (), (), ()⟩ : dossierlaw04_pair) first D Y) (true, (⟨(), (), (), ()⟩ : dossierlaw04_pair), D', Y', some (⟨(), b.Snap, b.L, false⟩ : Jn), some (⟨(), b.Snap, b.L, b.Stop⟩ : Jr)) := by
   simp only [dossierlaw04_pair_open_21.f]
   refine p1.bind ?_
   show Evt (fun k => (dossierref04_Open_51.f k Y first).bind _) _
   refine q1.bind ?_
   show Evt (fun k => some ((e == e), _, D', Y', some _, some _)) _
   simpa using Evt.pure _
  refine hp.bind ?_
  show Evt (fun k => if true = true then _ else _) true
  obtain ⟨r, hr, hr1⟩ := same_ss g2 (by omega) b hs l1 l2 l3
  refine Evt.pos rfl (hr.bind (Evt.pos hr1 (haw.bind (.pure _))))
theorem opens_ev (haw : Evt (fun k => dossierlaw04_awake.f k) true) (f m first : List Int) (hf : U8s f) (hm : U8s m) (lf : f.length ≤ 100000000000) (lm : m.length ≤ 100000000000) (l1 : first.length ≤ 1000000000000) :
  Evt (fun k => dossierlaw04_JournalOpens.f k f m first) true := by
 have h0 : Good 0 (⟨[], 4194304, 0, (), false⟩ : VD) (⟨[], 4194304, -1, false⟩ : RD) := ⟨rel_new 4194304 (by omega), rfl, fun f hf => by cases hf⟩
 have e1 : ∀ k, vdisk_New.f k 4194304 = some ((⟨[], 4194304, 0, (), false⟩ : VD), 0) := fun k => rfl
 have e2 : ∀ k, ∃ q, dossierref03_New.f k 4194304 = some ((⟨[], 4194304, -1, false⟩ : RD), q) := fun k => ⟨_, rfl⟩
 simp only [dossierlaw04_JournalOpens.f, e1, Option.bind_some]
 refine Evt.bind (a := ((⟨[], 4194304, -1, false⟩ : RD), 0)) ⟨0, fun k _ => rfl⟩ ?_
 refine Evt.neg (by decide) ?_
 by_cases c1 : (f.length : Int) > 0
 ·refine Evt.pos (by simpa using c1) ?_
  obtain ⟨D1, Y1, s1, g1⟩ := step1 h0 (by omega) f hf lf
  refine s1.bind (Evt.pos rfl ?_)
  by_cases c2 : (m.length : Int) > 0
  ·refine Evt.pos (by simpa using c2) ?_
   obtain ⟨D2, Y2, s2, g2⟩ := step2 g1 (by omega) m hm lm
   exact s2.bind (Evt.pos rfl (end_ev haw g2 (by omega) first l1))
  ·exact Evt.neg (by simpa using c2) (end_ev haw g1 (by omega) first l1)
 ·refine Evt.neg (by simpa using c1) ?_
  by_cases c2 : (m.length : Int) > 0
  ·refine Evt.pos (by simpa using c2) ?_
   obtain ⟨D2, Y2, s2, g2⟩ := step2 h0 (by omega) m hm lm
   exact s2.bind (Evt.pos rfl (end_ev haw g2 (by omega) first l1))
  ·exact Evt.neg (by simpa using c2) (end_ev haw h0 (by omega) first l1)
end Go.Abs.GenO
