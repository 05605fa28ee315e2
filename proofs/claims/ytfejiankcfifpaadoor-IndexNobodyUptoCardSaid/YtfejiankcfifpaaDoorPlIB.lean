import Derived.Test.YtfejiankcfifpaaDoorPlIA
set_option linter.unusedVariables false
set_option linter.unusedSimpArgs false
set_option maxRecDepth 100000
set_option maxHeartbeats 4000000
namespace Go.Abs.GenI
open Go.Abs
theorem aw : (fun k => dossierlaw21_awake.f (k + 40)) = fun _ => some true := by kernel_rfl
theorem awake_ev : Evt (fun k => dossierlaw21_awake.f k) true := ⟨40, fun k hk => by
 have h : dossierlaw21_awake.f (k - 40 + 40) = some true := congrFun aw (k - 40)
 rwa [show k - 40 + 40 = k by omega] at h⟩
theorem nobody_ev (c : api_Case) (e : api_Event) (h : Fine c) : Evt (fun k => dossierlaw21_IndexNobody.f k c e) true := by
 have aw := awake_ev.map
 have hs := ref_same c c h
 rw [sameCase_refl] at hs
 have h1 : Evt (fun k => index_Index_Latch_nil0.f k c e) (c, []) := by
  simp only [index_Index_Latch_nil0.f, index_Index_none_nil0.f, Option.bind_some]
  exact (tree_copy c h).bind (.pure _)
 have h2 : Evt (fun k => index_Index_For_nil0.f k e) [] := ⟨0, fun k _ => rfl⟩
 have h3 : ∀ m : api_Model, Evt (fun k => index_Index_Latch.f k (⟨m, ([] : List (index_source × List api_Hook))⟩ : index_Index) c e) (c, [], (⟨m, []⟩ : index_Index)) := by
  intro m
  simp only [index_Index_Latch.f, index_Index_none.f, Option.bind_some]
  refine (tree_copy c h).bind (Evt.pos (by simp) ?_)
  exact .pure _
 have h4 : ∀ m : api_Model, Evt (fun k => index_Index_For.f k (⟨m, ([] : List (index_source × List api_Hook))⟩ : index_Index) e) ([], (⟨m, []⟩ : index_Index)) := by
  intro m
  simp only [index_Index_For.f, index_Index_none.f, Option.bind_some]
  refine Evt.pos (by simp) ?_
  exact .pure _
 obtain ⟨b, hb⟩ := plain_case c h
 simp only [dossierlaw21_IndexNobody.f]
 refine hb.bind ?_
 cases b with
 | false => exact Evt.neg (by decide) aw
 | true =>
  refine Evt.pos rfl (h1.bind (h2.bind ?_))
  refine Evt.neg (by simp) (Evt.neg (by simp) (hs.bind (Evt.pos rfl ?_)))
  refine (h3 _).bind ((h4 _).bind ?_)
  exact Evt.neg (by simp) (Evt.neg (by simp) (hs.bind (Evt.pos rfl aw)))
theorem nobody_true (c : api_Case) (e : api_Event) (h : bk_api_Case c ≤ 1048576) : ∃ k, dossierlaw21_IndexNobody.f k c e = some true := (nobody_ev c e (fine c h)).get
end Go.Abs.GenI
