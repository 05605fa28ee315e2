import Derived.Test.YtknfjmongeddgaaPlRolesC
set_option linter.unusedVariables false
set_option linter.unusedSimpArgs false
namespace Go.Abs.GenR
open Go.Abs

theorem items_ev (m : api_Model) (hb : bk_api_Model m ≤ 1048576) : Evt (fun k => model_Items.f k m) (itemsOf m.Plan) := by
  have hp := bk_Plan m
  have hl := itemsOf_len m.Plan
  simp only [model_Items.f]
  refine Evt.bind (walk_items m.Plan [] [] (by simp; omega) (by omega) (by simp; omega)) ?_
  simpa using Evt.pure (itemsOf m.Plan)

def mayS (m : api_Model) (role : ByteArray) : List ByteArray := ((itemsOf m.Plan).filter fun x => chkS m x.ID role == 0).map (·.ID)

theorem may_ev (m : api_Model) (role : ByteArray) (hb : bk_api_Model m ≤ 1048576) : Evt (fun k => roles_May.f k m role) (mayS m role) := by
  have hp := bk_Plan m
  have hl := itemsOf_len m.Plan
  simp only [roles_May.f]
  refine Evt.bind (items_ev m hb) ?_
  have := loop_all (xs := itemsOf m.Plan) (F := fun k i s => roles_May.l0 k s i m role (itemsOf m.Plan)) (E := fun _ s => some s) (by omega) (fun k i s => by rw [roles_May.l0])
    (Good := fun suf s => s.length + suf.length ≤ 1048576) (R := fun suf s => s ++ (suf.filter fun x => chkS m x.ID role == 0).map (·.ID)) (fun s _ => by simpa using Evt.pure s)
    (fun i v suf s hi hv hg ih => by
      simp only [List.length_cons] at hg
      refine Evt.bind (check_ev m v.ID role hb) ?_
      by_cases h : (chkS m v.ID role == 0) = true
      · refine Evt.pos h (Evt.pos (by simp; omega) ?_)
        have := ih (s ++ [v.ID]) (by simp; omega)
        simpa [List.filter_cons, h] using this
      · refine Evt.neg h ?_
        have := ih s (by omega)
        simpa [List.filter_cons, h] using this) [] (by simp; omega)
  simpa [mayS] using this
theorem refmay_ev (m : api_Model) (role : ByteArray) (hb : bk_api_Model m ≤ 1048576) : Evt (fun k => dossierref27_May.f k m role) (mayS m role) := by
  have hp := bk_Plan m
  have hl := itemsOf_len m.Plan
  simp only [dossierref27_May.f, dossierref13_Items.f]
  refine Evt.bind (ref_items m.Plan (by omega)).map ?_
  have := loop_all (xs := itemsOf m.Plan) (F := fun k i s => dossierref27_May.l0 k s i m role (itemsOf m.Plan)) (E := fun _ s => some s) (by omega) (fun k i s => by rw [dossierref27_May.l0])
    (Good := fun suf s => s.length + suf.length ≤ 1048576) (R := fun suf s => s ++ (suf.filter fun x => chkS m x.ID role == 0).map (·.ID)) (fun s _ => by simpa using Evt.pure s)
    (fun i v suf s hi hv hg ih => by
      simp only [List.length_cons] at hg
      refine Evt.bind (refcheck_ev m v.ID role hb) ?_
      by_cases h : (chkS m v.ID role == 0) = true
      · refine Evt.pos h (Evt.pos (by simp; omega) ?_)
        have := ih (s ++ [v.ID]) (by simp; omega)
        simpa [List.filter_cons, h] using this
      · refine Evt.neg h ?_
        have := ih s (by omega)
        simpa [List.filter_cons, h] using this) [] (by simp; omega)
  simpa [mayS] using this

theorem equal_ev (l : List ByteArray) (h : l.length ≤ 1048576) : Evt (fun k => slices_Equal_string_string.f k l l) true := by
  simp only [slices_Equal_string_string.f]
  refine Evt.neg (by simp) ?_
  exact loop_all (σ := Unit) (xs := l) (F := fun k i _ => slices_Equal_string_string.l0 k i l l) (E := fun _ _ => some true) (by omega) (fun k i s => by rw [slices_Equal_string_string.l0])
    (Good := fun _ _ => True) (R := fun _ _ => true) (fun s _ => .pure _)
    (fun i v suf u hi hv hg ih => by
      have e : rd l (i : Int) = some v := by rw [rd_nat]; exact hv
      refine Evt.some_bind e (Evt.pos ?_ (ih () trivial))
      simp) () trivial

theorem mayS_len (m : api_Model) (role : ByteArray) (hb : bk_api_Model m ≤ 1048576) : (mayS m role).length ≤ 1048576 := by
  have hp := bk_Plan m
  have hl := itemsOf_len m.Plan
  have := List.length_filter_le (fun x : api_Item => chkS m x.ID role == 0) (itemsOf m.Plan)
  simp only [mayS, List.length_map]; omega

def awM : api_Model := ⟨(⟨#[]⟩ : ByteArray), (⟨#[]⟩ : ByteArray), ([(⟨#[114]⟩ : ByteArray)] : List ByteArray), ([] : List api_FileItem), (⟨(⟨#[112]⟩ : ByteArray), (⟨#[]⟩ : ByteArray), 0, ([] : List api_Sentry), ([] : List api_Sentry), (⟨#[]⟩ : ByteArray), (⟨#[]⟩ : ByteArray), (⟨#[]⟩ : ByteArray), false, false, 0, ([] : List ByteArray), ([(⟨(⟨#[97]⟩ : ByteArray), (⟨#[]⟩ : ByteArray), 1, ([] : List api_Sentry), ([] : List api_Sentry), (⟨#[]⟩ : ByteArray), (⟨#[]⟩ : ByteArray), (⟨#[]⟩ : ByteArray), false, false, 0, ([(⟨#[114]⟩ : ByteArray)] : List ByteArray), ([] : List api_Item), ([] : List api_Item)⟩ : api_Item)] : List api_Item), ([] : List api_Item)⟩ : api_Item)⟩
theorem aw_bk : bk_api_Model awM ≤ 1048576 := by decide +kernel
theorem aw1 : chkS awM (⟨#[97]⟩ : ByteArray) (⟨#[114]⟩ : ByteArray) = 0 := by decide +kernel
theorem aw2 : chkS awM (⟨#[97]⟩ : ByteArray) (⟨#[]⟩ : ByteArray) = 41 := by decide +kernel
theorem awake_ev : Evt (fun k => dossierlaw27_awake.f k) true := by
  simp only [dossierlaw27_awake.f]
  have h1 := check_ev awM (⟨#[97]⟩ : ByteArray) (⟨#[114]⟩ : ByteArray) aw_bk
  have h2 := check_ev awM (⟨#[97]⟩ : ByteArray) (⟨#[]⟩ : ByteArray) aw_bk
  rw [aw1] at h1
  rw [aw2] at h2
  exact Evt.bind h1 (Evt.pos rfl (Evt.bind h2 (.pure _)))

theorem known_ev (m : api_Model) (role : ByteArray) (hb : bk_api_Model m ≤ 1048576) : Evt (fun k => roles_Known.f k m role) (hasS m.Roles role) := by
  have hr := bk_Roles m
  simp only [roles_Known.f]
  exact (contains_ev m.Roles role (by omega)).map
theorem refknown_ev (m : api_Model) (role : ByteArray) (hb : bk_api_Model m ≤ 1048576) : Evt (fun k => dossierref27_Known.f k m role) (hasS m.Roles role) := by
  have hr := bk_Roles m
  simp only [dossierref27_Known.f]
  exact (has_ev m.Roles role (by omega)).map

theorem rolesCheck_true (m : api_Model) (item role : ByteArray) (hb : bk_api_Model m ≤ 1048576) : ∃ k, dossierlaw27_RolesCheck.f k m item role = some true := by
  refine Evt.get (f := fun k => dossierlaw27_RolesCheck.f k m item role) ?_
  obtain ⟨b, hm⟩ := model_tot m hb
  have aw := awake_ev.map
  simp only [dossierlaw27_RolesCheck.f]
  refine Evt.bind hm ?_
  cases b with
  | false => exact Evt.neg (by decide) aw
  | true =>
    refine Evt.pos rfl (Evt.bind (check_ev m item role hb) (Evt.bind (refcheck_ev m item role hb) (Evt.pos (by simp) ?_)))
    refine Evt.bind (known_ev m role hb) (Evt.bind (refknown_ev m role hb) (Evt.pos (by simp) ?_))
    exact Evt.bind (may_ev m role hb) (Evt.bind (refmay_ev m role hb) (Evt.bind (equal_ev _ (mayS_len m role hb)) (Evt.pos rfl aw)))

theorem rolesKnown_true (m : api_Model) (item role : ByteArray) (hb : bk_api_Model m ≤ 1048576) : ∃ k, dossierlaw27_RolesKnown.f k m item role = some true := by
  refine Evt.get (f := fun k => dossierlaw27_RolesKnown.f k m item role) ?_
  obtain ⟨b, hm⟩ := model_tot m hb
  have aw := awake_ev.map
  simp only [dossierlaw27_RolesKnown.f]
  refine Evt.bind hm ?_
  cases b with
  | false => exact Evt.neg (by decide) aw
  | true =>
    refine Evt.pos rfl ?_
    by_cases h0 : (role.toList == (⟨#[]⟩ : ByteArray).toList) = true
    · exact Evt.pos h0 aw
    · refine Evt.neg h0 (Evt.bind (known_ev m role hb) ?_)
      by_cases h1 : hasS m.Roles role = true
      · exact Evt.pos h1 aw
      · have hc : ∀ it, chkS m it role = 41 := by
          intro it
          unfold chkS noRole
          rw [if_neg h0, if_neg h1]
        refine Evt.neg h1 (Evt.bind (check_ev m item role hb) (Evt.pos (by rw [hc]; rfl) (Evt.bind (may_ev m role hb) (Evt.pos ?_ aw))))
        have : mayS m role = [] := by
          unfold mayS
          rw [List.filter_eq_nil_iff.mpr (fun x _ => by rw [hc]; decide)]; rfl
        rw [this]; rfl

theorem rolesNone_true (m : api_Model) (item role : ByteArray) (hb : bk_api_Model m ≤ 1048576) : ∃ k, dossierlaw27_RolesNone.f k m item role = some true := by
  refine Evt.get (f := fun k => dossierlaw27_RolesNone.f k m item role) ?_
  obtain ⟨b, hm⟩ := model_tot m hb
  have aw := awake_ev.map
  simp only [dossierlaw27_RolesNone.f]
  refine Evt.bind hm ?_
  cases b with
  | false => exact Evt.neg (by decide) aw
  | true =>
    refine Evt.pos rfl (Evt.bind (ref_find m item hb) (Evt.bind (check_ev m item _ hb) ?_))
    have hno : noRole (⟨#[]⟩ : ByteArray) = true := by simp [noRole]
    have h0 : chkS m item (⟨#[]⟩ : ByteArray) = chk2 m item (⟨#[]⟩ : ByteArray) := by unfold chkS; rw [if_pos hno]
    rw [h0]
    -- the tail
    have tail : Evt (fun k => if (pairF (findS m item)).2 = true then (if (((pairF (findS m item)).1.Roles.length : Int) == 0) = true then ((dossierlaw27_awake.f k).bind fun r15 => some r15) else ((slices_Contains_string_string.f k (pairF (findS m item)).1.Roles (⟨#[]⟩ : ByteArray)).bind fun r16 => if r16 = true then ((dossierlaw27_awake.f k).bind fun r18 => some r18) else (if (chk2 m item (⟨#[]⟩ : ByteArray) == 41) = true then ((dossierlaw27_awake.f k).bind fun r20 => some r20) else (some false)))) else ((dossierlaw27_awake.f k).bind fun r21 => some r21)) true := by
      cases hs : findS m item with
      | none => exact Evt.neg (by simp [pairF]) aw
      | some x =>
        refine Evt.pos rfl ?_
        by_cases hl : x.Roles.length = 0
        · exact Evt.pos (by simp [pairF, hl]) aw
        · refine Evt.neg (by simpa [pairF] using hl) (Evt.bind (contains_ev x.Roles _ (findS_bk hb hs)) ?_)
          by_cases hc : hasS x.Roles (⟨#[]⟩ : ByteArray) = true
          · exact Evt.pos hc aw
          · refine Evt.neg hc (Evt.pos ?_ aw)
            simp [chk2, hs, hl, hc]
    by_cases hz : (chk2 m item (⟨#[]⟩ : ByteArray) == 0) = true
    · refine Evt.pos hz (Evt.bind (known_ev m role hb) ?_)
      by_cases hk : hasS m.Roles role = true
      · refine Evt.pos hk (Evt.bind (check_ev m item role hb) ?_)
        by_cases hn : (chkS m item role != 0) = true
        · refine Evt.pos hn ?_
          have e1 : chkS m item role = chk2 m item role := by unfold chkS; rw [if_pos hk]; split <;> rfl
          rw [e1] at hn
          cases hs : findS m item with
          | none => simp [chk2, hs] at hz
          | some x =>
            refine Evt.bind (contains_ev x.Roles _ (findS_bk hb hs)) (Evt.pos ?_ aw)
            simp only [chk2, hs] at hz hn
            by_cases hl : x.Roles.length = 0
            · simp [hl] at hn
            · by_cases hc : hasS x.Roles (⟨#[]⟩ : ByteArray) = true
              · exact hc
              · simp [hl, hc] at hz
        · exact Evt.neg hn tail
      · exact Evt.neg hk tail
    · exact Evt.neg hz tail
end Go.Abs.GenR
