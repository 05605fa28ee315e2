import Derived.Test.YtknfjmongeddgaaGenRb
set_option linter.unusedVariables false
set_option linter.unusedSimpArgs false
set_option maxRecDepth 100000
set_option maxHeartbeats 4000000
namespace Go.Abs.GenR
open Go.Abs Go.Proofs
mutual
def roles_May.l0 : Nat → (List ByteArray) → Int → api_Model → ByteArray → (List api_Item) → Option (List ByteArray)
  | 0, _, _, _, _, _ => none
  | k + 1, x2, x3, a0, a1, r1 => if (decide (x3 < (r1.length : Int))) = true then ((rd r1 x3).bind fun v5 => (roles_Check.f k a0 v5.ID a1).bind fun r7 => if (r7 == 0) = true then (if (decide (x2.length + ([v5.ID] : List ByteArray).length ≤ 8796093022208)) = true then (roles_May.l0 k (x2 ++ ([v5.ID] : List ByteArray)) (IntKind.i64.wrap (x3 + 1)) a0 a1 r1) else none) else (roles_May.l0 k x2 (IntKind.i64.wrap (x3 + 1)) a0 a1 r1)) else (some x2)
end
def roles_May.f (k : Nat) (a0 : api_Model) (a1 : ByteArray) : Option (List ByteArray) := (model_Items.f k a0).bind fun r1 => roles_May.l0 k ([] : List ByteArray) 0 a0 a1 r1
theorem roles_May.meets (k : Nat) (a0 : api_Model) (a1 : ByteArray) (r : (List ByteArray)) (h : roles_May.f k a0 a1 = some r) : Meets Try.prog 33 [(D.agg (c_api_Model a0)), (sc (.string a1))] [] (D.one (C.own 0 0 r.length 1)) [(some (AObj.cells true (rowC e_str r)))] := by
  unfold roles_May.f at h
  refine Meets.of_body (n := 28) Try.func33 rfl rfl (Nat.le_of_ble_eq_true rfl) fun x hx => ?_
  replace hx : x.k = 0 := hx
  show AW _ x _ _ ⟨28, fr0 [(D.agg (c_api_Model a0)), (sc (.string a1))], []⟩
  refine AW.seq ?_
  refine AW.region ?_
  refine s_box (cs := (c_api_Model a0)) rfl (List.cons_ne_nil _ _) rfl ?_
  refine s_assign (d := (sc (.slice none 0 0))) rfl ?_
  refine AWops.nil ?_
  refine AW.seq ?_
  refine AW.region ?_
  refine s_assign (d := (sc (.slice none 0 0))) rfl ?_
  refine AWops.nil ?_
  refine AW.seq ?_
  refine AW.seq ?_
  refine AW.region ?_
  refine s_loadN (ds := (c_api_Model a0)) F.ag_38 F.sz_38 rfl rfl rfl ?_
  obtain ⟨r1, er1, h⟩ := Option.bind_eq_some_iff.mp h
  refine s_call2 (ρ := []) (br := false) (H2 := [(some (AObj.cells true (c_api_Model a0))), (some (AObj.cells true (rowC e_api_Item r1)))]) (d := (D.one (C.own 1 0 r1.length 14))) F.ca_48 rfl rfl (All2.cons (LendT.aggL (All2.cons .sc (All2.cons .sc (All2.cons .imm (All2.cons .imm (All2.cons .sc (All2.cons .sc (All2.cons .sc (All2.cons .imm (All2.cons .imm (All2.cons .sc (All2.cons .sc (All2.cons .sc (All2.cons .sc (All2.cons .sc (All2.cons .sc (All2.cons .imm (All2.cons .imm (All2.cons .imm All2.nil))))))))))))))))))) All2.nil) All2.nil (by decide) rfl (model_Items.meets _ a0 r1 er1) (.inl rfl) (by first | rfl | (simp only [mergeH2, orF, Bool.false_or, Bool.or_false, Bool.true_or, Bool.or_true, mergeAt, mergeObj, renO, ren_row, List.drop_succ_cons, List.drop_zero, List.map_cons, List.map_nil, Option.map_some, Option.map_none, List.length_cons, List.length_nil, Nat.zero_add, List.append_assoc, List.cons_append, List.nil_append]; done) | (simp only [mergeH2, orF, Bool.false_or, Bool.or_false, Bool.true_or, Bool.or_true, mergeAt, mergeObj, renO, ren_row, List.drop_succ_cons, List.drop_zero, List.map_cons, List.map_nil, Option.map_some, Option.map_none, List.length_cons, List.length_nil, Nat.zero_add, List.append_assoc, List.cons_append, List.nil_append]; rfl)) rfl ?_
  refine s_len (n := r1.length) F.u_34 rfl (.inr ⟨(fun _ _ h => by cases h), ⟨_, rfl⟩⟩) ?_
  refine s_move (d := (sc (.int .i64 0))) rfl ?_
  refine AWops.nil ?_
  refine AW.block ?_
  refine AW.loopw (st0 := ⟨28, (upd 28 (upd 28 (upd 28 (upd 28 (upd 28 (upd 28 topF 1 (sc (.string a1))) 2 (D.one (C.ref 0 0))) 5 (D.one (C.own 1 0 ([] : List ByteArray).length 1))) 9 (D.one (C.own 2 0 r1.length 14))) 10 (sc (.int .i64 (r1.length : Int)))) 11 (sc (.int .i64 0))), [(some (AObj.cells true (c_api_Model a0))), (some (AObj.cells true (rowC e_str ([] : List ByteArray)))), (some (AObj.cells true (rowC e_api_Item r1)))]⟩) (fun kv st => kv ≤ k ∧ ∃ (x2 : List ByteArray) (x3 : Int), roles_May.l0 kv x2 x3 a0 a1 r1 = some r ∧ st = ⟨28, (upd 28 (upd 28 (upd 28 (upd 28 (upd 28 (upd 28 topF 1 (sc (.string a1))) 2 (D.one (C.ref 0 0))) 5 (D.one (C.own 1 0 x2.length 1))) 9 (D.one (C.own 2 0 r1.length 14))) 10 (sc (.int .i64 (r1.length : Int)))) 11 (sc (.int .i64 x3))), [(some (AObj.cells true (c_api_Model a0))), (some (AObj.cells true (rowC e_str x2))), (some (AObj.cells true (rowC e_api_Item r1)))]⟩) (k := k) (Weak.trans (Weak.nil (sz := 1) (i := 5) rfl) (Weak.gen (kk := 0) [0, 2, 1] [] hx rfl (by decide) (by decide) rfl rfl rfl (le_upd (le_upd (le_upd (le_upd (le_upd (le_upd (le_top _) (.t (.one .sc))) (.t (.one (.ref rfl)))) (.t (.one (.own rfl)))) (.t (.one (.own rfl)))) (.t (.one .sc))) (.t (.one .sc))) (All2.cons (.cells (fun h => h) (All2.cons .sc (All2.cons .sc (All2.cons .same (All2.cons .same (All2.cons .sc (All2.cons .sc (All2.cons .sc (All2.cons .same (All2.cons .same (All2.cons .sc (All2.cons .sc (All2.cons .sc (All2.cons .sc (All2.cons .sc (All2.cons .sc (All2.cons .same (All2.cons .same (All2.cons .same All2.nil))))))))))))))))))) (All2.cons (.cells (fun h => h) All2.nil) (All2.cons (.cells (fun h => h) (all2_row _)) All2.nil))))) ⟨Nat.le_refl _, ([] : List ByteArray), 0, h, rfl⟩ ?_
  rintro ql0 st ⟨hkl0, x2, x3, h, rfl⟩
  cases ql0 with
  | zero => exact absurd h (by simp [roles_May.l0])
  | succ ql0 =>
    replace h := (roles_May.l0.eq_2 _ _ _ _ _ _).symm.trans h
    refine AW.seq ?_
    refine AW.region ?_
    refine s_binI (v := (.bool (decide (x3 < (r1.length : Int))))) rfl rfl rfl ?_
    refine AWops.nil ?_
    refine AW.seq ?_
    by_cases c4 : (decide (x3 < (r1.length : Int))) = true
    · replace h := (if_pos c4).symm.trans h
      refine AW.cond_yes rfl c4 ?_
      refine AW.skip ?_
      refine AW.seq ?_
      refine AW.block ?_
      refine AW.seq ?_
      refine AW.region ?_
      obtain ⟨v5, ev5, h⟩ := Option.bind_eq_some_iff.mp h
      obtain ⟨pv5, qv5, gv5⟩ := rd_some ev5
      refine s_indexOwn (d := (D.one (C.ref 2 (0 + x3.toNat * 14)))) F.u_34 F.sz_36 rfl rfl pv5 qv5 rfl ?_
      obtain ⟨R6, hR6⟩ := row_at (f := e_api_Item) (sz := 14) (o := 0) e_api_Item_len gv5 (e_api_Item_eq v5) (by decide)
      refine s_loadN (ds := (c_api_Item v5)) F.ag_36 F.sz_36 (congrArg some hR6) rfl rfl ?_
      refine s_alloc (cs := [(C.p true (.v (.string (⟨#[]⟩ : ByteArray)))), (C.p true (.v (.string (⟨#[]⟩ : ByteArray)))), (C.p true (.v (.int .i64 0))), (C.p true (.v (.slice none 0 0))), (C.p true (.v (.slice none 0 0))), (C.p true (.v (.string (⟨#[]⟩ : ByteArray)))), (C.p true (.v (.string (⟨#[]⟩ : ByteArray)))), (C.p true (.v (.string (⟨#[]⟩ : ByteArray)))), (C.p true (.v (.bool false))), (C.p true (.v (.bool false))), (C.p true (.v (.int .i64 0))), (C.p true (.v (.slice none 0 0))), (C.p true (.v (.slice none 0 0))), (C.p true (.v (.slice none 0 0)))]) F.z_36 rfl rfl ?_
      refine s_store (cs' := (c_api_Item v5)) rfl rfl rfl (List.cons_ne_nil _ _) rfl F.sz_36 (Nat.le_of_ble_eq_true rfl) rfl ?_
      refine AWops.nil ?_
      refine AW.seq ?_
      refine AW.region ?_
      refine s_loadN (ds := (c_api_Model a0)) F.ag_38 F.sz_38 rfl rfl rfl ?_
      refine s_fieldRef F.fo_36_0 (by decide) rfl ?_
      refine s_load1 (c' := (C.p true (.v (.string v5.ID)))) F.ag_9 rfl rfl ?_
      refine s_move (d := (sc (.string a1))) rfl ?_
      obtain ⟨r7, er7, h⟩ := Option.bind_eq_some_iff.mp h
      refine s_call2 (ρ := []) (br := false) (H2 := [(some (AObj.cells true (c_api_Model a0))), (some (AObj.cells true (rowC e_str x2))), (some (AObj.cells true (rowC e_api_Item r1))), (some (AObj.cells true (c_api_Item v5)))]) (d := (sc (.int .i64 r7))) F.ca_23 rfl rfl (All2.cons (LendT.aggL (All2.cons .sc (All2.cons .sc (All2.cons .imm (All2.cons .imm (All2.cons .sc (All2.cons .sc (All2.cons .sc (All2.cons .imm (All2.cons .imm (All2.cons .sc (All2.cons .sc (All2.cons .sc (All2.cons .sc (All2.cons .sc (All2.cons .sc (All2.cons .imm (All2.cons .imm (All2.cons .imm All2.nil))))))))))))))))))) (All2.cons (.one .sc) (All2.cons (.one .sc) All2.nil))) All2.nil (by decide) rfl (roles_Check.meets _ a0 v5.ID a1 r7 er7) (.inl rfl) rfl rfl ?_
      refine s_binI (v := (.bool (r7 == 0))) rfl rfl rfl ?_
      refine AWops.nil ?_
      by_cases c8 : (r7 == 0) = true
      · replace h := (if_pos c8).symm.trans h
        refine AW.cond_yes rfl c8 ?_
        refine AW.region ?_
        refine s_move (d := (D.one (C.own 1 0 x2.length 1))) rfl ?_
        refine s_fieldRef F.fo_36_0 (by decide) rfl ?_
        refine s_load1 (c' := (C.p true (.v (.string v5.ID)))) F.ag_9 rfl rfl ?_
        refine s_buildSlice (n := 1) (ps := [(0, (sc (.string v5.ID)))]) (cs := rowC e_str ([v5.ID] : List ByteArray)) F.u_31 F.sz_9 F.z_9 rfl rfl (by decide) (by decide) rfl rfl ?_
        by_cases c9 : (decide (x2.length + ([v5.ID] : List ByteArray).length ≤ 8796093022208)) = true
        · replace h := (if_pos c9).symm.trans h
          have dc9 := of_decide_eq_true c9
          refine t_append (xs := x2) (ys := ([v5.ID] : List ByteArray)) (zs := x2 ++ ([v5.ID] : List ByteArray)) (H' := [(some (AObj.cells true (c_api_Model a0))), none, (some (AObj.cells true (rowC e_api_Item r1))), (some (AObj.cells true (c_api_Item v5))), (some (AObj.cells true (rowC e_str ([v5.ID] : List ByteArray)))), (some (AObj.cells true (rowC e_str (x2 ++ ([v5.ID] : List ByteArray)))))]) F.u_31 F.in_9 rfl e_str_len (.own rfl rfl) (.own rfl rfl) F.u_31 (by omega) (by omega) rfl rfl ?_
          refine s_assign (d := (D.one (C.own 5 0 ((x2 ++ ([v5.ID] : List ByteArray)).length) 1))) rfl ?_
          refine AWops.nil ?_
          refine AW.region ?_
          refine s_binI (v := (.int .i64 (IntKind.i64.wrap (x3 + 1)))) rfl rfl rfl ?_
          refine s_move (d := (sc (.int .i64 (IntKind.i64.wrap (x3 + 1))))) rfl ?_
          refine AWops.nil ?_
          exact ⟨_, ⟨28, (upd 28 (upd 28 (upd 28 (upd 28 (upd 28 (upd 28 topF 1 (sc (.string a1))) 2 (D.one (C.ref 0 0))) 5 (D.one (C.own 1 0 (x2 ++ ([v5.ID] : List ByteArray)).length 1))) 9 (D.one (C.own 2 0 r1.length 14))) 10 (sc (.int .i64 (r1.length : Int)))) 11 (sc (.int .i64 (IntKind.i64.wrap (x3 + 1))))), [(some (AObj.cells true (c_api_Model a0))), (some (AObj.cells true (rowC e_str (x2 ++ ([v5.ID] : List ByteArray))))), (some (AObj.cells true (rowC e_api_Item r1)))]⟩, by omega, (Weak.gen (kk := 0) [0, 5, 2] [] hx rfl (by decide) (by decide) rfl rfl rfl (le_upd (le_upd (le_upd (le_upd (le_upd (le_upd (le_top _) (.t (.one .sc))) (.t (.one (.ref rfl)))) (.t (.one (.own rfl)))) (.t (.one (.own rfl)))) (.t (.one .sc))) (.t (.one .sc))) (All2.cons (.cells (fun h => h) (All2.cons .sc (All2.cons .sc (All2.cons .same (All2.cons .same (All2.cons .sc (All2.cons .sc (All2.cons .sc (All2.cons .same (All2.cons .same (All2.cons .sc (All2.cons .sc (All2.cons .sc (All2.cons .sc (All2.cons .sc (All2.cons .sc (All2.cons .same (All2.cons .same (All2.cons .same All2.nil))))))))))))))))))) (All2.cons (.cells (fun h => h) (all2_row _)) (All2.cons (.cells (fun h => h) (all2_row _)) All2.nil)))), by omega, x2 ++ ([v5.ID] : List ByteArray), IntKind.i64.wrap (x3 + 1), h, rfl⟩
        · replace h := (if_neg c9).symm.trans h
          cases h
      · replace h := (if_neg c8).symm.trans h
        replace c8 := Bool.eq_false_iff.mpr c8
        refine AW.cond_no rfl c8 ?_
        refine AW.skip ?_
        refine AW.region ?_
        refine s_binI (v := (.int .i64 (IntKind.i64.wrap (x3 + 1)))) rfl rfl rfl ?_
        refine s_move (d := (sc (.int .i64 (IntKind.i64.wrap (x3 + 1))))) rfl ?_
        refine AWops.nil ?_
        exact ⟨_, ⟨28, (upd 28 (upd 28 (upd 28 (upd 28 (upd 28 (upd 28 topF 1 (sc (.string a1))) 2 (D.one (C.ref 0 0))) 5 (D.one (C.own 1 0 x2.length 1))) 9 (D.one (C.own 2 0 r1.length 14))) 10 (sc (.int .i64 (r1.length : Int)))) 11 (sc (.int .i64 (IntKind.i64.wrap (x3 + 1))))), [(some (AObj.cells true (c_api_Model a0))), (some (AObj.cells true (rowC e_str x2))), (some (AObj.cells true (rowC e_api_Item r1)))]⟩, by omega, (Weak.gen (kk := 0) [0, 1, 2] [] hx rfl (by decide) (by decide) rfl rfl rfl (le_upd (le_upd (le_upd (le_upd (le_upd (le_upd (le_top _) (.t (.one .sc))) (.t (.one (.ref rfl)))) (.t (.one (.own rfl)))) (.t (.one (.own rfl)))) (.t (.one .sc))) (.t (.one .sc))) (All2.cons (.cells (fun h => h) (All2.cons .sc (All2.cons .sc (All2.cons .same (All2.cons .same (All2.cons .sc (All2.cons .sc (All2.cons .sc (All2.cons .same (All2.cons .same (All2.cons .sc (All2.cons .sc (All2.cons .sc (All2.cons .sc (All2.cons .sc (All2.cons .sc (All2.cons .same (All2.cons .same (All2.cons .same All2.nil))))))))))))))))))) (All2.cons (.cells (fun h => h) (all2_row _)) (All2.cons (.cells (fun h => h) (all2_row _)) All2.nil)))), by omega, x2, IntKind.i64.wrap (x3 + 1), h, rfl⟩
    · replace h := (if_neg c4).symm.trans h
      replace c4 := Bool.eq_false_iff.mpr c4
      refine AW.cond_no rfl c4 ?_
      refine AW.exit ?_
      refine AW.seq ?_
      refine AW.region ?_
      refine s_move (d := (D.one (C.own 1 0 x2.length 1))) rfl ?_
      refine s_assign (d := (D.one (C.own 1 0 x2.length 1))) rfl ?_
      refine AWops.nil ?_
      refine AW.ret ?_
      obtain rfl := Option.some.inj h
      exact ⟨_, rfl, (Weak.gen (kk := 0) [1] [] rfl rfl (by decide) (by decide) rfl rfl rfl (le_upd (le_top _) (.t (.one (.own rfl)))) (All2.cons (.cells (fun h => h) (all2_row _)) All2.nil))⟩
def dossierlaw27_RolesKnown.f (k : Nat) (a0 : api_Model) (a1 : ByteArray) (a2 : ByteArray) : Option Bool := (dossierplain_Model.f k a0).bind fun r1 => if r1 = true then (if (a2.toList == (⟨#[]⟩ : ByteArray).toList) = true then ((dossierlaw27_awake.f k).bind fun r4 => some r4) else ((roles_Known.f k a0 a2).bind fun r5 => if r5 = true then ((dossierlaw27_awake.f k).bind fun r7 => some r7) else ((roles_Check.f k a0 a1 a2).bind fun r8 => if (r8 == 41) = true then ((roles_May.f k a0 a2).bind fun r10 => if ((r10.length : Int) == 0) = true then ((dossierlaw27_awake.f k).bind fun r12 => some r12) else (some false)) else (some false)))) else ((dossierlaw27_awake.f k).bind fun r13 => some r13)
theorem dossierlaw27_RolesKnown.meets (k : Nat) (a0 : api_Model) (a1 : ByteArray) (a2 : ByteArray) (r : Bool) (h : dossierlaw27_RolesKnown.f k a0 a1 a2 = some r) : Meets Try.prog 7 [(D.agg (c_api_Model a0)), (sc (.string a1)), (sc (.string a2))] [] (sc (.bool r)) [] := by
  unfold dossierlaw27_RolesKnown.f at h
  refine Meets.of_body (n := 35) Try.func7 rfl rfl (Nat.le_of_ble_eq_true rfl) fun x hx => ?_
  replace hx : x.k = 0 := hx
  show AW _ x _ _ ⟨35, fr0 [(D.agg (c_api_Model a0)), (sc (.string a1)), (sc (.string a2))], []⟩
  refine AW.seq ?_
  refine AW.region ?_
  refine s_box (cs := (c_api_Model a0)) rfl (List.cons_ne_nil _ _) rfl ?_
  refine s_assign (d := (sc (.bool false))) rfl ?_
  refine AWops.nil ?_
  refine AW.seq ?_
  refine AW.seq ?_
  refine AW.region ?_
  refine s_loadN (ds := (c_api_Model a0)) F.ag_38 F.sz_38 rfl rfl rfl ?_
  obtain ⟨r1, er1, h⟩ := Option.bind_eq_some_iff.mp h
  refine s_call2 (ρ := []) (br := false) (H2 := [(some (AObj.cells true (c_api_Model a0)))]) (d := (sc (.bool r1))) F.ca_20 rfl rfl (All2.cons (LendT.aggL (All2.cons .sc (All2.cons .sc (All2.cons .imm (All2.cons .imm (All2.cons .sc (All2.cons .sc (All2.cons .sc (All2.cons .imm (All2.cons .imm (All2.cons .sc (All2.cons .sc (All2.cons .sc (All2.cons .sc (All2.cons .sc (All2.cons .sc (All2.cons .imm (All2.cons .imm (All2.cons .imm All2.nil))))))))))))))))))) All2.nil) All2.nil (by decide) rfl (dossierplain_Model.meets _ a0 r1 er1) (.inl rfl) rfl rfl ?_
  refine s_not rfl ?_
  refine s_move (d := (sc (.bool (!r1)))) rfl ?_
  by_cases c2 : r1 = true
  · replace h := (if_pos c2).symm.trans h
    refine AWops.guard_yes rfl (Nat.le_of_ble_eq_true rfl) rfl (by rw [c2] <;> rfl) ?_
    refine s_move (d := (sc (.string a2))) rfl ?_
    refine AWops.guard_yes rfl (Nat.le_of_ble_eq_true rfl) rfl (by rw [c2] <;> rfl) ?_
    refine s_binS (v := (.bool (a2.toList == (⟨#[]⟩ : ByteArray).toList))) rfl rfl rfl ?_
    refine s_pick_no (d := (sc (.bool (a2.toList == (⟨#[]⟩ : ByteArray).toList)))) rfl (by rw [c2] <;> rfl) rfl ?_
    refine s_move (d := (sc (.bool (a2.toList == (⟨#[]⟩ : ByteArray).toList)))) rfl ?_
    by_cases c3 : (a2.toList == (⟨#[]⟩ : ByteArray).toList) = true
    · replace h := (if_pos c3).symm.trans h
      refine AWops.guard_no rfl (Nat.le_of_ble_eq_true rfl) rfl c3 ?_
      refine AWops.guard_no rfl (Nat.le_of_ble_eq_true rfl) rfl c3 ?_
      refine AWops.guard_no rfl (Nat.le_of_ble_eq_true rfl) rfl c3 ?_
      refine s_pick_yes (d := (sc (.bool true))) rfl c3 rfl ?_
      refine AWops.nil ?_
      refine AW.cond_yes rfl rfl ?_
      refine AW.seq ?_
      refine AW.region ?_
      obtain ⟨r4, er4, h⟩ := Option.bind_eq_some_iff.mp h
      refine s_call2 (ρ := []) (br := false) (H2 := [(some (AObj.cells true (c_api_Model a0)))]) (d := (sc (.bool r4))) F.ca_21 rfl rfl All2.nil All2.nil (by decide) rfl (dossierlaw27_awake.meets _  r4 er4) (.inl rfl) rfl rfl ?_
      refine s_assign (d := (sc (.bool r4))) rfl ?_
      refine AWops.nil ?_
      refine AW.ret ?_
      obtain rfl := Option.some.inj h
      exact ⟨_, rfl, (Weak.gen (kk := 0) [] [] rfl rfl (by decide) (by decide) rfl rfl rfl (le_upd (le_top _) (.t (.one .sc))) All2.nil)⟩
    · replace h := (if_neg c3).symm.trans h
      replace c3 := Bool.eq_false_iff.mpr c3
      refine AWops.guard_yes rfl (Nat.le_of_ble_eq_true rfl) rfl c3 ?_
      refine s_loadN (ds := (c_api_Model a0)) F.ag_38 F.sz_38 rfl rfl rfl ?_
      refine AWops.guard_yes rfl (Nat.le_of_ble_eq_true rfl) rfl c3 ?_
      refine s_move (d := (sc (.string a2))) rfl ?_
      refine AWops.guard_yes rfl (Nat.le_of_ble_eq_true rfl) rfl c3 ?_
      obtain ⟨r5, er5, h⟩ := Option.bind_eq_some_iff.mp h
      refine s_call2 (ρ := []) (br := false) (H2 := [(some (AObj.cells true (c_api_Model a0)))]) (d := (sc (.bool r5))) F.ca_24 rfl rfl (All2.cons (LendT.aggL (All2.cons .sc (All2.cons .sc (All2.cons .imm (All2.cons .imm (All2.cons .sc (All2.cons .sc (All2.cons .sc (All2.cons .imm (All2.cons .imm (All2.cons .sc (All2.cons .sc (All2.cons .sc (All2.cons .sc (All2.cons .sc (All2.cons .sc (All2.cons .imm (All2.cons .imm (All2.cons .imm All2.nil))))))))))))))))))) (All2.cons (.one .sc) All2.nil)) All2.nil (by decide) rfl (roles_Known.meets _ a0 a2 r5 er5) (.inl rfl) rfl rfl ?_
      refine s_pick_no (d := (sc (.bool r5))) rfl c3 rfl ?_
      refine AWops.nil ?_
      by_cases c6 : r5 = true
      · replace h := (if_pos c6).symm.trans h
        refine AW.cond_yes rfl c6 ?_
        refine AW.seq ?_
        refine AW.region ?_
        obtain ⟨r7, er7, h⟩ := Option.bind_eq_some_iff.mp h
        refine s_call2 (ρ := []) (br := false) (H2 := [(some (AObj.cells true (c_api_Model a0)))]) (d := (sc (.bool r7))) F.ca_21 rfl rfl All2.nil All2.nil (by decide) rfl (dossierlaw27_awake.meets _  r7 er7) (.inl rfl) rfl rfl ?_
        refine s_assign (d := (sc (.bool r7))) rfl ?_
        refine AWops.nil ?_
        refine AW.ret ?_
        obtain rfl := Option.some.inj h
        exact ⟨_, rfl, (Weak.gen (kk := 0) [] [] rfl rfl (by decide) (by decide) rfl rfl rfl (le_upd (le_top _) (.t (.one .sc))) All2.nil)⟩
      · replace h := (if_neg c6).symm.trans h
        replace c6 := Bool.eq_false_iff.mpr c6
        refine AW.cond_no rfl c6 ?_
        refine AW.skip ?_
        refine AW.seq ?_
        refine AW.region ?_
        refine s_loadN (ds := (c_api_Model a0)) F.ag_38 F.sz_38 rfl rfl rfl ?_
        refine s_move (d := (sc (.string a1))) rfl ?_
        refine s_move (d := (sc (.string a2))) rfl ?_
        obtain ⟨r8, er8, h⟩ := Option.bind_eq_some_iff.mp h
        refine s_call2 (ρ := []) (br := false) (H2 := [(some (AObj.cells true (c_api_Model a0)))]) (d := (sc (.int .i64 r8))) F.ca_23 rfl rfl (All2.cons (LendT.aggL (All2.cons .sc (All2.cons .sc (All2.cons .imm (All2.cons .imm (All2.cons .sc (All2.cons .sc (All2.cons .sc (All2.cons .imm (All2.cons .imm (All2.cons .sc (All2.cons .sc (All2.cons .sc (All2.cons .sc (All2.cons .sc (All2.cons .sc (All2.cons .imm (All2.cons .imm (All2.cons .imm All2.nil))))))))))))))))))) (All2.cons (.one .sc) (All2.cons (.one .sc) All2.nil))) All2.nil (by decide) rfl (roles_Check.meets _ a0 a1 a2 r8 er8) (.inl rfl) rfl rfl ?_
        refine s_binI (v := (.bool (r8 == 41))) rfl rfl rfl ?_
        refine s_move (d := (sc (.bool (r8 == 41)))) rfl ?_
        by_cases c9 : (r8 == 41) = true
        · replace h := (if_pos c9).symm.trans h
          refine AWops.guard_yes rfl (Nat.le_of_ble_eq_true rfl) rfl c9 ?_
          refine s_loadN (ds := (c_api_Model a0)) F.ag_38 F.sz_38 rfl rfl rfl ?_
          refine AWops.guard_yes rfl (Nat.le_of_ble_eq_true rfl) rfl c9 ?_
          refine s_move (d := (sc (.string a2))) rfl ?_
          refine AWops.guard_yes rfl (Nat.le_of_ble_eq_true rfl) rfl c9 ?_
          obtain ⟨r10, er10, h⟩ := Option.bind_eq_some_iff.mp h
          refine s_call2 (ρ := []) (br := false) (H2 := [(some (AObj.cells true (c_api_Model a0))), (some (AObj.cells true (rowC e_str r10)))]) (d := (D.one (C.own 1 0 r10.length 1))) F.ca_33 rfl rfl (All2.cons (LendT.aggL (All2.cons .sc (All2.cons .sc (All2.cons .imm (All2.cons .imm (All2.cons .sc (All2.cons .sc (All2.cons .sc (All2.cons .imm (All2.cons .imm (All2.cons .sc (All2.cons .sc (All2.cons .sc (All2.cons .sc (All2.cons .sc (All2.cons .sc (All2.cons .imm (All2.cons .imm (All2.cons .imm All2.nil))))))))))))))))))) (All2.cons (.one .sc) All2.nil)) All2.nil (by decide) rfl (roles_May.meets _ a0 a2 r10 er10) (.inl rfl) (by first | rfl | (simp only [mergeH2, orF, Bool.false_or, Bool.or_false, Bool.true_or, Bool.or_true, mergeAt, mergeObj, renO, ren_row, List.drop_succ_cons, List.drop_zero, List.map_cons, List.map_nil, Option.map_some, Option.map_none, List.length_cons, List.length_nil, Nat.zero_add, List.append_assoc, List.cons_append, List.nil_append]; done) | (simp only [mergeH2, orF, Bool.false_or, Bool.or_false, Bool.true_or, Bool.or_true, mergeAt, mergeObj, renO, ren_row, List.drop_succ_cons, List.drop_zero, List.map_cons, List.map_nil, Option.map_some, Option.map_none, List.length_cons, List.length_nil, Nat.zero_add, List.append_assoc, List.cons_append, List.nil_append]; rfl)) rfl ?_
          refine AWops.guard_yes rfl (Nat.le_of_ble_eq_true rfl) rfl c9 ?_
          refine s_len (n := r10.length) F.u_31 rfl (.inr ⟨(fun _ _ h => by cases h), ⟨_, rfl⟩⟩) ?_
          refine AWops.guard_yes rfl (Nat.le_of_ble_eq_true rfl) rfl c9 ?_
          refine s_binI (v := (.bool ((r10.length : Int) == 0))) rfl rfl rfl ?_
          refine s_pick_yes (d := (sc (.bool ((r10.length : Int) == 0)))) rfl c9 rfl ?_
          refine s_move (d := (sc (.bool ((r10.length : Int) == 0)))) rfl ?_
          by_cases c11 : ((r10.length : Int) == 0) = true
          · replace h := (if_pos c11).symm.trans h
            refine AWops.guard_yes rfl (Nat.le_of_ble_eq_true rfl) rfl c11 ?_
            obtain ⟨r12, er12, h⟩ := Option.bind_eq_some_iff.mp h
            refine s_call2 (ρ := []) (br := false) (H2 := [(some (AObj.cells true (c_api_Model a0))), (some (AObj.cells true (rowC e_str r10)))]) (d := (sc (.bool r12))) F.ca_21 rfl rfl All2.nil All2.nil (by decide) rfl (dossierlaw27_awake.meets _  r12 er12) (.inl rfl) rfl rfl ?_
            refine s_pick_yes (d := (sc (.bool r12))) rfl c11 rfl ?_
            refine s_assign (d := (sc (.bool r12))) rfl ?_
            refine AWops.nil ?_
            refine AW.ret ?_
            obtain rfl := Option.some.inj h
            exact ⟨_, rfl, (Weak.gen (kk := 0) [] [] rfl rfl (by decide) (by decide) rfl rfl rfl (le_upd (le_top _) (.t (.one .sc))) All2.nil)⟩
          · replace h := (if_neg c11).symm.trans h
            replace c11 := Bool.eq_false_iff.mpr c11
            refine AWops.guard_no rfl (Nat.le_of_ble_eq_true rfl) rfl c11 ?_
            refine s_pick_no (d := (sc (.bool false))) rfl c11 rfl ?_
            refine s_assign (d := (sc (.bool false))) rfl ?_
            refine AWops.nil ?_
            refine AW.ret ?_
            obtain rfl := Option.some.inj h
            exact ⟨_, rfl, (Weak.gen (kk := 0) [] [] rfl rfl (by decide) (by decide) rfl rfl rfl (le_upd (le_top _) (.t (.one .sc))) All2.nil)⟩
        · replace h := (if_neg c9).symm.trans h
          replace c9 := Bool.eq_false_iff.mpr c9
          refine AWops.guard_no rfl (Nat.le_of_ble_eq_true rfl) rfl c9 ?_
          refine AWops.guard_no rfl (Nat.le_of_ble_eq_true rfl) rfl c9 ?_
          refine AWops.guard_no rfl (Nat.le_of_ble_eq_true rfl) rfl c9 ?_
          refine AWops.guard_no rfl (Nat.le_of_ble_eq_true rfl) rfl c9 ?_
          refine AWops.guard_no rfl (Nat.le_of_ble_eq_true rfl) rfl c9 ?_
          refine s_pick_no (d := (sc (.bool false))) rfl c9 rfl ?_
          refine s_move (d := (sc (.bool false))) rfl ?_
          refine AWops.guard_no rfl (Nat.le_of_ble_eq_true rfl) rfl rfl ?_
          refine s_pick_no (d := (sc (.bool false))) rfl rfl rfl ?_
          refine s_assign (d := (sc (.bool false))) rfl ?_
          refine AWops.nil ?_
          refine AW.ret ?_
          obtain rfl := Option.some.inj h
          exact ⟨_, rfl, (Weak.gen (kk := 0) [] [] rfl rfl (by decide) (by decide) rfl rfl rfl (le_upd (le_top _) (.t (.one .sc))) All2.nil)⟩
  · replace h := (if_neg c2).symm.trans h
    replace c2 := Bool.eq_false_iff.mpr c2
    refine AWops.guard_no rfl (Nat.le_of_ble_eq_true rfl) rfl (by rw [c2] <;> rfl) ?_
    refine AWops.guard_no rfl (Nat.le_of_ble_eq_true rfl) rfl (by rw [c2] <;> rfl) ?_
    refine s_pick_yes (d := (sc (.bool true))) rfl (by rw [c2] <;> rfl) rfl ?_
    refine s_move (d := (sc (.bool true))) rfl ?_
    refine AWops.guard_no rfl (Nat.le_of_ble_eq_true rfl) rfl rfl ?_
    refine AWops.guard_no rfl (Nat.le_of_ble_eq_true rfl) rfl rfl ?_
    refine AWops.guard_no rfl (Nat.le_of_ble_eq_true rfl) rfl rfl ?_
    refine s_pick_yes (d := (sc (.bool true))) rfl rfl rfl ?_
    refine AWops.nil ?_
    refine AW.cond_yes rfl rfl ?_
    refine AW.seq ?_
    refine AW.region ?_
    obtain ⟨r13, er13, h⟩ := Option.bind_eq_some_iff.mp h
    refine s_call2 (ρ := []) (br := false) (H2 := [(some (AObj.cells true (c_api_Model a0)))]) (d := (sc (.bool r13))) F.ca_21 rfl rfl All2.nil All2.nil (by decide) rfl (dossierlaw27_awake.meets _  r13 er13) (.inl rfl) rfl rfl ?_
    refine s_assign (d := (sc (.bool r13))) rfl ?_
    refine AWops.nil ?_
    refine AW.ret ?_
    obtain rfl := Option.some.inj h
    exact ⟨_, rfl, (Weak.gen (kk := 0) [] [] rfl rfl (by decide) (by decide) rfl rfl rfl (le_upd (le_top _) (.t (.one .sc))) All2.nil)⟩
mutual
def dossierref27_has.l0 : Nat → Int → (List ByteArray) → ByteArray → Option Bool
  | 0, _, _, _ => none
  | k + 1, x1, a0, a1 => if (decide (x1 < (a0.length : Int))) = true then ((rd a0 x1).bind fun v3 => if (v3.toList == a1.toList) = true then (some true) else (dossierref27_has.l0 k (IntKind.i64.wrap (x1 + 1)) a0 a1)) else (some false)
end
def dossierref27_has.f (k : Nat) (a0 : List ByteArray) (a1 : ByteArray) : Option Bool := dossierref27_has.l0 k 0 a0 a1
theorem dossierref27_has.meets (k : Nat) (a0 : List ByteArray) (a1 : ByteArray) (r : Bool) (h : dossierref27_has.f k a0 a1 = some r) : Meets Try.prog 49 [(D.one (C.p false (.sl a0.length (a0.flatMap e_str)))), (sc (.string a1))] [] (sc (.bool r)) [] := by
  unfold dossierref27_has.f at h
  refine Meets.of_body (n := 17) Try.func49 rfl rfl (Nat.le_of_ble_eq_true rfl) fun x hx => ?_
  replace hx : x.k = 0 := hx
  show AW _ x _ _ ⟨17, fr0 [(D.one (C.p false (.sl a0.length (a0.flatMap e_str)))), (sc (.string a1))], []⟩
  refine AW.seq ?_
  refine AW.region ?_
  refine s_assign (d := (sc (.bool false))) rfl ?_
  refine AWops.nil ?_
  refine AW.seq ?_
  refine AW.seq ?_
  refine AW.region ?_
  refine s_move (d := (D.one (C.p false (.sl a0.length (a0.flatMap e_str))))) rfl ?_
  refine s_len (n := a0.length) F.u_31 rfl (.inr ⟨(fun _ _ h => by cases h), ⟨_, rfl⟩⟩) ?_
  refine s_move (d := (sc (.int .i64 0))) rfl ?_
  refine AWops.nil ?_
  refine AW.block ?_
  refine AW.loopw (st0 := ⟨17, (upd 17 (upd 17 (upd 17 (upd 17 topF 1 (sc (.string a1))) 7 (D.one (C.p false (.sl a0.length (a0.flatMap e_str))))) 8 (sc (.int .i64 (a0.length : Int)))) 9 (sc (.int .i64 0))), []⟩) (fun kv st => kv ≤ k ∧ ∃ (x1 : Int), dossierref27_has.l0 kv x1 a0 a1 = some r ∧ st = ⟨17, (upd 17 (upd 17 (upd 17 (upd 17 topF 1 (sc (.string a1))) 7 (D.one (C.p false (.sl a0.length (a0.flatMap e_str))))) 8 (sc (.int .i64 (a0.length : Int)))) 9 (sc (.int .i64 x1))), []⟩) (k := k) (Weak.gen (kk := 0) [] [] hx rfl (by decide) (by decide) rfl rfl rfl (le_upd (le_upd (le_upd (le_upd (le_top _) (.t (.one .sc))) (.t (.one .same))) (.t (.one .sc))) (.t (.one .sc))) All2.nil) ⟨Nat.le_refl _, 0, h, rfl⟩ ?_
  rintro ql0 st ⟨hkl0, x1, h, rfl⟩
  cases ql0 with
  | zero => exact absurd h (by simp [dossierref27_has.l0])
  | succ ql0 =>
    replace h := (dossierref27_has.l0.eq_2 _ _ _ _).symm.trans h
    refine AW.seq ?_
    refine AW.region ?_
    refine s_binI (v := (.bool (decide (x1 < (a0.length : Int))))) rfl rfl rfl ?_
    refine AWops.nil ?_
    refine AW.seq ?_
    by_cases c2 : (decide (x1 < (a0.length : Int))) = true
    · replace h := (if_pos c2).symm.trans h
      refine AW.cond_yes rfl c2 ?_
      refine AW.skip ?_
      refine AW.seq ?_
      refine AW.block ?_
      refine AW.seq ?_
      refine AW.region ?_
      obtain ⟨v3, ev3, h⟩ := Option.bind_eq_some_iff.mp h
      obtain ⟨pv3, qv3, gv3⟩ := rd_some ev3
      refine s_indexImm (ps := [P.v (.string v3)]) F.u_31 F.sz_9 rfl rfl pv3 qv3 (flat_at e_str_len gv3 (e_str_eq v3)) ?_
      refine s_load1 (c' := (C.p true (.v (.string v3)))) F.ag_9 rfl rfl ?_
      refine s_assign (d := (sc (.string v3))) rfl ?_
      refine AWops.nil ?_
      refine AW.seq ?_
      refine AW.region ?_
      refine s_move (d := (sc (.string v3))) rfl ?_
      refine s_move (d := (sc (.string a1))) rfl ?_
      refine s_binS (v := (.bool (v3.toList == a1.toList))) rfl rfl rfl ?_
      refine AWops.nil ?_
      by_cases c4 : (v3.toList == a1.toList) = true
      · replace h := (if_pos c4).symm.trans h
        refine AW.cond_yes rfl c4 ?_
        refine AW.seq ?_
        refine AW.region ?_
        refine s_assign (d := (sc (.bool true))) rfl ?_
        refine AWops.nil ?_
        refine AW.ret ?_
        obtain rfl := Option.some.inj h
        exact ⟨_, rfl, (Weak.gen (kk := 0) [] [] rfl rfl (by decide) (by decide) rfl rfl rfl (le_upd (le_top _) (.t (.one .sc))) All2.nil)⟩
      · replace h := (if_neg c4).symm.trans h
        replace c4 := Bool.eq_false_iff.mpr c4
        refine AW.cond_no rfl c4 ?_
        refine AW.skip ?_
        refine AW.region ?_
        refine s_binI (v := (.int .i64 (IntKind.i64.wrap (x1 + 1)))) rfl rfl rfl ?_
        refine s_move (d := (sc (.int .i64 (IntKind.i64.wrap (x1 + 1))))) rfl ?_
        refine AWops.nil ?_
        exact ⟨_, ⟨17, (upd 17 (upd 17 (upd 17 (upd 17 topF 1 (sc (.string a1))) 7 (D.one (C.p false (.sl a0.length (a0.flatMap e_str))))) 8 (sc (.int .i64 (a0.length : Int)))) 9 (sc (.int .i64 (IntKind.i64.wrap (x1 + 1))))), []⟩, by omega, (Weak.gen (kk := 0) [] [] hx rfl (by decide) (by decide) rfl rfl rfl (le_upd (le_upd (le_upd (le_upd (le_top _) (.t (.one .sc))) (.t (.one .same))) (.t (.one .sc))) (.t (.one .sc))) All2.nil), by omega, IntKind.i64.wrap (x1 + 1), h, rfl⟩
    · replace h := (if_neg c2).symm.trans h
      replace c2 := Bool.eq_false_iff.mpr c2
      refine AW.cond_no rfl c2 ?_
      refine AW.exit ?_
      refine AW.seq ?_
      refine AW.region ?_
      refine s_assign (d := (sc (.bool false))) rfl ?_
      refine AWops.nil ?_
      refine AW.ret ?_
      obtain rfl := Option.some.inj h
      exact ⟨_, rfl, (Weak.gen (kk := 0) [] [] rfl rfl (by decide) (by decide) rfl rfl rfl (le_upd (le_top _) (.t (.one .sc))) All2.nil)⟩
def dossierref27_Known.f (k : Nat) (a0 : api_Model) (a1 : ByteArray) : Option Bool := (dossierref27_has.f k a0.Roles a1).bind fun r1 => some r1
theorem dossierref27_Known.meets (k : Nat) (a0 : api_Model) (a1 : ByteArray) (r : Bool) (h : dossierref27_Known.f k a0 a1 = some r) : Meets Try.prog 35 [(D.agg (c_api_Model a0)), (sc (.string a1))] [] (sc (.bool r)) [] := by
  unfold dossierref27_Known.f at h
  refine Meets.of_body (n := 9) Try.func35 rfl rfl (Nat.le_of_ble_eq_true rfl) fun x hx => ?_
  replace hx : x.k = 0 := hx
  show AW _ x _ _ ⟨9, fr0 [(D.agg (c_api_Model a0)), (sc (.string a1))], []⟩
  refine AW.seq ?_
  refine AW.region ?_
  refine s_box (cs := (c_api_Model a0)) rfl (List.cons_ne_nil _ _) rfl ?_
  refine s_assign (d := (sc (.bool false))) rfl ?_
  refine AWops.nil ?_
  refine AW.seq ?_
  refine AW.region ?_
  refine s_fieldRef F.fo_38_2 (by decide) rfl ?_
  refine s_load1 (c' := (C.p false (.sl a0.Roles.length (a0.Roles.flatMap e_str)))) F.ag_31 rfl rfl ?_
  refine s_move (d := (sc (.string a1))) rfl ?_
  obtain ⟨r1, er1, h⟩ := Option.bind_eq_some_iff.mp h
  refine s_call2 (ρ := []) (br := false) (H2 := [(some (AObj.cells true (c_api_Model a0)))]) (d := (sc (.bool r1))) F.ca_49 rfl rfl (All2.cons (.one .imm) (All2.cons (.one .sc) All2.nil)) All2.nil (by decide) rfl (dossierref27_has.meets _ a0.Roles a1 r1 er1) (.inl rfl) rfl rfl ?_
  refine s_assign (d := (sc (.bool r1))) rfl ?_
  refine AWops.nil ?_
  refine AW.ret ?_
  obtain rfl := Option.some.inj h
  exact ⟨_, rfl, (Weak.gen (kk := 0) [] [] rfl rfl (by decide) (by decide) rfl rfl rfl (le_upd (le_top _) (.t (.one .sc))) All2.nil)⟩
def dossierref27_Check.f (k : Nat) (a0 : api_Model) (a1 : ByteArray) (a2 : ByteArray) : Option Int := if (a2.toList == (⟨#[]⟩ : ByteArray).toList) = true then ((dossierref13_Find.f k a0 a1).bind fun r2 => if r2.2 = true then (if (decide ((r2.1.Roles.length : Int) > 0)) = true then ((dossierref27_has.f k r2.1.Roles a2).bind fun r5 => if r5 = true then (some 0) else (some 41)) else (some 0)) else (some 33)) else ((dossierref27_Known.f k a0 a2).bind fun r7 => if r7 = true then ((dossierref13_Find.f k a0 a1).bind fun r9 => if r9.2 = true then (if (decide ((r9.1.Roles.length : Int) > 0)) = true then ((dossierref27_has.f k r9.1.Roles a2).bind fun r12 => if r12 = true then (some 0) else (some 41)) else (some 0)) else (some 33)) else (some 41))
theorem dossierref27_Check.meets (k : Nat) (a0 : api_Model) (a1 : ByteArray) (a2 : ByteArray) (r : Int) (h : dossierref27_Check.f k a0 a1 a2 = some r) : Meets Try.prog 34 [(D.agg (c_api_Model a0)), (sc (.string a1)), (sc (.string a2))] [] (sc (.int .i64 r)) [] := by
  unfold dossierref27_Check.f at h
  refine Meets.of_body (n := 36) Try.func34 rfl rfl (Nat.le_of_ble_eq_true rfl) fun x hx => ?_
  replace hx : x.k = 0 := hx
  show AW _ x _ _ ⟨36, fr0 [(D.agg (c_api_Model a0)), (sc (.string a1)), (sc (.string a2))], []⟩
  refine AW.seq ?_
  refine AW.region ?_
  refine s_box (cs := (c_api_Model a0)) rfl (List.cons_ne_nil _ _) rfl ?_
  refine s_assign (d := (sc (.int .i64 0))) rfl ?_
  refine AWops.nil ?_
  refine AW.seq ?_
  refine AW.seq ?_
  refine AW.region ?_
  refine s_move (d := (sc (.string a2))) rfl ?_
  refine s_binS (v := (.bool (!(a2.toList == (⟨#[]⟩ : ByteArray).toList)))) rfl rfl rfl ?_
  refine s_move (d := (sc (.bool (!(a2.toList == (⟨#[]⟩ : ByteArray).toList))))) rfl ?_
  by_cases c1 : (a2.toList == (⟨#[]⟩ : ByteArray).toList) = true
  · replace h := (if_pos c1).symm.trans h
    refine AWops.guard_no rfl (Nat.le_of_ble_eq_true rfl) rfl (by rw [c1] <;> rfl) ?_
    refine AWops.guard_no rfl (Nat.le_of_ble_eq_true rfl) rfl (by rw [c1] <;> rfl) ?_
    refine AWops.guard_no rfl (Nat.le_of_ble_eq_true rfl) rfl (by rw [c1] <;> rfl) ?_
    refine AWops.guard_no rfl (Nat.le_of_ble_eq_true rfl) rfl (by rw [c1] <;> rfl) ?_
    refine s_pick_no (d := (sc (.bool false))) rfl (by rw [c1] <;> rfl) rfl ?_
    refine AWops.nil ?_
    refine AW.cond_no rfl rfl ?_
    refine AW.skip ?_
    refine AW.seq ?_
    refine AW.region ?_
    refine s_loadN (ds := (c_api_Model a0)) F.ag_38 F.sz_38 rfl rfl rfl ?_
    refine s_move (d := (sc (.string a1))) rfl ?_
    obtain ⟨r2, er2, h⟩ := Option.bind_eq_some_iff.mp h
    refine s_call2 (ρ := []) (br := false) (H2 := [(some (AObj.cells true (c_api_Model a0)))]) (d := (D.tup [(D.agg (c_api_Item r2.1)), (sc (.bool r2.2))])) F.ca_22 rfl rfl (All2.cons (LendT.aggL (All2.cons .sc (All2.cons .sc (All2.cons .imm (All2.cons .imm (All2.cons .sc (All2.cons .sc (All2.cons .sc (All2.cons .imm (All2.cons .imm (All2.cons .sc (All2.cons .sc (All2.cons .sc (All2.cons .sc (All2.cons .sc (All2.cons .sc (All2.cons .imm (All2.cons .imm (All2.cons .imm All2.nil))))))))))))))))))) (All2.cons (.one .sc) All2.nil)) All2.nil (by decide) rfl (dossierref13_Find.meets _ a0 a1 r2 er2) (.inl rfl) rfl rfl ?_
    refine s_move (d := (D.tup [(D.agg (c_api_Item r2.1)), (sc (.bool r2.2))])) rfl ?_
    refine s_extract (d := (D.agg (c_api_Item r2.1))) rfl rfl ?_
    refine s_extract (d := (sc (.bool r2.2))) rfl rfl ?_
    refine s_alloc (cs := [(C.p true (.v (.string (⟨#[]⟩ : ByteArray)))), (C.p true (.v (.string (⟨#[]⟩ : ByteArray)))), (C.p true (.v (.int .i64 0))), (C.p true (.v (.slice none 0 0))), (C.p true (.v (.slice none 0 0))), (C.p true (.v (.string (⟨#[]⟩ : ByteArray)))), (C.p true (.v (.string (⟨#[]⟩ : ByteArray)))), (C.p true (.v (.string (⟨#[]⟩ : ByteArray)))), (C.p true (.v (.bool false))), (C.p true (.v (.bool false))), (C.p true (.v (.int .i64 0))), (C.p true (.v (.slice none 0 0))), (C.p true (.v (.slice none 0 0))), (C.p true (.v (.slice none 0 0)))]) F.z_36 rfl rfl ?_
    refine s_store (cs' := (c_api_Item r2.1)) rfl rfl rfl (List.cons_ne_nil _ _) rfl F.sz_36 (Nat.le_of_ble_eq_true rfl) rfl ?_
    refine s_assign (d := (sc (.bool r2.2))) rfl ?_
    refine AWops.nil ?_
    refine AW.seq ?_
    refine AW.seq ?_
    refine AW.region ?_
    refine s_move (d := (sc (.bool r2.2))) rfl ?_
    refine s_not rfl ?_
    refine AWops.nil ?_
    by_cases c3 : r2.2 = true
    · replace h := (if_pos c3).symm.trans h
      refine AW.cond_no rfl (by rw [c3] <;> rfl) ?_
      refine AW.skip ?_
      refine AW.seq ?_
      refine AW.seq ?_
      refine AW.region ?_
      refine s_fieldRef F.fo_36_11 (by decide) rfl ?_
      refine s_load1 (c' := (C.p false (.sl r2.1.Roles.length (r2.1.Roles.flatMap e_str)))) F.ag_31 rfl rfl ?_
      refine s_len (n := r2.1.Roles.length) F.u_31 rfl (.inr ⟨(fun _ _ h => by cases h), ⟨_, rfl⟩⟩) ?_
      refine s_binI (v := (.bool (decide ((r2.1.Roles.length : Int) > 0)))) rfl rfl rfl ?_
      refine s_move (d := (sc (.bool (decide ((r2.1.Roles.length : Int) > 0))))) rfl ?_
      by_cases c4 : (decide ((r2.1.Roles.length : Int) > 0)) = true
      · replace h := (if_pos c4).symm.trans h
        refine AWops.guard_yes rfl (Nat.le_of_ble_eq_true rfl) rfl c4 ?_
        refine s_fieldRef F.fo_36_11 (by decide) rfl ?_
        refine AWops.guard_yes rfl (Nat.le_of_ble_eq_true rfl) rfl c4 ?_
        refine s_load1 (c' := (C.p false (.sl r2.1.Roles.length (r2.1.Roles.flatMap e_str)))) F.ag_31 rfl rfl ?_
        refine AWops.guard_yes rfl (Nat.le_of_ble_eq_true rfl) rfl c4 ?_
        refine s_move (d := (sc (.string a2))) rfl ?_
        refine AWops.guard_yes rfl (Nat.le_of_ble_eq_true rfl) rfl c4 ?_
        obtain ⟨r5, er5, h⟩ := Option.bind_eq_some_iff.mp h
        refine s_call2 (ρ := []) (br := false) (H2 := [(some (AObj.cells true (c_api_Model a0))), (some (AObj.cells true (c_api_Item r2.1)))]) (d := (sc (.bool r5))) F.ca_49 rfl rfl (All2.cons (.one .imm) (All2.cons (.one .sc) All2.nil)) All2.nil (by decide) rfl (dossierref27_has.meets _ r2.1.Roles a2 r5 er5) (.inl rfl) rfl rfl ?_
        refine AWops.guard_yes rfl (Nat.le_of_ble_eq_true rfl) rfl c4 ?_
        refine s_not rfl ?_
        refine s_pick_yes (d := (sc (.bool (!r5)))) rfl c4 rfl ?_
        refine AWops.nil ?_
        by_cases c6 : r5 = true
        · replace h := (if_pos c6).symm.trans h
          refine AW.cond_no rfl (by rw [c6] <;> rfl) ?_
          refine AW.skip ?_
          refine AW.seq ?_
          refine AW.region ?_
          refine s_assign (d := (sc (.int .i64 0))) rfl ?_
          refine AWops.nil ?_
          refine AW.ret ?_
          obtain rfl := Option.some.inj h
          exact ⟨_, rfl, (Weak.gen (kk := 0) [] [] rfl rfl (by decide) (by decide) rfl rfl rfl (le_upd (le_top _) (.t (.one .sc))) All2.nil)⟩
        · replace h := (if_neg c6).symm.trans h
          replace c6 := Bool.eq_false_iff.mpr c6
          refine AW.cond_yes rfl (by rw [c6] <;> rfl) ?_
          refine AW.seq ?_
          refine AW.region ?_
          refine s_assign (d := (sc (.int .i64 41))) rfl ?_
          refine AWops.nil ?_
          refine AW.ret ?_
          obtain rfl := Option.some.inj h
          exact ⟨_, rfl, (Weak.gen (kk := 0) [] [] rfl rfl (by decide) (by decide) rfl rfl rfl (le_upd (le_top _) (.t (.one .sc))) All2.nil)⟩
      · replace h := (if_neg c4).symm.trans h
        replace c4 := Bool.eq_false_iff.mpr c4
        refine AWops.guard_no rfl (Nat.le_of_ble_eq_true rfl) rfl c4 ?_
        refine AWops.guard_no rfl (Nat.le_of_ble_eq_true rfl) rfl c4 ?_
        refine AWops.guard_no rfl (Nat.le_of_ble_eq_true rfl) rfl c4 ?_
        refine AWops.guard_no rfl (Nat.le_of_ble_eq_true rfl) rfl c4 ?_
        refine AWops.guard_no rfl (Nat.le_of_ble_eq_true rfl) rfl c4 ?_
        refine s_pick_no (d := (sc (.bool false))) rfl c4 rfl ?_
        refine AWops.nil ?_
        refine AW.cond_no rfl rfl ?_
        refine AW.skip ?_
        refine AW.seq ?_
        refine AW.region ?_
        refine s_assign (d := (sc (.int .i64 0))) rfl ?_
        refine AWops.nil ?_
        refine AW.ret ?_
        obtain rfl := Option.some.inj h
        exact ⟨_, rfl, (Weak.gen (kk := 0) [] [] rfl rfl (by decide) (by decide) rfl rfl rfl (le_upd (le_top _) (.t (.one .sc))) All2.nil)⟩
    · replace h := (if_neg c3).symm.trans h
      replace c3 := Bool.eq_false_iff.mpr c3
      refine AW.cond_yes rfl (by rw [c3] <;> rfl) ?_
      refine AW.seq ?_
      refine AW.region ?_
      refine s_assign (d := (sc (.int .i64 33))) rfl ?_
      refine AWops.nil ?_
      refine AW.ret ?_
      obtain rfl := Option.some.inj h
      exact ⟨_, rfl, (Weak.gen (kk := 0) [] [] rfl rfl (by decide) (by decide) rfl rfl rfl (le_upd (le_top _) (.t (.one .sc))) All2.nil)⟩
  · replace h := (if_neg c1).symm.trans h
    replace c1 := Bool.eq_false_iff.mpr c1
    refine AWops.guard_yes rfl (Nat.le_of_ble_eq_true rfl) rfl (by rw [c1] <;> rfl) ?_
    refine s_loadN (ds := (c_api_Model a0)) F.ag_38 F.sz_38 rfl rfl rfl ?_
    refine AWops.guard_yes rfl (Nat.le_of_ble_eq_true rfl) rfl (by rw [c1] <;> rfl) ?_
    refine s_move (d := (sc (.string a2))) rfl ?_
    refine AWops.guard_yes rfl (Nat.le_of_ble_eq_true rfl) rfl (by rw [c1] <;> rfl) ?_
    obtain ⟨r7, er7, h⟩ := Option.bind_eq_some_iff.mp h
    refine s_call2 (ρ := []) (br := false) (H2 := [(some (AObj.cells true (c_api_Model a0)))]) (d := (sc (.bool r7))) F.ca_35 rfl rfl (All2.cons (LendT.aggL (All2.cons .sc (All2.cons .sc (All2.cons .imm (All2.cons .imm (All2.cons .sc (All2.cons .sc (All2.cons .sc (All2.cons .imm (All2.cons .imm (All2.cons .sc (All2.cons .sc (All2.cons .sc (All2.cons .sc (All2.cons .sc (All2.cons .sc (All2.cons .imm (All2.cons .imm (All2.cons .imm All2.nil))))))))))))))))))) (All2.cons (.one .sc) All2.nil)) All2.nil (by decide) rfl (dossierref27_Known.meets _ a0 a2 r7 er7) (.inl rfl) rfl rfl ?_
    refine AWops.guard_yes rfl (Nat.le_of_ble_eq_true rfl) rfl (by rw [c1] <;> rfl) ?_
    refine s_not rfl ?_
    refine s_pick_yes (d := (sc (.bool (!r7)))) rfl (by rw [c1] <;> rfl) rfl ?_
    refine AWops.nil ?_
    by_cases c8 : r7 = true
    · replace h := (if_pos c8).symm.trans h
      refine AW.cond_no rfl (by rw [c8] <;> rfl) ?_
      refine AW.skip ?_
      refine AW.seq ?_
      refine AW.region ?_
      refine s_loadN (ds := (c_api_Model a0)) F.ag_38 F.sz_38 rfl rfl rfl ?_
      refine s_move (d := (sc (.string a1))) rfl ?_
      obtain ⟨r9, er9, h⟩ := Option.bind_eq_some_iff.mp h
      refine s_call2 (ρ := []) (br := false) (H2 := [(some (AObj.cells true (c_api_Model a0)))]) (d := (D.tup [(D.agg (c_api_Item r9.1)), (sc (.bool r9.2))])) F.ca_22 rfl rfl (All2.cons (LendT.aggL (All2.cons .sc (All2.cons .sc (All2.cons .imm (All2.cons .imm (All2.cons .sc (All2.cons .sc (All2.cons .sc (All2.cons .imm (All2.cons .imm (All2.cons .sc (All2.cons .sc (All2.cons .sc (All2.cons .sc (All2.cons .sc (All2.cons .sc (All2.cons .imm (All2.cons .imm (All2.cons .imm All2.nil))))))))))))))))))) (All2.cons (.one .sc) All2.nil)) All2.nil (by decide) rfl (dossierref13_Find.meets _ a0 a1 r9 er9) (.inl rfl) rfl rfl ?_
      refine s_move (d := (D.tup [(D.agg (c_api_Item r9.1)), (sc (.bool r9.2))])) rfl ?_
      refine s_extract (d := (D.agg (c_api_Item r9.1))) rfl rfl ?_
      refine s_extract (d := (sc (.bool r9.2))) rfl rfl ?_
      refine s_alloc (cs := [(C.p true (.v (.string (⟨#[]⟩ : ByteArray)))), (C.p true (.v (.string (⟨#[]⟩ : ByteArray)))), (C.p true (.v (.int .i64 0))), (C.p true (.v (.slice none 0 0))), (C.p true (.v (.slice none 0 0))), (C.p true (.v (.string (⟨#[]⟩ : ByteArray)))), (C.p true (.v (.string (⟨#[]⟩ : ByteArray)))), (C.p true (.v (.string (⟨#[]⟩ : ByteArray)))), (C.p true (.v (.bool false))), (C.p true (.v (.bool false))), (C.p true (.v (.int .i64 0))), (C.p true (.v (.slice none 0 0))), (C.p true (.v (.slice none 0 0))), (C.p true (.v (.slice none 0 0)))]) F.z_36 rfl rfl ?_
      refine s_store (cs' := (c_api_Item r9.1)) rfl rfl rfl (List.cons_ne_nil _ _) rfl F.sz_36 (Nat.le_of_ble_eq_true rfl) rfl ?_
      refine s_assign (d := (sc (.bool r9.2))) rfl ?_
      refine AWops.nil ?_
      refine AW.seq ?_
      refine AW.seq ?_
      refine AW.region ?_
      refine s_move (d := (sc (.bool r9.2))) rfl ?_
      refine s_not rfl ?_
      refine AWops.nil ?_
      by_cases c10 : r9.2 = true
      · replace h := (if_pos c10).symm.trans h
        refine AW.cond_no rfl (by rw [c10] <;> rfl) ?_
        refine AW.skip ?_
        refine AW.seq ?_
        refine AW.seq ?_
        refine AW.region ?_
        refine s_fieldRef F.fo_36_11 (by decide) rfl ?_
        refine s_load1 (c' := (C.p false (.sl r9.1.Roles.length (r9.1.Roles.flatMap e_str)))) F.ag_31 rfl rfl ?_
        refine s_len (n := r9.1.Roles.length) F.u_31 rfl (.inr ⟨(fun _ _ h => by cases h), ⟨_, rfl⟩⟩) ?_
        refine s_binI (v := (.bool (decide ((r9.1.Roles.length : Int) > 0)))) rfl rfl rfl ?_
        refine s_move (d := (sc (.bool (decide ((r9.1.Roles.length : Int) > 0))))) rfl ?_
        by_cases c11 : (decide ((r9.1.Roles.length : Int) > 0)) = true
        · replace h := (if_pos c11).symm.trans h
          refine AWops.guard_yes rfl (Nat.le_of_ble_eq_true rfl) rfl c11 ?_
          refine s_fieldRef F.fo_36_11 (by decide) rfl ?_
          refine AWops.guard_yes rfl (Nat.le_of_ble_eq_true rfl) rfl c11 ?_
          refine s_load1 (c' := (C.p false (.sl r9.1.Roles.length (r9.1.Roles.flatMap e_str)))) F.ag_31 rfl rfl ?_
          refine AWops.guard_yes rfl (Nat.le_of_ble_eq_true rfl) rfl c11 ?_
          refine s_move (d := (sc (.string a2))) rfl ?_
          refine AWops.guard_yes rfl (Nat.le_of_ble_eq_true rfl) rfl c11 ?_
          obtain ⟨r12, er12, h⟩ := Option.bind_eq_some_iff.mp h
          refine s_call2 (ρ := []) (br := false) (H2 := [(some (AObj.cells true (c_api_Model a0))), (some (AObj.cells true (c_api_Item r9.1)))]) (d := (sc (.bool r12))) F.ca_49 rfl rfl (All2.cons (.one .imm) (All2.cons (.one .sc) All2.nil)) All2.nil (by decide) rfl (dossierref27_has.meets _ r9.1.Roles a2 r12 er12) (.inl rfl) rfl rfl ?_
          refine AWops.guard_yes rfl (Nat.le_of_ble_eq_true rfl) rfl c11 ?_
          refine s_not rfl ?_
          refine s_pick_yes (d := (sc (.bool (!r12)))) rfl c11 rfl ?_
          refine AWops.nil ?_
          by_cases c13 : r12 = true
          · replace h := (if_pos c13).symm.trans h
            refine AW.cond_no rfl (by rw [c13] <;> rfl) ?_
            refine AW.skip ?_
            refine AW.seq ?_
            refine AW.region ?_
            refine s_assign (d := (sc (.int .i64 0))) rfl ?_
            refine AWops.nil ?_
            refine AW.ret ?_
            obtain rfl := Option.some.inj h
            exact ⟨_, rfl, (Weak.gen (kk := 0) [] [] rfl rfl (by decide) (by decide) rfl rfl rfl (le_upd (le_top _) (.t (.one .sc))) All2.nil)⟩
          · replace h := (if_neg c13).symm.trans h
            replace c13 := Bool.eq_false_iff.mpr c13
            refine AW.cond_yes rfl (by rw [c13] <;> rfl) ?_
            refine AW.seq ?_
            refine AW.region ?_
            refine s_assign (d := (sc (.int .i64 41))) rfl ?_
            refine AWops.nil ?_
            refine AW.ret ?_
            obtain rfl := Option.some.inj h
            exact ⟨_, rfl, (Weak.gen (kk := 0) [] [] rfl rfl (by decide) (by decide) rfl rfl rfl (le_upd (le_top _) (.t (.one .sc))) All2.nil)⟩
        · replace h := (if_neg c11).symm.trans h
          replace c11 := Bool.eq_false_iff.mpr c11
          refine AWops.guard_no rfl (Nat.le_of_ble_eq_true rfl) rfl c11 ?_
          refine AWops.guard_no rfl (Nat.le_of_ble_eq_true rfl) rfl c11 ?_
          refine AWops.guard_no rfl (Nat.le_of_ble_eq_true rfl) rfl c11 ?_
          refine AWops.guard_no rfl (Nat.le_of_ble_eq_true rfl) rfl c11 ?_
          refine AWops.guard_no rfl (Nat.le_of_ble_eq_true rfl) rfl c11 ?_
          refine s_pick_no (d := (sc (.bool false))) rfl c11 rfl ?_
          refine AWops.nil ?_
          refine AW.cond_no rfl rfl ?_
          refine AW.skip ?_
          refine AW.seq ?_
          refine AW.region ?_
          refine s_assign (d := (sc (.int .i64 0))) rfl ?_
          refine AWops.nil ?_
          refine AW.ret ?_
          obtain rfl := Option.some.inj h
          exact ⟨_, rfl, (Weak.gen (kk := 0) [] [] rfl rfl (by decide) (by decide) rfl rfl rfl (le_upd (le_top _) (.t (.one .sc))) All2.nil)⟩
      · replace h := (if_neg c10).symm.trans h
        replace c10 := Bool.eq_false_iff.mpr c10
        refine AW.cond_yes rfl (by rw [c10] <;> rfl) ?_
        refine AW.seq ?_
        refine AW.region ?_
        refine s_assign (d := (sc (.int .i64 33))) rfl ?_
        refine AWops.nil ?_
        refine AW.ret ?_
        obtain rfl := Option.some.inj h
        exact ⟨_, rfl, (Weak.gen (kk := 0) [] [] rfl rfl (by decide) (by decide) rfl rfl rfl (le_upd (le_top _) (.t (.one .sc))) All2.nil)⟩
    · replace h := (if_neg c8).symm.trans h
      replace c8 := Bool.eq_false_iff.mpr c8
      refine AW.cond_yes rfl (by rw [c8] <;> rfl) ?_
      refine AW.seq ?_
      refine AW.region ?_
      refine s_assign (d := (sc (.int .i64 41))) rfl ?_
      refine AWops.nil ?_
      refine AW.ret ?_
      obtain rfl := Option.some.inj h
      exact ⟨_, rfl, (Weak.gen (kk := 0) [] [] rfl rfl (by decide) (by decide) rfl rfl rfl (le_upd (le_top _) (.t (.one .sc))) All2.nil)⟩
mutual
def dossierref27_May.l0 : Nat → (List ByteArray) → Int → api_Model → ByteArray → (List api_Item) → Option (List ByteArray)
  | 0, _, _, _, _, _ => none
  | k + 1, x2, x3, a0, a1, r1 => if (decide (x3 < (r1.length : Int))) = true then ((rd r1 x3).bind fun v5 => (dossierref27_Check.f k a0 v5.ID a1).bind fun r7 => if (r7 == 0) = true then (if (decide (x2.length + ([v5.ID] : List ByteArray).length ≤ 8796093022208)) = true then (dossierref27_May.l0 k (x2 ++ ([v5.ID] : List ByteArray)) (IntKind.i64.wrap (x3 + 1)) a0 a1 r1) else none) else (dossierref27_May.l0 k x2 (IntKind.i64.wrap (x3 + 1)) a0 a1 r1)) else (some x2)
end
def dossierref27_May.f (k : Nat) (a0 : api_Model) (a1 : ByteArray) : Option (List ByteArray) := (dossierref13_Items.f k a0).bind fun r1 => dossierref27_May.l0 k ([] : List ByteArray) 0 a0 a1 r1
theorem dossierref27_May.meets (k : Nat) (a0 : api_Model) (a1 : ByteArray) (r : (List ByteArray)) (h : dossierref27_May.f k a0 a1 = some r) : Meets Try.prog 37 [(D.agg (c_api_Model a0)), (sc (.string a1))] [] (D.one (C.own 0 0 r.length 1)) [(some (AObj.cells true (rowC e_str r)))] := by
  unfold dossierref27_May.f at h
  refine Meets.of_body (n := 28) Try.func37 rfl rfl (Nat.le_of_ble_eq_true rfl) fun x hx => ?_
  replace hx : x.k = 0 := hx
  show AW _ x _ _ ⟨28, fr0 [(D.agg (c_api_Model a0)), (sc (.string a1))], []⟩
  refine AW.seq ?_
  refine AW.region ?_
  refine s_box (cs := (c_api_Model a0)) rfl (List.cons_ne_nil _ _) rfl ?_
  refine s_assign (d := (sc (.slice none 0 0))) rfl ?_
  refine AWops.nil ?_
  refine AW.seq ?_
  refine AW.region ?_
  refine s_assign (d := (sc (.slice none 0 0))) rfl ?_
  refine AWops.nil ?_
  refine AW.seq ?_
  refine AW.seq ?_
  refine AW.region ?_
  refine s_loadN (ds := (c_api_Model a0)) F.ag_38 F.sz_38 rfl rfl rfl ?_
  obtain ⟨r1, er1, h⟩ := Option.bind_eq_some_iff.mp h
  refine s_call2 (ρ := []) (br := false) (H2 := [(some (AObj.cells true (c_api_Model a0))), (some (AObj.cells true (rowC e_api_Item r1)))]) (d := (D.one (C.own 1 0 r1.length 14))) F.ca_41 rfl rfl (All2.cons (LendT.aggL (All2.cons .sc (All2.cons .sc (All2.cons .imm (All2.cons .imm (All2.cons .sc (All2.cons .sc (All2.cons .sc (All2.cons .imm (All2.cons .imm (All2.cons .sc (All2.cons .sc (All2.cons .sc (All2.cons .sc (All2.cons .sc (All2.cons .sc (All2.cons .imm (All2.cons .imm (All2.cons .imm All2.nil))))))))))))))))))) All2.nil) All2.nil (by decide) rfl (dossierref13_Items.meets _ a0 r1 er1) (.inl rfl) (by first | rfl | (simp only [mergeH2, orF, Bool.false_or, Bool.or_false, Bool.true_or, Bool.or_true, mergeAt, mergeObj, renO, ren_row, List.drop_succ_cons, List.drop_zero, List.map_cons, List.map_nil, Option.map_some, Option.map_none, List.length_cons, List.length_nil, Nat.zero_add, List.append_assoc, List.cons_append, List.nil_append]; done) | (simp only [mergeH2, orF, Bool.false_or, Bool.or_false, Bool.true_or, Bool.or_true, mergeAt, mergeObj, renO, ren_row, List.drop_succ_cons, List.drop_zero, List.map_cons, List.map_nil, Option.map_some, Option.map_none, List.length_cons, List.length_nil, Nat.zero_add, List.append_assoc, List.cons_append, List.nil_append]; rfl)) rfl ?_
  refine s_len (n := r1.length) F.u_34 rfl (.inr ⟨(fun _ _ h => by cases h), ⟨_, rfl⟩⟩) ?_
  refine s_move (d := (sc (.int .i64 0))) rfl ?_
  refine AWops.nil ?_
  refine AW.block ?_
  refine AW.loopw (st0 := ⟨28, (upd 28 (upd 28 (upd 28 (upd 28 (upd 28 (upd 28 topF 1 (sc (.string a1))) 2 (D.one (C.ref 0 0))) 5 (D.one (C.own 1 0 ([] : List ByteArray).length 1))) 9 (D.one (C.own 2 0 r1.length 14))) 10 (sc (.int .i64 (r1.length : Int)))) 11 (sc (.int .i64 0))), [(some (AObj.cells true (c_api_Model a0))), (some (AObj.cells true (rowC e_str ([] : List ByteArray)))), (some (AObj.cells true (rowC e_api_Item r1)))]⟩) (fun kv st => kv ≤ k ∧ ∃ (x2 : List ByteArray) (x3 : Int), dossierref27_May.l0 kv x2 x3 a0 a1 r1 = some r ∧ st = ⟨28, (upd 28 (upd 28 (upd 28 (upd 28 (upd 28 (upd 28 topF 1 (sc (.string a1))) 2 (D.one (C.ref 0 0))) 5 (D.one (C.own 1 0 x2.length 1))) 9 (D.one (C.own 2 0 r1.length 14))) 10 (sc (.int .i64 (r1.length : Int)))) 11 (sc (.int .i64 x3))), [(some (AObj.cells true (c_api_Model a0))), (some (AObj.cells true (rowC e_str x2))), (some (AObj.cells true (rowC e_api_Item r1)))]⟩) (k := k) (Weak.trans (Weak.nil (sz := 1) (i := 5) rfl) (Weak.gen (kk := 0) [0, 2, 1] [] hx rfl (by decide) (by decide) rfl rfl rfl (le_upd (le_upd (le_upd (le_upd (le_upd (le_upd (le_top _) (.t (.one .sc))) (.t (.one (.ref rfl)))) (.t (.one (.own rfl)))) (.t (.one (.own rfl)))) (.t (.one .sc))) (.t (.one .sc))) (All2.cons (.cells (fun h => h) (All2.cons .sc (All2.cons .sc (All2.cons .same (All2.cons .same (All2.cons .sc (All2.cons .sc (All2.cons .sc (All2.cons .same (All2.cons .same (All2.cons .sc (All2.cons .sc (All2.cons .sc (All2.cons .sc (All2.cons .sc (All2.cons .sc (All2.cons .same (All2.cons .same (All2.cons .same All2.nil))))))))))))))))))) (All2.cons (.cells (fun h => h) All2.nil) (All2.cons (.cells (fun h => h) (all2_row _)) All2.nil))))) ⟨Nat.le_refl _, ([] : List ByteArray), 0, h, rfl⟩ ?_
  rintro ql0 st ⟨hkl0, x2, x3, h, rfl⟩
  cases ql0 with
  | zero => exact absurd h (by simp [dossierref27_May.l0])
  | succ ql0 =>
    replace h := (dossierref27_May.l0.eq_2 _ _ _ _ _ _).symm.trans h
    refine AW.seq ?_
    refine AW.region ?_
    refine s_binI (v := (.bool (decide (x3 < (r1.length : Int))))) rfl rfl rfl ?_
    refine AWops.nil ?_
    refine AW.seq ?_
    by_cases c4 : (decide (x3 < (r1.length : Int))) = true
    · replace h := (if_pos c4).symm.trans h
      refine AW.cond_yes rfl c4 ?_
      refine AW.skip ?_
      refine AW.seq ?_
      refine AW.block ?_
      refine AW.seq ?_
      refine AW.region ?_
      obtain ⟨v5, ev5, h⟩ := Option.bind_eq_some_iff.mp h
      obtain ⟨pv5, qv5, gv5⟩ := rd_some ev5
      refine s_indexOwn (d := (D.one (C.ref 2 (0 + x3.toNat * 14)))) F.u_34 F.sz_36 rfl rfl pv5 qv5 rfl ?_
      obtain ⟨R6, hR6⟩ := row_at (f := e_api_Item) (sz := 14) (o := 0) e_api_Item_len gv5 (e_api_Item_eq v5) (by decide)
      refine s_loadN (ds := (c_api_Item v5)) F.ag_36 F.sz_36 (congrArg some hR6) rfl rfl ?_
      refine s_alloc (cs := [(C.p true (.v (.string (⟨#[]⟩ : ByteArray)))), (C.p true (.v (.string (⟨#[]⟩ : ByteArray)))), (C.p true (.v (.int .i64 0))), (C.p true (.v (.slice none 0 0))), (C.p true (.v (.slice none 0 0))), (C.p true (.v (.string (⟨#[]⟩ : ByteArray)))), (C.p true (.v (.string (⟨#[]⟩ : ByteArray)))), (C.p true (.v (.string (⟨#[]⟩ : ByteArray)))), (C.p true (.v (.bool false))), (C.p true (.v (.bool false))), (C.p true (.v (.int .i64 0))), (C.p true (.v (.slice none 0 0))), (C.p true (.v (.slice none 0 0))), (C.p true (.v (.slice none 0 0)))]) F.z_36 rfl rfl ?_
      refine s_store (cs' := (c_api_Item v5)) rfl rfl rfl (List.cons_ne_nil _ _) rfl F.sz_36 (Nat.le_of_ble_eq_true rfl) rfl ?_
      refine AWops.nil ?_
      refine AW.seq ?_
      refine AW.region ?_
      refine s_loadN (ds := (c_api_Model a0)) F.ag_38 F.sz_38 rfl rfl rfl ?_
      refine s_fieldRef F.fo_36_0 (by decide) rfl ?_
      refine s_load1 (c' := (C.p true (.v (.string v5.ID)))) F.ag_9 rfl rfl ?_
      refine s_move (d := (sc (.string a1))) rfl ?_
      obtain ⟨r7, er7, h⟩ := Option.bind_eq_some_iff.mp h
      refine s_call2 (ρ := []) (br := false) (H2 := [(some (AObj.cells true (c_api_Model a0))), (some (AObj.cells true (rowC e_str x2))), (some (AObj.cells true (rowC e_api_Item r1))), (some (AObj.cells true (c_api_Item v5)))]) (d := (sc (.int .i64 r7))) F.ca_34 rfl rfl (All2.cons (LendT.aggL (All2.cons .sc (All2.cons .sc (All2.cons .imm (All2.cons .imm (All2.cons .sc (All2.cons .sc (All2.cons .sc (All2.cons .imm (All2.cons .imm (All2.cons .sc (All2.cons .sc (All2.cons .sc (All2.cons .sc (All2.cons .sc (All2.cons .sc (All2.cons .imm (All2.cons .imm (All2.cons .imm All2.nil))))))))))))))))))) (All2.cons (.one .sc) (All2.cons (.one .sc) All2.nil))) All2.nil (by decide) rfl (dossierref27_Check.meets _ a0 v5.ID a1 r7 er7) (.inl rfl) rfl rfl ?_
      refine s_binI (v := (.bool (r7 == 0))) rfl rfl rfl ?_
      refine AWops.nil ?_
      by_cases c8 : (r7 == 0) = true
      · replace h := (if_pos c8).symm.trans h
        refine AW.cond_yes rfl c8 ?_
        refine AW.region ?_
        refine s_move (d := (D.one (C.own 1 0 x2.length 1))) rfl ?_
        refine s_fieldRef F.fo_36_0 (by decide) rfl ?_
        refine s_load1 (c' := (C.p true (.v (.string v5.ID)))) F.ag_9 rfl rfl ?_
        refine s_buildSlice (n := 1) (ps := [(0, (sc (.string v5.ID)))]) (cs := rowC e_str ([v5.ID] : List ByteArray)) F.u_31 F.sz_9 F.z_9 rfl rfl (by decide) (by decide) rfl rfl ?_
        by_cases c9 : (decide (x2.length + ([v5.ID] : List ByteArray).length ≤ 8796093022208)) = true
        · replace h := (if_pos c9).symm.trans h
          have dc9 := of_decide_eq_true c9
          refine t_append (xs := x2) (ys := ([v5.ID] : List ByteArray)) (zs := x2 ++ ([v5.ID] : List ByteArray)) (H' := [(some (AObj.cells true (c_api_Model a0))), none, (some (AObj.cells true (rowC e_api_Item r1))), (some (AObj.cells true (c_api_Item v5))), (some (AObj.cells true (rowC e_str ([v5.ID] : List ByteArray)))), (some (AObj.cells true (rowC e_str (x2 ++ ([v5.ID] : List ByteArray)))))]) F.u_31 F.in_9 rfl e_str_len (.own rfl rfl) (.own rfl rfl) F.u_31 (by omega) (by omega) rfl rfl ?_
          refine s_assign (d := (D.one (C.own 5 0 ((x2 ++ ([v5.ID] : List ByteArray)).length) 1))) rfl ?_
          refine AWops.nil ?_
          refine AW.region ?_
          refine s_binI (v := (.int .i64 (IntKind.i64.wrap (x3 + 1)))) rfl rfl rfl ?_
          refine s_move (d := (sc (.int .i64 (IntKind.i64.wrap (x3 + 1))))) rfl ?_
          refine AWops.nil ?_
          exact ⟨_, ⟨28, (upd 28 (upd 28 (upd 28 (upd 28 (upd 28 (upd 28 topF 1 (sc (.string a1))) 2 (D.one (C.ref 0 0))) 5 (D.one (C.own 1 0 (x2 ++ ([v5.ID] : List ByteArray)).length 1))) 9 (D.one (C.own 2 0 r1.length 14))) 10 (sc (.int .i64 (r1.length : Int)))) 11 (sc (.int .i64 (IntKind.i64.wrap (x3 + 1))))), [(some (AObj.cells true (c_api_Model a0))), (some (AObj.cells true (rowC e_str (x2 ++ ([v5.ID] : List ByteArray))))), (some (AObj.cells true (rowC e_api_Item r1)))]⟩, by omega, (Weak.gen (kk := 0) [0, 5, 2] [] hx rfl (by decide) (by decide) rfl rfl rfl (le_upd (le_upd (le_upd (le_upd (le_upd (le_upd (le_top _) (.t (.one .sc))) (.t (.one (.ref rfl)))) (.t (.one (.own rfl)))) (.t (.one (.own rfl)))) (.t (.one .sc))) (.t (.one .sc))) (All2.cons (.cells (fun h => h) (All2.cons .sc (All2.cons .sc (All2.cons .same (All2.cons .same (All2.cons .sc (All2.cons .sc (All2.cons .sc (All2.cons .same (All2.cons .same (All2.cons .sc (All2.cons .sc (All2.cons .sc (All2.cons .sc (All2.cons .sc (All2.cons .sc (All2.cons .same (All2.cons .same (All2.cons .same All2.nil))))))))))))))))))) (All2.cons (.cells (fun h => h) (all2_row _)) (All2.cons (.cells (fun h => h) (all2_row _)) All2.nil)))), by omega, x2 ++ ([v5.ID] : List ByteArray), IntKind.i64.wrap (x3 + 1), h, rfl⟩
        · replace h := (if_neg c9).symm.trans h
          cases h
      · replace h := (if_neg c8).symm.trans h
        replace c8 := Bool.eq_false_iff.mpr c8
        refine AW.cond_no rfl c8 ?_
        refine AW.skip ?_
        refine AW.region ?_
        refine s_binI (v := (.int .i64 (IntKind.i64.wrap (x3 + 1)))) rfl rfl rfl ?_
        refine s_move (d := (sc (.int .i64 (IntKind.i64.wrap (x3 + 1))))) rfl ?_
        refine AWops.nil ?_
        exact ⟨_, ⟨28, (upd 28 (upd 28 (upd 28 (upd 28 (upd 28 (upd 28 topF 1 (sc (.string a1))) 2 (D.one (C.ref 0 0))) 5 (D.one (C.own 1 0 x2.length 1))) 9 (D.one (C.own 2 0 r1.length 14))) 10 (sc (.int .i64 (r1.length : Int)))) 11 (sc (.int .i64 (IntKind.i64.wrap (x3 + 1))))), [(some (AObj.cells true (c_api_Model a0))), (some (AObj.cells true (rowC e_str x2))), (some (AObj.cells true (rowC e_api_Item r1)))]⟩, by omega, (Weak.gen (kk := 0) [0, 1, 2] [] hx rfl (by decide) (by decide) rfl rfl rfl (le_upd (le_upd (le_upd (le_upd (le_upd (le_upd (le_top _) (.t (.one .sc))) (.t (.one (.ref rfl)))) (.t (.one (.own rfl)))) (.t (.one (.own rfl)))) (.t (.one .sc))) (.t (.one .sc))) (All2.cons (.cells (fun h => h) (All2.cons .sc (All2.cons .sc (All2.cons .same (All2.cons .same (All2.cons .sc (All2.cons .sc (All2.cons .sc (All2.cons .same (All2.cons .same (All2.cons .sc (All2.cons .sc (All2.cons .sc (All2.cons .sc (All2.cons .sc (All2.cons .sc (All2.cons .same (All2.cons .same (All2.cons .same All2.nil))))))))))))))))))) (All2.cons (.cells (fun h => h) (all2_row _)) (All2.cons (.cells (fun h => h) (all2_row _)) All2.nil)))), by omega, x2, IntKind.i64.wrap (x3 + 1), h, rfl⟩
    · replace h := (if_neg c4).symm.trans h
      replace c4 := Bool.eq_false_iff.mpr c4
      refine AW.cond_no rfl c4 ?_
      refine AW.exit ?_
      refine AW.seq ?_
      refine AW.region ?_
      refine s_move (d := (D.one (C.own 1 0 x2.length 1))) rfl ?_
      refine s_assign (d := (D.one (C.own 1 0 x2.length 1))) rfl ?_
      refine AWops.nil ?_
      refine AW.ret ?_
      obtain rfl := Option.some.inj h
      exact ⟨_, rfl, (Weak.gen (kk := 0) [1] [] rfl rfl (by decide) (by decide) rfl rfl rfl (le_upd (le_top _) (.t (.one (.own rfl)))) (All2.cons (.cells (fun h => h) (all2_row _)) All2.nil))⟩
mutual
def slices_Equal_string_string.l0 : Nat → Int → (List ByteArray) → (List ByteArray) → Option Bool
  | 0, _, _, _ => none
  | k + 1, x2, a0, a1 => if (decide (x2 < (a0.length : Int))) = true then ((rd a0 x2).bind fun v4 => (rd a1 x2).bind fun v5 => if (v4.toList == v5.toList) = true then (slices_Equal_string_string.l0 k (IntKind.i64.wrap (x2 + 1)) a0 a1) else (some false)) else (some true)
end
def slices_Equal_string_string.f (k : Nat) (a0 : List ByteArray) (a1 : List ByteArray) : Option Bool := if ((a0.length : Int) != (a1.length : Int)) = true then (some false) else (slices_Equal_string_string.l0 k 0 a0 a1)
theorem slices_Equal_string_string.meets (k : Nat) (a0 : List ByteArray) (a1 : List ByteArray) (r : Bool) (h : slices_Equal_string_string.f k a0 a1 = some r) : Meets Try.prog 36 [(D.one (C.p false (.sl a0.length (a0.flatMap e_str)))), (D.one (C.p false (.sl a1.length (a1.flatMap e_str))))] [] (sc (.bool r)) [] := by
  unfold slices_Equal_string_string.f at h
  refine Meets.of_body (n := 26) Try.func36 rfl rfl (Nat.le_of_ble_eq_true rfl) fun x hx => ?_
  replace hx : x.k = 0 := hx
  show AW _ x _ _ ⟨26, fr0 [(D.one (C.p false (.sl a0.length (a0.flatMap e_str)))), (D.one (C.p false (.sl a1.length (a1.flatMap e_str))))], []⟩
  refine AW.seq ?_
  refine AW.region ?_
  refine s_assign (d := (sc (.bool false))) rfl ?_
  refine AWops.nil ?_
  refine AW.seq ?_
  refine AW.seq ?_
  refine AW.region ?_
  refine s_move (d := (D.one (C.p false (.sl a0.length (a0.flatMap e_str))))) rfl ?_
  refine s_len (n := a0.length) F.u_31 rfl (.inr ⟨(fun _ _ h => by cases h), ⟨_, rfl⟩⟩) ?_
  refine s_move (d := (D.one (C.p false (.sl a1.length (a1.flatMap e_str))))) rfl ?_
  refine s_len (n := a1.length) F.u_31 rfl (.inr ⟨(fun _ _ h => by cases h), ⟨_, rfl⟩⟩) ?_
  refine s_binI (v := (.bool ((a0.length : Int) != (a1.length : Int)))) rfl rfl rfl ?_
  refine AWops.nil ?_
  by_cases c1 : ((a0.length : Int) != (a1.length : Int)) = true
  · replace h := (if_pos c1).symm.trans h
    refine AW.cond_yes rfl c1 ?_
    refine AW.seq ?_
    refine AW.region ?_
    refine s_assign (d := (sc (.bool false))) rfl ?_
    refine AWops.nil ?_
    refine AW.ret ?_
    obtain rfl := Option.some.inj h
    exact ⟨_, rfl, (Weak.gen (kk := 0) [] [] rfl rfl (by decide) (by decide) rfl rfl rfl (le_upd (le_top _) (.t (.one .sc))) All2.nil)⟩
  · replace h := (if_neg c1).symm.trans h
    replace c1 := Bool.eq_false_iff.mpr c1
    refine AW.cond_no rfl c1 ?_
    refine AW.skip ?_
    refine AW.seq ?_
    refine AW.seq ?_
    refine AW.region ?_
    refine s_move (d := (D.one (C.p false (.sl a0.length (a0.flatMap e_str))))) rfl ?_
    refine s_len (n := a0.length) F.u_31 rfl (.inr ⟨(fun _ _ h => by cases h), ⟨_, rfl⟩⟩) ?_
    refine s_move (d := (sc (.int .i64 0))) rfl ?_
    refine AWops.nil ?_
    refine AW.block ?_
    refine AW.loopw (st0 := ⟨26, (upd 26 (upd 26 (upd 26 (upd 26 topF 0 (D.one (C.p false (.sl a0.length (a0.flatMap e_str))))) 1 (D.one (C.p false (.sl a1.length (a1.flatMap e_str))))) 12 (sc (.int .i64 (a0.length : Int)))) 13 (sc (.int .i64 0))), []⟩) (fun kv st => kv ≤ k ∧ ∃ (x2 : Int), slices_Equal_string_string.l0 kv x2 a0 a1 = some r ∧ st = ⟨26, (upd 26 (upd 26 (upd 26 (upd 26 topF 0 (D.one (C.p false (.sl a0.length (a0.flatMap e_str))))) 1 (D.one (C.p false (.sl a1.length (a1.flatMap e_str))))) 12 (sc (.int .i64 (a0.length : Int)))) 13 (sc (.int .i64 x2))), []⟩) (k := k) (Weak.gen (kk := 0) [] [] hx rfl (by decide) (by decide) rfl rfl rfl (le_upd (le_upd (le_upd (le_upd (le_top _) (.t (.one .same))) (.t (.one .same))) (.t (.one .sc))) (.t (.one .sc))) All2.nil) ⟨Nat.le_refl _, 0, h, rfl⟩ ?_
    rintro ql0 st ⟨hkl0, x2, h, rfl⟩
    cases ql0 with
    | zero => exact absurd h (by simp [slices_Equal_string_string.l0])
    | succ ql0 =>
      replace h := (slices_Equal_string_string.l0.eq_2 _ _ _ _).symm.trans h
      refine AW.seq ?_
      refine AW.region ?_
      refine s_binI (v := (.bool (decide (x2 < (a0.length : Int))))) rfl rfl rfl ?_
      refine AWops.nil ?_
      refine AW.seq ?_
      by_cases c3 : (decide (x2 < (a0.length : Int))) = true
      · replace h := (if_pos c3).symm.trans h
        refine AW.cond_yes rfl c3 ?_
        refine AW.skip ?_
        refine AW.seq ?_
        refine AW.block ?_
        refine AW.seq ?_
        refine AW.region ?_
        refine s_move (d := (sc (.int .i64 x2))) rfl ?_
        refine s_assign (d := (sc (.int .i64 x2))) rfl ?_
        refine AWops.nil ?_
        refine AW.seq ?_
        refine AW.weak (st' := ⟨26, (upd 26 (upd 26 (upd 26 (upd 26 (upd 26 topF 0 (D.one (C.p false (.sl a0.length (a0.flatMap e_str))))) 1 (D.one (C.p false (.sl a1.length (a1.flatMap e_str))))) 5 (sc (.int .i64 x2))) 12 (sc (.int .i64 (a0.length : Int)))) 13 (sc (.int .i64 x2))), []⟩) (Weak.gen (kk := 0) [] [] hx rfl (by decide) (by decide) rfl rfl rfl (le_upd (le_upd (le_upd (le_upd (le_upd (le_top _) (.t (.one .same))) (.t (.one .same))) (.t (.one .sc))) (.t (.one .sc))) (.t (.one .sc))) All2.nil) ?_
        obtain ⟨v4, ev4, h⟩ := Option.bind_eq_some_iff.mp h
        obtain ⟨pv4, qv4, gv4⟩ := rd_some ev4
        obtain ⟨v5, ev5, h⟩ := Option.bind_eq_some_iff.mp h
        obtain ⟨pv5, qv5, gv5⟩ := rd_some ev5
        refine AW.draw (n := 26) (L := 0) [(0, ⟨some 16, (D.one (C.p false (.sl a0.length (a0.flatMap e_str)))), [(0, (D.one (C.p false (.sl a0.length (a0.flatMap e_str)))))], [], [], none⟩), (1, ⟨some 17, (sc (.int .i64 x2)), [(5, (sc (.int .i64 x2)))], [], [], none⟩), (2, ⟨some 18, (D.one (C.peek false [P.v (.string v4)])), [(16, (D.one (C.p false (.sl a0.length (a0.flatMap e_str))))), (17, (sc (.int .i64 x2)))], [], [], none⟩), (3, ⟨some 19, (sc (.string v4)), [(18, (D.one (C.peek false [P.v (.string v4)])))], [], [], none⟩), (4, ⟨some 20, (D.one (C.p false (.sl a1.length (a1.flatMap e_str)))), [(1, (D.one (C.p false (.sl a1.length (a1.flatMap e_str)))))], [], [], none⟩), (5, ⟨some 21, (sc (.int .i64 x2)), [(5, (sc (.int .i64 x2)))], [], [], none⟩), (6, ⟨some 22, (D.one (C.peek false [P.v (.string v5)])), [(20, (D.one (C.p false (.sl a1.length (a1.flatMap e_str))))), (21, (sc (.int .i64 x2)))], [], [], none⟩), (7, ⟨some 23, (sc (.string v5)), [(22, (D.one (C.peek false [P.v (.string v5)])))], [], [], none⟩), (8, ⟨some 24, (sc (.bool (!(v4.toList == v5.toList)))), [(19, (sc (.string v4))), (23, (sc (.string v5)))], [], [], none⟩)] [[], [], [0, 1], [0, 1, 2], [], [], [4, 5], [4, 5, 6], [0, 1, 2, 3, 4, 5, 6, 7]] (Nat.le_of_ble_eq_true rfl) [0, 0, 1, 2, 0, 0, 1, 2, 3] rfl (TK := []) rfl AllK.nil' (AllF.cons' ⟨(AllS.cons' rfl AllS.nil'), AllH.nil'⟩ (AllF.cons' ⟨(AllS.cons' rfl AllS.nil'), AllH.nil'⟩ (AllF.cons' ⟨(AllS.cons' rfl (AllS.cons' rfl AllS.nil')), AllH.nil'⟩ (AllF.cons' ⟨(AllS.cons' rfl AllS.nil'), AllH.nil'⟩ (AllF.cons' ⟨(AllS.cons' rfl AllS.nil'), AllH.nil'⟩ (AllF.cons' ⟨(AllS.cons' rfl AllS.nil'), AllH.nil'⟩ (AllF.cons' ⟨(AllS.cons' rfl (AllS.cons' rfl AllS.nil')), AllH.nil'⟩ (AllF.cons' ⟨(AllS.cons' rfl AllS.nil'), AllH.nil'⟩ (AllF.cons' ⟨(AllS.cons' rfl (AllS.cons' rfl AllS.nil')), AllH.nil'⟩ AllF.nil'))))))))) ?_ ?_
        · refine (AllStep.cons' ?_ (AllStep.cons' ?_ (AllStep.cons' ?_ (AllStep.cons' ?_ (AllStep.cons' ?_ (AllStep.cons' ?_ (AllStep.cons' ?_ (AllStep.cons' ?_ (AllStep.cons' ?_ AllStep.nil')))))))))
          · intro K rest fr hv htk k
            show AWops _ x _ _ K ⟨26, (upd 26 fr 0 (D.one (C.p false (.sl a0.length (a0.flatMap e_str))))), []⟩
            refine s_move (d := (D.one (C.p false (.sl a0.length (a0.flatMap e_str))))) rfl ?_
            exact k
          · intro K rest fr hv htk k
            show AWops _ x _ _ K ⟨26, (upd 26 fr 5 (sc (.int .i64 x2))), []⟩
            refine s_move (d := (sc (.int .i64 x2))) rfl ?_
            exact k
          · intro K rest fr hv htk k
            show AWops _ x _ _ K ⟨26, (upd 26 (upd 26 fr 17 (sc (.int .i64 x2))) 16 (D.one (C.p false (.sl a0.length (a0.flatMap e_str))))), []⟩
            refine s_indexImm (ps := [P.v (.string v4)]) F.u_31 F.sz_9 rfl rfl pv4 qv4 (flat_at e_str_len gv4 (e_str_eq v4)) ?_
            exact k
          · intro K rest fr hv htk k
            show AWops _ x _ _ K ⟨26, (upd 26 fr 18 (D.one (C.peek false [P.v (.string v4)]))), []⟩
            refine s_load1 (c' := (C.p true (.v (.string v4)))) F.ag_9 rfl rfl ?_
            exact k
          · intro K rest fr hv htk k
            show AWops _ x _ _ K ⟨26, (upd 26 fr 1 (D.one (C.p false (.sl a1.length (a1.flatMap e_str))))), []⟩
            refine s_move (d := (D.one (C.p false (.sl a1.length (a1.flatMap e_str))))) rfl ?_
            exact k
          · intro K rest fr hv htk k
            show AWops _ x _ _ K ⟨26, (upd 26 fr 5 (sc (.int .i64 x2))), []⟩
            refine s_move (d := (sc (.int .i64 x2))) rfl ?_
            exact k
          · intro K rest fr hv htk k
            show AWops _ x _ _ K ⟨26, (upd 26 (upd 26 fr 21 (sc (.int .i64 x2))) 20 (D.one (C.p false (.sl a1.length (a1.flatMap e_str))))), []⟩
            refine s_indexImm (ps := [P.v (.string v5)]) F.u_31 F.sz_9 rfl rfl pv5 qv5 (flat_at e_str_len gv5 (e_str_eq v5)) ?_
            exact k
          · intro K rest fr hv htk k
            show AWops _ x _ _ K ⟨26, (upd 26 fr 22 (D.one (C.peek false [P.v (.string v5)]))), []⟩
            refine s_load1 (c' := (C.p true (.v (.string v5)))) F.ag_9 rfl rfl ?_
            exact k
          · intro K rest fr hv htk k
            show AWops _ x _ _ K ⟨26, (upd 26 (upd 26 fr 23 (sc (.string v5))) 19 (sc (.string v4))), []⟩
            refine s_binS (v := (.bool (!(v4.toList == v5.toList)))) rfl rfl rfl ?_
            exact k
        · refine AWops.weak (st' := ⟨26, (upd 26 (upd 26 (upd 26 (upd 26 (upd 26 topF 0 (D.one (C.p false (.sl a0.length (a0.flatMap e_str))))) 1 (D.one (C.p false (.sl a1.length (a1.flatMap e_str))))) 12 (sc (.int .i64 (a0.length : Int)))) 13 (sc (.int .i64 x2))) 24 (sc (.bool (!(v4.toList == v5.toList))))), []⟩) (Weak.gen (kk := 0) [] [] hx rfl (by decide) (by decide) rfl rfl rfl (le_upd (le_upd (le_upd (le_upd (le_upd (le_top _) (.t (.one .same))) (.t (.one .same))) (.t (.one .sc))) (.t (.one .sc))) (.t (.one .sc))) All2.nil) ?_
          refine AWops.nil ?_
          by_cases c6 : (v4.toList == v5.toList) = true
          · replace h := (if_pos c6).symm.trans h
            refine AW.cond_no rfl (by rw [c6] <;> rfl) ?_
            refine AW.skip ?_
            refine AW.region ?_
            refine s_binI (v := (.int .i64 (IntKind.i64.wrap (x2 + 1)))) rfl rfl rfl ?_
            refine s_move (d := (sc (.int .i64 (IntKind.i64.wrap (x2 + 1))))) rfl ?_
            refine AWops.nil ?_
            exact ⟨_, ⟨26, (upd 26 (upd 26 (upd 26 (upd 26 topF 0 (D.one (C.p false (.sl a0.length (a0.flatMap e_str))))) 1 (D.one (C.p false (.sl a1.length (a1.flatMap e_str))))) 12 (sc (.int .i64 (a0.length : Int)))) 13 (sc (.int .i64 (IntKind.i64.wrap (x2 + 1))))), []⟩, by omega, (Weak.gen (kk := 0) [] [] hx rfl (by decide) (by decide) rfl rfl rfl (le_upd (le_upd (le_upd (le_upd (le_top _) (.t (.one .same))) (.t (.one .same))) (.t (.one .sc))) (.t (.one .sc))) All2.nil), by omega, IntKind.i64.wrap (x2 + 1), h, rfl⟩
          · replace h := (if_neg c6).symm.trans h
            replace c6 := Bool.eq_false_iff.mpr c6
            refine AW.cond_yes rfl (by rw [c6] <;> rfl) ?_
            refine AW.seq ?_
            refine AW.region ?_
            refine s_assign (d := (sc (.bool false))) rfl ?_
            refine AWops.nil ?_
            refine AW.ret ?_
            obtain rfl := Option.some.inj h
            exact ⟨_, rfl, (Weak.gen (kk := 0) [] [] rfl rfl (by decide) (by decide) rfl rfl rfl (le_upd (le_top _) (.t (.one .sc))) All2.nil)⟩
      · replace h := (if_neg c3).symm.trans h
        replace c3 := Bool.eq_false_iff.mpr c3
        refine AW.cond_no rfl c3 ?_
        refine AW.exit ?_
        refine AW.seq ?_
        refine AW.region ?_
        refine s_assign (d := (sc (.bool true))) rfl ?_
        refine AWops.nil ?_
        refine AW.ret ?_
        obtain rfl := Option.some.inj h
        exact ⟨_, rfl, (Weak.gen (kk := 0) [] [] rfl rfl (by decide) (by decide) rfl rfl rfl (le_upd (le_top _) (.t (.one .sc))) All2.nil)⟩
def dossierlaw27_RolesCheck.f (k : Nat) (a0 : api_Model) (a1 : ByteArray) (a2 : ByteArray) : Option Bool := (dossierplain_Model.f k a0).bind fun r1 => if r1 = true then ((roles_Check.f k a0 a1 a2).bind fun r3 => (dossierref27_Check.f k a0 a1 a2).bind fun r4 => if (r3 == r4) = true then ((roles_Known.f k a0 a2).bind fun r6 => (dossierref27_Known.f k a0 a2).bind fun r7 => if (r6 == r7) = true then ((roles_May.f k a0 a2).bind fun r9 => (dossierref27_May.f k a0 a2).bind fun r10 => (slices_Equal_string_string.f k r9 r10).bind fun r11 => if r11 = true then ((dossierlaw27_awake.f k).bind fun r13 => some r13) else (some false)) else (some false)) else (some false)) else ((dossierlaw27_awake.f k).bind fun r14 => some r14)
theorem dossierlaw27_RolesCheck.meets (k : Nat) (a0 : api_Model) (a1 : ByteArray) (a2 : ByteArray) (r : Bool) (h : dossierlaw27_RolesCheck.f k a0 a1 a2 = some r) : Meets Try.prog 8 [(D.agg (c_api_Model a0)), (sc (.string a1)), (sc (.string a2))] [] (sc (.bool r)) [] := by
  unfold dossierlaw27_RolesCheck.f at h
  refine Meets.of_body (n := 41) Try.func8 rfl rfl (Nat.le_of_ble_eq_true rfl) fun x hx => ?_
  replace hx : x.k = 0 := hx
  show AW _ x _ _ ⟨41, fr0 [(D.agg (c_api_Model a0)), (sc (.string a1)), (sc (.string a2))], []⟩
  refine AW.seq ?_
  refine AW.region ?_
  refine s_box (cs := (c_api_Model a0)) rfl (List.cons_ne_nil _ _) rfl ?_
  refine s_assign (d := (sc (.bool false))) rfl ?_
  refine AWops.nil ?_
  refine AW.seq ?_
  refine AW.seq ?_
  refine AW.region ?_
  refine s_loadN (ds := (c_api_Model a0)) F.ag_38 F.sz_38 rfl rfl rfl ?_
  obtain ⟨r1, er1, h⟩ := Option.bind_eq_some_iff.mp h
  refine s_call2 (ρ := []) (br := false) (H2 := [(some (AObj.cells true (c_api_Model a0)))]) (d := (sc (.bool r1))) F.ca_20 rfl rfl (All2.cons (LendT.aggL (All2.cons .sc (All2.cons .sc (All2.cons .imm (All2.cons .imm (All2.cons .sc (All2.cons .sc (All2.cons .sc (All2.cons .imm (All2.cons .imm (All2.cons .sc (All2.cons .sc (All2.cons .sc (All2.cons .sc (All2.cons .sc (All2.cons .sc (All2.cons .imm (All2.cons .imm (All2.cons .imm All2.nil))))))))))))))))))) All2.nil) All2.nil (by decide) rfl (dossierplain_Model.meets _ a0 r1 er1) (.inl rfl) rfl rfl ?_
  refine s_not rfl ?_
  refine AWops.nil ?_
  by_cases c2 : r1 = true
  · replace h := (if_pos c2).symm.trans h
    refine AW.cond_no rfl (by rw [c2] <;> rfl) ?_
    refine AW.skip ?_
    refine AW.seq ?_
    refine AW.weak (st' := ⟨41, (upd 41 (upd 41 (upd 41 (upd 41 topF 1 (sc (.string a1))) 2 (sc (.string a2))) 3 (D.one (C.ref 0 0))) 6 (sc (.bool false))), [(some (AObj.cells true (c_api_Model a0)))]⟩) (Weak.gen (kk := 0) [0] [] hx rfl (by decide) (by decide) rfl rfl rfl (le_upd (le_upd (le_upd (le_upd (le_top _) (.t (.one .sc))) (.t (.one .sc))) (.t (.one (.ref rfl)))) (.t (.one .sc))) (All2.cons (.cells (fun h => h) (All2.cons .sc (All2.cons .sc (All2.cons .same (All2.cons .same (All2.cons .sc (All2.cons .sc (All2.cons .sc (All2.cons .same (All2.cons .same (All2.cons .sc (All2.cons .sc (All2.cons .sc (All2.cons .sc (All2.cons .sc (All2.cons .sc (All2.cons .same (All2.cons .same (All2.cons .same All2.nil))))))))))))))))))) All2.nil)) ?_
    obtain ⟨r3, er3, h⟩ := Option.bind_eq_some_iff.mp h
    obtain ⟨r4, er4, h⟩ := Option.bind_eq_some_iff.mp h
    by_cases c5 : (r3 == r4) = true
    · replace h := (if_pos c5).symm.trans h
      obtain ⟨r6, er6, h⟩ := Option.bind_eq_some_iff.mp h
      obtain ⟨r7, er7, h⟩ := Option.bind_eq_some_iff.mp h
      by_cases c8 : (r6 == r7) = true
      · replace h := (if_pos c8).symm.trans h
        obtain ⟨r9, er9, h⟩ := Option.bind_eq_some_iff.mp h
        obtain ⟨r10, er10, h⟩ := Option.bind_eq_some_iff.mp h
        obtain ⟨r11, er11, h⟩ := Option.bind_eq_some_iff.mp h
        by_cases c12 : r11 = true
        · replace h := (if_pos c12).symm.trans h
          obtain ⟨r13, er13, h⟩ := Option.bind_eq_some_iff.mp h
          refine AW.draw (n := 41) (L := 9) [(0, ⟨some 11, (D.agg (c_api_Model a0)), [(3, (D.one (C.ref 0 0)))], [(0, (some (AObj.cells true (c_api_Model a0))))], [], none⟩), (1, ⟨some 12, (sc (.string a1)), [(1, (sc (.string a1)))], [], [], none⟩), (2, ⟨some 13, (sc (.string a2)), [(2, (sc (.string a2)))], [], [], none⟩), (3, ⟨some 14, (sc (.int .i64 r3)), [(11, (D.agg (c_api_Model a0))), (12, (sc (.string a1))), (13, (sc (.string a2)))], [], [], none⟩), (4, ⟨some 15, (D.agg (c_api_Model a0)), [(3, (D.one (C.ref 0 0)))], [(0, (some (AObj.cells true (c_api_Model a0))))], [], none⟩), (5, ⟨some 16, (sc (.string a1)), [(1, (sc (.string a1)))], [], [], none⟩), (6, ⟨some 17, (sc (.string a2)), [(2, (sc (.string a2)))], [], [], none⟩), (7, ⟨some 18, (sc (.int .i64 r4)), [(15, (D.agg (c_api_Model a0))), (16, (sc (.string a1))), (17, (sc (.string a2)))], [], [], none⟩), (8, ⟨some 19, (sc (.bool (r3 == r4))), [(14, (sc (.int .i64 r3))), (18, (sc (.int .i64 r4)))], [], [], none⟩), (9, ⟨some 20, (sc (.bool (r3 == r4))), [(19, (sc (.bool (r3 == r4))))], [], [], none⟩), (10, ⟨some 21, (D.agg (c_api_Model a0)), [(3, (D.one (C.ref 0 0))), (20, (sc (.bool (r3 == r4))))], [(0, (some (AObj.cells true (c_api_Model a0))))], [], none⟩), (11, ⟨some 22, (sc (.string a2)), [(2, (sc (.string a2))), (20, (sc (.bool (r3 == r4))))], [], [], none⟩), (12, ⟨some 23, (sc (.bool r6)), [(20, (sc (.bool (r3 == r4)))), (21, (D.agg (c_api_Model a0))), (22, (sc (.string a2)))], [], [], none⟩), (13, ⟨some 24, (D.agg (c_api_Model a0)), [(3, (D.one (C.ref 0 0))), (20, (sc (.bool (r3 == r4))))], [(0, (some (AObj.cells true (c_api_Model a0))))], [], none⟩), (14, ⟨some 25, (sc (.string a2)), [(2, (sc (.string a2))), (20, (sc (.bool (r3 == r4))))], [], [], none⟩), (15, ⟨some 26, (sc (.bool r7)), [(20, (sc (.bool (r3 == r4)))), (24, (D.agg (c_api_Model a0))), (25, (sc (.string a2)))], [], [], none⟩), (16, ⟨some 27, (sc (.bool (r6 == r7))), [(20, (sc (.bool (r3 == r4)))), (23, (sc (.bool r6))), (26, (sc (.bool r7)))], [], [], none⟩), (17, ⟨some 28, (sc (.bool (r6 == r7))), [(20, (sc (.bool (r3 == r4)))), (27, (sc (.bool (r6 == r7))))], [], [], none⟩), (18, ⟨some 29, (sc (.bool (r6 == r7))), [(28, (sc (.bool (r6 == r7))))], [], [], none⟩), (19, ⟨some 30, (D.agg (c_api_Model a0)), [(3, (D.one (C.ref 0 0))), (29, (sc (.bool (r6 == r7))))], [(0, (some (AObj.cells true (c_api_Model a0))))], [], none⟩), (20, ⟨some 31, (sc (.string a2)), [(2, (sc (.string a2))), (29, (sc (.bool (r6 == r7))))], [], [], none⟩), (21, ⟨some 32, (D.one (C.own 5 0 r9.length 1)), [(29, (sc (.bool (r6 == r7)))), (30, (D.agg (c_api_Model a0))), (31, (sc (.string a2)))], [], [(5, (some (AObj.cells true (rowC e_str r9))))], some 5⟩), (22, ⟨some 33, (D.agg (c_api_Model a0)), [(3, (D.one (C.ref 0 0))), (29, (sc (.bool (r6 == r7))))], [(0, (some (AObj.cells true (c_api_Model a0))))], [], none⟩), (23, ⟨some 34, (sc (.string a2)), [(2, (sc (.string a2))), (29, (sc (.bool (r6 == r7))))], [], [], none⟩), (24, ⟨some 35, (D.one (C.own 6 0 r10.length 1)), [(29, (sc (.bool (r6 == r7)))), (33, (D.agg (c_api_Model a0))), (34, (sc (.string a2)))], [], [(6, (some (AObj.cells true (rowC e_str r10))))], some 6⟩), (25, ⟨some 36, (sc (.bool r11)), [(29, (sc (.bool (r6 == r7)))), (32, (D.one (C.own 5 0 r9.length 1))), (35, (D.one (C.own 6 0 r10.length 1)))], [(5, (some (AObj.cells true (rowC e_str r9)))), (6, (some (AObj.cells true (rowC e_str r10))))], [], none⟩), (26, ⟨some 37, (sc (.bool r11)), [(29, (sc (.bool (r6 == r7)))), (36, (sc (.bool r11)))], [], [], none⟩), (27, ⟨some 38, (sc (.bool r11)), [(37, (sc (.bool r11)))], [], [], none⟩), (28, ⟨some 39, (sc (.bool r13)), [(38, (sc (.bool r11)))], [], [], none⟩), (29, ⟨some 40, (sc (.bool r13)), [(38, (sc (.bool r11))), (39, (sc (.bool r13)))], [], [], none⟩), (30, ⟨some 6, (sc (.bool r13)), [(40, (sc (.bool r13)))], [], [], none⟩)] [[], [], [], [0, 1, 2], [], [], [], [0, 1, 2, 3, 4, 5, 6], [0, 1, 2, 3, 4, 5, 6, 7], [0, 1, 2, 3, 4, 5, 6, 7, 8], [0, 1, 2, 3, 4, 5, 6, 7, 8, 9], [0, 1, 2, 3, 4, 5, 6, 7, 8, 9], [0, 1, 2, 3, 4, 5, 6, 7, 8, 9, 10, 11], [0, 1, 2, 3, 4, 5, 6, 7, 8, 9], [0, 1, 2, 3, 4, 5, 6, 7, 8, 9], [0, 1, 2, 3, 4, 5, 6, 7, 8, 9, 10, 11, 12, 13, 14], [0, 1, 2, 3, 4, 5, 6, 7, 8, 9, 10, 11, 12, 13, 14, 15], [0, 1, 2, 3, 4, 5, 6, 7, 8, 9, 10, 11, 12, 13, 14, 15, 16], [0, 1, 2, 3, 4, 5, 6, 7, 8, 9, 10, 11, 12, 13, 14, 15, 16, 17], [0, 1, 2, 3, 4, 5, 6, 7, 8, 9, 10, 11, 12, 13, 14, 15, 16, 17, 18], [0, 1, 2, 3, 4, 5, 6, 7, 8, 9, 10, 11, 12, 13, 14, 15, 16, 17, 18], [0, 1, 2, 3, 4, 5, 6, 7, 8, 9, 10, 11, 12, 13, 14, 15, 16, 17, 18, 19, 20], [0, 1, 2, 3, 4, 5, 6, 7, 8, 9, 10, 11, 12, 13, 14, 15, 16, 17, 18], [0, 1, 2, 3, 4, 5, 6, 7, 8, 9, 10, 11, 12, 13, 14, 15, 16, 17, 18], [0, 1, 2, 3, 4, 5, 6, 7, 8, 9, 10, 11, 12, 13, 14, 15, 16, 17, 18, 19, 20, 21, 22, 23], [0, 1, 2, 3, 4, 5, 6, 7, 8, 9, 10, 11, 12, 13, 14, 15, 16, 17, 18, 19, 20, 21, 22, 23, 24], [0, 1, 2, 3, 4, 5, 6, 7, 8, 9, 10, 11, 12, 13, 14, 15, 16, 17, 18, 19, 20, 21, 22, 23, 24, 25], [0, 1, 2, 3, 4, 5, 6, 7, 8, 9, 10, 11, 12, 13, 14, 15, 16, 17, 18, 19, 20, 21, 22, 23, 24, 25, 26], [0, 1, 2, 3, 4, 5, 6, 7, 8, 9, 10, 11, 12, 13, 14, 15, 16, 17, 18, 19, 20, 21, 22, 23, 24, 25, 26, 27], [0, 1, 2, 3, 4, 5, 6, 7, 8, 9, 10, 11, 12, 13, 14, 15, 16, 17, 18, 19, 20, 21, 22, 23, 24, 25, 26, 27, 28], [0, 1, 2, 3, 4, 5, 6, 7, 8, 9, 10, 11, 12, 13, 14, 15, 16, 17, 18, 19, 20, 21, 22, 23, 24, 25, 26, 27, 28, 29]] (Nat.le_of_ble_eq_true rfl) [0, 0, 0, 1, 0, 0, 0, 2, 3, 4, 5, 5, 6, 5, 5, 7, 8, 9, 10, 11, 11, 12, 11, 11, 13, 14, 15, 16, 17, 18, 19] rfl (TK := [(21, 5), (24, 6)]) rfl (AllK.cons' ⟨(tk_upd (tk_upd (tk_upd (tk_upd tk_top rfl) rfl) rfl) rfl), (AllT.cons' rfl AllT.nil'), (AllF.cons' (.inr rfl) (AllF.cons' (.inr rfl) (AllF.cons' (.inr rfl) (AllF.cons' (.inr rfl) (AllF.cons' (.inr rfl) (AllF.cons' (.inr rfl) (AllF.cons' (.inr rfl) (AllF.cons' (.inr rfl) (AllF.cons' (.inr rfl) (AllF.cons' (.inr rfl) (AllF.cons' (.inr rfl) (AllF.cons' (.inr rfl) (AllF.cons' (.inr rfl) (AllF.cons' (.inr rfl) (AllF.cons' (.inr rfl) (AllF.cons' (.inr rfl) (AllF.cons' (.inr rfl) (AllF.cons' (.inr rfl) (AllF.cons' (.inr rfl) (AllF.cons' (.inr rfl) (AllF.cons' (.inr rfl) (AllF.cons' (.inl rfl) (AllF.cons' (.inr rfl) (AllF.cons' (.inr rfl) (AllF.cons' (.inl rfl) (AllF.cons' (.inl rfl) (AllF.cons' (.inl rfl) (AllF.cons' (.inl rfl) (AllF.cons' (.inl rfl) (AllF.cons' (.inl rfl) (AllF.cons' (.inl rfl) AllF.nil')))))))))))))))))))))))))))))))⟩ (AllK.cons' ⟨(tk_upd (tk_upd (tk_upd (tk_upd tk_top rfl) rfl) rfl) rfl), (AllT.cons' rfl AllT.nil'), (AllF.cons' (.inr rfl) (AllF.cons' (.inr rfl) (AllF.cons' (.inr rfl) (AllF.cons' (.inr rfl) (AllF.cons' (.inr rfl) (AllF.cons' (.inr rfl) (AllF.cons' (.inr rfl) (AllF.cons' (.inr rfl) (AllF.cons' (.inr rfl) (AllF.cons' (.inr rfl) (AllF.cons' (.inr rfl) (AllF.cons' (.inr rfl) (AllF.cons' (.inr rfl) (AllF.cons' (.inr rfl) (AllF.cons' (.inr rfl) (AllF.cons' (.inr rfl) (AllF.cons' (.inr rfl) (AllF.cons' (.inr rfl) (AllF.cons' (.inr rfl) (AllF.cons' (.inr rfl) (AllF.cons' (.inr rfl) (AllF.cons' (.inr (by unfold tkFoot; simp only [List.all_cons, List.all_nil, tkO_row, Bool.and_true, Bool.true_and]; rfl)) (AllF.cons' (.inr rfl) (AllF.cons' (.inr rfl) (AllF.cons' (.inl rfl) (AllF.cons' (.inl rfl) (AllF.cons' (.inl rfl) (AllF.cons' (.inl rfl) (AllF.cons' (.inl rfl) (AllF.cons' (.inl rfl) (AllF.cons' (.inl rfl) AllF.nil')))))))))))))))))))))))))))))))⟩ AllK.nil')) (AllF.cons' ⟨(AllS.cons' rfl AllS.nil'), (AllH.cons' rfl AllH.nil')⟩ (AllF.cons' ⟨(AllS.cons' rfl AllS.nil'), AllH.nil'⟩ (AllF.cons' ⟨(AllS.cons' rfl AllS.nil'), AllH.nil'⟩ (AllF.cons' ⟨(AllS.cons' rfl (AllS.cons' rfl (AllS.cons' rfl AllS.nil'))), AllH.nil'⟩ (AllF.cons' ⟨(AllS.cons' rfl AllS.nil'), (AllH.cons' rfl AllH.nil')⟩ (AllF.cons' ⟨(AllS.cons' rfl AllS.nil'), AllH.nil'⟩ (AllF.cons' ⟨(AllS.cons' rfl AllS.nil'), AllH.nil'⟩ (AllF.cons' ⟨(AllS.cons' rfl (AllS.cons' rfl (AllS.cons' rfl AllS.nil'))), AllH.nil'⟩ (AllF.cons' ⟨(AllS.cons' rfl (AllS.cons' rfl AllS.nil')), AllH.nil'⟩ (AllF.cons' ⟨(AllS.cons' rfl AllS.nil'), AllH.nil'⟩ (AllF.cons' ⟨(AllS.cons' rfl (AllS.cons' rfl AllS.nil')), (AllH.cons' rfl AllH.nil')⟩ (AllF.cons' ⟨(AllS.cons' rfl (AllS.cons' rfl AllS.nil')), AllH.nil'⟩ (AllF.cons' ⟨(AllS.cons' rfl (AllS.cons' rfl (AllS.cons' rfl AllS.nil'))), AllH.nil'⟩ (AllF.cons' ⟨(AllS.cons' rfl (AllS.cons' rfl AllS.nil')), (AllH.cons' rfl AllH.nil')⟩ (AllF.cons' ⟨(AllS.cons' rfl (AllS.cons' rfl AllS.nil')), AllH.nil'⟩ (AllF.cons' ⟨(AllS.cons' rfl (AllS.cons' rfl (AllS.cons' rfl AllS.nil'))), AllH.nil'⟩ (AllF.cons' ⟨(AllS.cons' rfl (AllS.cons' rfl (AllS.cons' rfl AllS.nil'))), AllH.nil'⟩ (AllF.cons' ⟨(AllS.cons' rfl (AllS.cons' rfl AllS.nil')), AllH.nil'⟩ (AllF.cons' ⟨(AllS.cons' rfl AllS.nil'), AllH.nil'⟩ (AllF.cons' ⟨(AllS.cons' rfl (AllS.cons' rfl AllS.nil')), (AllH.cons' rfl AllH.nil')⟩ (AllF.cons' ⟨(AllS.cons' rfl (AllS.cons' rfl AllS.nil')), AllH.nil'⟩ (AllF.cons' ⟨(AllS.cons' rfl (AllS.cons' rfl (AllS.cons' rfl AllS.nil'))), AllH.nil'⟩ (AllF.cons' ⟨(AllS.cons' rfl (AllS.cons' rfl AllS.nil')), (AllH.cons' rfl AllH.nil')⟩ (AllF.cons' ⟨(AllS.cons' rfl (AllS.cons' rfl AllS.nil')), AllH.nil'⟩ (AllF.cons' ⟨(AllS.cons' rfl (AllS.cons' rfl (AllS.cons' rfl AllS.nil'))), AllH.nil'⟩ (AllF.cons' ⟨(AllS.cons' rfl (AllS.cons' rfl (AllS.cons' rfl AllS.nil'))), (AllH.cons' rfl (AllH.cons' rfl AllH.nil'))⟩ (AllF.cons' ⟨(AllS.cons' rfl (AllS.cons' rfl AllS.nil')), AllH.nil'⟩ (AllF.cons' ⟨(AllS.cons' rfl AllS.nil'), AllH.nil'⟩ (AllF.cons' ⟨(AllS.cons' rfl AllS.nil'), AllH.nil'⟩ (AllF.cons' ⟨(AllS.cons' rfl (AllS.cons' rfl AllS.nil')), AllH.nil'⟩ (AllF.cons' ⟨(AllS.cons' rfl AllS.nil'), AllH.nil'⟩ AllF.nil'))))))))))))))))))))))))))))))) ?_ ?_
          · refine (AllStep.cons' ?_ (AllStep.cons' ?_ (AllStep.cons' ?_ (AllStep.cons' ?_ (AllStep.cons' ?_ (AllStep.cons' ?_ (AllStep.cons' ?_ (AllStep.cons' ?_ (AllStep.cons' ?_ (AllStep.cons' ?_ (AllStep.cons' ?_ (AllStep.cons' ?_ (AllStep.cons' ?_ (AllStep.cons' ?_ (AllStep.cons' ?_ (AllStep.cons' ?_ (AllStep.cons' ?_ (AllStep.cons' ?_ (AllStep.cons' ?_ (AllStep.cons' ?_ (AllStep.cons' ?_ (AllStep.cons' ?_ (AllStep.cons' ?_ (AllStep.cons' ?_ (AllStep.cons' ?_ (AllStep.cons' ?_ (AllStep.cons' ?_ (AllStep.cons' ?_ (AllStep.cons' ?_ (AllStep.cons' ?_ (AllStep.cons' ?_ AllStep.nil')))))))))))))))))))))))))))))))
            · intro K rest fr hv htk k
              show AWops _ x _ _ K ⟨41, (upd 41 fr 3 (D.one (C.ref 0 0))), [(some (AObj.cells true (c_api_Model a0))), (hv 1), (hv 2), (hv 3), (hv 4), (hv 5), (hv 6), (hv 7), (hv 8)]⟩
              refine s_loadN (ds := (c_api_Model a0)) F.ag_38 F.sz_38 rfl rfl rfl ?_
              exact k
            · intro K rest fr hv htk k
              show AWops _ x _ _ K ⟨41, (upd 41 fr 1 (sc (.string a1))), [(hv 0), (hv 1), (hv 2), (hv 3), (hv 4), (hv 5), (hv 6), (hv 7), (hv 8)]⟩
              refine s_move (d := (sc (.string a1))) rfl ?_
              exact k
            · intro K rest fr hv htk k
              show AWops _ x _ _ K ⟨41, (upd 41 fr 2 (sc (.string a2))), [(hv 0), (hv 1), (hv 2), (hv 3), (hv 4), (hv 5), (hv 6), (hv 7), (hv 8)]⟩
              refine s_move (d := (sc (.string a2))) rfl ?_
              exact k
            · intro K rest fr hv htk k
              show AWops _ x _ _ K ⟨41, (upd 41 (upd 41 (upd 41 fr 13 (sc (.string a2))) 12 (sc (.string a1))) 11 (D.agg (c_api_Model a0))), [(hv 0), (hv 1), (hv 2), (hv 3), (hv 4), (hv 5), (hv 6), (hv 7), (hv 8)]⟩
              refine s_call2 (ρ := []) (br := false) (H2 := [(hv 0), (hv 1), (hv 2), (hv 3), (hv 4), (hv 5), (hv 6), (hv 7), (hv 8)]) (d := (sc (.int .i64 r3))) F.ca_23 rfl rfl (All2.cons (LendT.aggL (All2.cons .sc (All2.cons .sc (All2.cons .imm (All2.cons .imm (All2.cons .sc (All2.cons .sc (All2.cons .sc (All2.cons .imm (All2.cons .imm (All2.cons .sc (All2.cons .sc (All2.cons .sc (All2.cons .sc (All2.cons .sc (All2.cons .sc (All2.cons .imm (All2.cons .imm (All2.cons .imm All2.nil))))))))))))))))))) (All2.cons (.one .sc) (All2.cons (.one .sc) All2.nil))) All2.nil (by decide) rfl (roles_Check.meets _ a0 a1 a2 r3 er3) (.inl rfl) rfl rfl ?_
              exact k
            · intro K rest fr hv htk k
              show AWops _ x _ _ K ⟨41, (upd 41 fr 3 (D.one (C.ref 0 0))), [(some (AObj.cells true (c_api_Model a0))), (hv 1), (hv 2), (hv 3), (hv 4), (hv 5), (hv 6), (hv 7), (hv 8)]⟩
              refine s_loadN (ds := (c_api_Model a0)) F.ag_38 F.sz_38 rfl rfl rfl ?_
              exact k
            · intro K rest fr hv htk k
              show AWops _ x _ _ K ⟨41, (upd 41 fr 1 (sc (.string a1))), [(hv 0), (hv 1), (hv 2), (hv 3), (hv 4), (hv 5), (hv 6), (hv 7), (hv 8)]⟩
              refine s_move (d := (sc (.string a1))) rfl ?_
              exact k
            · intro K rest fr hv htk k
              show AWops _ x _ _ K ⟨41, (upd 41 fr 2 (sc (.string a2))), [(hv 0), (hv 1), (hv 2), (hv 3), (hv 4), (hv 5), (hv 6), (hv 7), (hv 8)]⟩
              refine s_move (d := (sc (.string a2))) rfl ?_
              exact k
            · intro K rest fr hv htk k
              show AWops _ x _ _ K ⟨41, (upd 41 (upd 41 (upd 41 fr 17 (sc (.string a2))) 16 (sc (.string a1))) 15 (D.agg (c_api_Model a0))), [(hv 0), (hv 1), (hv 2), (hv 3), (hv 4), (hv 5), (hv 6), (hv 7), (hv 8)]⟩
              refine s_call2 (ρ := []) (br := false) (H2 := [(hv 0), (hv 1), (hv 2), (hv 3), (hv 4), (hv 5), (hv 6), (hv 7), (hv 8)]) (d := (sc (.int .i64 r4))) F.ca_34 rfl rfl (All2.cons (LendT.aggL (All2.cons .sc (All2.cons .sc (All2.cons .imm (All2.cons .imm (All2.cons .sc (All2.cons .sc (All2.cons .sc (All2.cons .imm (All2.cons .imm (All2.cons .sc (All2.cons .sc (All2.cons .sc (All2.cons .sc (All2.cons .sc (All2.cons .sc (All2.cons .imm (All2.cons .imm (All2.cons .imm All2.nil))))))))))))))))))) (All2.cons (.one .sc) (All2.cons (.one .sc) All2.nil))) All2.nil (by decide) rfl (dossierref27_Check.meets _ a0 a1 a2 r4 er4) (.inl rfl) rfl rfl ?_
              exact k
            · intro K rest fr hv htk k
              show AWops _ x _ _ K ⟨41, (upd 41 (upd 41 fr 18 (sc (.int .i64 r4))) 14 (sc (.int .i64 r3))), [(hv 0), (hv 1), (hv 2), (hv 3), (hv 4), (hv 5), (hv 6), (hv 7), (hv 8)]⟩
              refine s_binI (v := (.bool (r3 == r4))) rfl rfl rfl ?_
              exact k
            · intro K rest fr hv htk k
              show AWops _ x _ _ K ⟨41, (upd 41 fr 19 (sc (.bool (r3 == r4)))), [(hv 0), (hv 1), (hv 2), (hv 3), (hv 4), (hv 5), (hv 6), (hv 7), (hv 8)]⟩
              refine s_move (d := (sc (.bool (r3 == r4)))) rfl ?_
              exact k
            · intro K rest fr hv htk k
              show AWops _ x _ _ K ⟨41, (upd 41 (upd 41 fr 20 (sc (.bool (r3 == r4)))) 3 (D.one (C.ref 0 0))), [(some (AObj.cells true (c_api_Model a0))), (hv 1), (hv 2), (hv 3), (hv 4), (hv 5), (hv 6), (hv 7), (hv 8)]⟩
              refine AWops.guard_yes rfl (Nat.le_of_ble_eq_true rfl) rfl c5 ?_
              refine s_loadN (ds := (c_api_Model a0)) F.ag_38 F.sz_38 rfl rfl rfl ?_
              exact k
            · intro K rest fr hv htk k
              show AWops _ x _ _ K ⟨41, (upd 41 (upd 41 fr 20 (sc (.bool (r3 == r4)))) 2 (sc (.string a2))), [(hv 0), (hv 1), (hv 2), (hv 3), (hv 4), (hv 5), (hv 6), (hv 7), (hv 8)]⟩
              refine AWops.guard_yes rfl (Nat.le_of_ble_eq_true rfl) rfl c5 ?_
              refine s_move (d := (sc (.string a2))) rfl ?_
              exact k
            · intro K rest fr hv htk k
              show AWops _ x _ _ K ⟨41, (upd 41 (upd 41 (upd 41 fr 22 (sc (.string a2))) 21 (D.agg (c_api_Model a0))) 20 (sc (.bool (r3 == r4)))), [(hv 0), (hv 1), (hv 2), (hv 3), (hv 4), (hv 5), (hv 6), (hv 7), (hv 8)]⟩
              refine AWops.guard_yes rfl (Nat.le_of_ble_eq_true rfl) rfl c5 ?_
              refine s_call2 (ρ := []) (br := false) (H2 := [(hv 0), (hv 1), (hv 2), (hv 3), (hv 4), (hv 5), (hv 6), (hv 7), (hv 8)]) (d := (sc (.bool r6))) F.ca_24 rfl rfl (All2.cons (LendT.aggL (All2.cons .sc (All2.cons .sc (All2.cons .imm (All2.cons .imm (All2.cons .sc (All2.cons .sc (All2.cons .sc (All2.cons .imm (All2.cons .imm (All2.cons .sc (All2.cons .sc (All2.cons .sc (All2.cons .sc (All2.cons .sc (All2.cons .sc (All2.cons .imm (All2.cons .imm (All2.cons .imm All2.nil))))))))))))))))))) (All2.cons (.one .sc) All2.nil)) All2.nil (by decide) rfl (roles_Known.meets _ a0 a2 r6 er6) (.inl rfl) rfl rfl ?_
              exact k
            · intro K rest fr hv htk k
              show AWops _ x _ _ K ⟨41, (upd 41 (upd 41 fr 20 (sc (.bool (r3 == r4)))) 3 (D.one (C.ref 0 0))), [(some (AObj.cells true (c_api_Model a0))), (hv 1), (hv 2), (hv 3), (hv 4), (hv 5), (hv 6), (hv 7), (hv 8)]⟩
              refine AWops.guard_yes rfl (Nat.le_of_ble_eq_true rfl) rfl c5 ?_
              refine s_loadN (ds := (c_api_Model a0)) F.ag_38 F.sz_38 rfl rfl rfl ?_
              exact k
            · intro K rest fr hv htk k
              show AWops _ x _ _ K ⟨41, (upd 41 (upd 41 fr 20 (sc (.bool (r3 == r4)))) 2 (sc (.string a2))), [(hv 0), (hv 1), (hv 2), (hv 3), (hv 4), (hv 5), (hv 6), (hv 7), (hv 8)]⟩
              refine AWops.guard_yes rfl (Nat.le_of_ble_eq_true rfl) rfl c5 ?_
              refine s_move (d := (sc (.string a2))) rfl ?_
              exact k
            · intro K rest fr hv htk k
              show AWops _ x _ _ K ⟨41, (upd 41 (upd 41 (upd 41 fr 25 (sc (.string a2))) 24 (D.agg (c_api_Model a0))) 20 (sc (.bool (r3 == r4)))), [(hv 0), (hv 1), (hv 2), (hv 3), (hv 4), (hv 5), (hv 6), (hv 7), (hv 8)]⟩
              refine AWops.guard_yes rfl (Nat.le_of_ble_eq_true rfl) rfl c5 ?_
              refine s_call2 (ρ := []) (br := false) (H2 := [(hv 0), (hv 1), (hv 2), (hv 3), (hv 4), (hv 5), (hv 6), (hv 7), (hv 8)]) (d := (sc (.bool r7))) F.ca_35 rfl rfl (All2.cons (LendT.aggL (All2.cons .sc (All2.cons .sc (All2.cons .imm (All2.cons .imm (All2.cons .sc (All2.cons .sc (All2.cons .sc (All2.cons .imm (All2.cons .imm (All2.cons .sc (All2.cons .sc (All2.cons .sc (All2.cons .sc (All2.cons .sc (All2.cons .sc (All2.cons .imm (All2.cons .imm (All2.cons .imm All2.nil))))))))))))))))))) (All2.cons (.one .sc) All2.nil)) All2.nil (by decide) rfl (dossierref27_Known.meets _ a0 a2 r7 er7) (.inl rfl) rfl rfl ?_
              exact k
            · intro K rest fr hv htk k
              show AWops _ x _ _ K ⟨41, (upd 41 (upd 41 (upd 41 fr 26 (sc (.bool r7))) 23 (sc (.bool r6))) 20 (sc (.bool (r3 == r4)))), [(hv 0), (hv 1), (hv 2), (hv 3), (hv 4), (hv 5), (hv 6), (hv 7), (hv 8)]⟩
              refine AWops.guard_yes rfl (Nat.le_of_ble_eq_true rfl) rfl c5 ?_
              refine s_binB (b := (r6 == r7)) F.u_4 rfl rfl (.inl ⟨rfl, rfl⟩) ?_
              exact k
            · intro K rest fr hv htk k
              show AWops _ x _ _ K ⟨41, (upd 41 (upd 41 fr 27 (sc (.bool (r6 == r7)))) 20 (sc (.bool (r3 == r4)))), [(hv 0), (hv 1), (hv 2), (hv 3), (hv 4), (hv 5), (hv 6), (hv 7), (hv 8)]⟩
              refine s_pick_yes (d := (sc (.bool (r6 == r7)))) rfl c5 rfl ?_
              exact k
            · intro K rest fr hv htk k
              show AWops _ x _ _ K ⟨41, (upd 41 fr 28 (sc (.bool (r6 == r7)))), [(hv 0), (hv 1), (hv 2), (hv 3), (hv 4), (hv 5), (hv 6), (hv 7), (hv 8)]⟩
              refine s_move (d := (sc (.bool (r6 == r7)))) rfl ?_
              exact k
            · intro K rest fr hv htk k
              show AWops _ x _ _ K ⟨41, (upd 41 (upd 41 fr 29 (sc (.bool (r6 == r7)))) 3 (D.one (C.ref 0 0))), [(some (AObj.cells true (c_api_Model a0))), (hv 1), (hv 2), (hv 3), (hv 4), (hv 5), (hv 6), (hv 7), (hv 8)]⟩
              refine AWops.guard_yes rfl (Nat.le_of_ble_eq_true rfl) rfl c8 ?_
              refine s_loadN (ds := (c_api_Model a0)) F.ag_38 F.sz_38 rfl rfl rfl ?_
              exact k
            · intro K rest fr hv htk k
              show AWops _ x _ _ K ⟨41, (upd 41 (upd 41 fr 29 (sc (.bool (r6 == r7)))) 2 (sc (.string a2))), [(hv 0), (hv 1), (hv 2), (hv 3), (hv 4), (hv 5), (hv 6), (hv 7), (hv 8)]⟩
              refine AWops.guard_yes rfl (Nat.le_of_ble_eq_true rfl) rfl c8 ?_
              refine s_move (d := (sc (.string a2))) rfl ?_
              exact k
            · intro K rest fr hv htk k
              show AWops _ x _ _ K ⟨41, (upd 41 (upd 41 (upd 41 fr 31 (sc (.string a2))) 30 (D.agg (c_api_Model a0))) 29 (sc (.bool (r6 == r7)))), [(hv 0), (hv 1), (hv 2), (hv 3), (hv 4), (hv 5), (hv 6), (hv 7), (hv 8)]⟩
              refine AWops.guard_yes rfl (Nat.le_of_ble_eq_true rfl) rfl c8 ?_
              refine s_call2 (ρ := []) (br := false) (H2 := [(hv 0), (hv 1), (hv 2), (hv 3), (hv 4), (hv 5), (hv 6), (hv 7), (hv 8), (some (AObj.cells true (rowC e_str r9)))]) (d := (D.one (C.own 9 0 r9.length 1))) F.ca_33 rfl rfl (All2.cons (LendT.aggL (All2.cons .sc (All2.cons .sc (All2.cons .imm (All2.cons .imm (All2.cons .sc (All2.cons .sc (All2.cons .sc (All2.cons .imm (All2.cons .imm (All2.cons .sc (All2.cons .sc (All2.cons .sc (All2.cons .sc (All2.cons .sc (All2.cons .sc (All2.cons .imm (All2.cons .imm (All2.cons .imm All2.nil))))))))))))))))))) (All2.cons (.one .sc) All2.nil)) All2.nil (by decide) rfl (roles_May.meets _ a0 a2 r9 er9) (.inl rfl) (by first | rfl | (simp only [mergeH2, orF, Bool.false_or, Bool.or_false, Bool.true_or, Bool.or_true, mergeAt, mergeObj, renO, ren_row, List.drop_succ_cons, List.drop_zero, List.map_cons, List.map_nil, Option.map_some, Option.map_none, List.length_cons, List.length_nil, Nat.zero_add, List.append_assoc, List.cons_append, List.nil_append]; done) | (simp only [mergeH2, orF, Bool.false_or, Bool.or_false, Bool.true_or, Bool.or_true, mergeAt, mergeObj, renO, ren_row, List.drop_succ_cons, List.drop_zero, List.map_cons, List.map_nil, Option.map_some, Option.map_none, List.length_cons, List.length_nil, Nat.zero_add, List.append_assoc, List.cons_append, List.nil_append]; rfl)) rfl ?_
              refine AWops.weak (st' := ⟨41, (upd 41 (upd 41 (upd 41 (upd 41 fr 31 (sc (.string a2))) 30 (D.agg (c_api_Model a0))) 29 (sc (.bool (r6 == r7)))) 32 (D.one (C.own 5 0 r9.length 1))), [(hv 0), (hv 1), (hv 2), (hv 3), (hv 4), (some (AObj.cells true (rowC e_str r9))), (hv 6), (hv 7), (hv 8)]⟩) (Weak.gen (kk := 0) [0, 1, 2, 3, 4, 9, 6, 7, 8] [] hx rfl (by decide) (by decide) rfl rfl rfl (le_upd2 (le_ok (p := 5) (L := 9) rfl (htk 5 rfl).1) (.t (.one (.own rfl)))) (All2.cons (ole_ok (p := 5) (L := 9) rfl ((htk 5 rfl).2 0)) (All2.cons (ole_ok (p := 5) (L := 9) rfl ((htk 5 rfl).2 1)) (All2.cons (ole_ok (p := 5) (L := 9) rfl ((htk 5 rfl).2 2)) (All2.cons (ole_ok (p := 5) (L := 9) rfl ((htk 5 rfl).2 3)) (All2.cons (ole_ok (p := 5) (L := 9) rfl ((htk 5 rfl).2 4)) (All2.cons (.cells (fun h => h) (all2_row _)) (All2.cons (ole_ok (p := 5) (L := 9) rfl ((htk 5 rfl).2 6)) (All2.cons (ole_ok (p := 5) (L := 9) rfl ((htk 5 rfl).2 7)) (All2.cons (ole_ok (p := 5) (L := 9) rfl ((htk 5 rfl).2 8)) All2.nil)))))))))) ?_
              exact k
            · intro K rest fr hv htk k
              show AWops _ x _ _ K ⟨41, (upd 41 (upd 41 fr 29 (sc (.bool (r6 == r7)))) 3 (D.one (C.ref 0 0))), [(some (AObj.cells true (c_api_Model a0))), (hv 1), (hv 2), (hv 3), (hv 4), (hv 5), (hv 6), (hv 7), (hv 8)]⟩
              refine AWops.guard_yes rfl (Nat.le_of_ble_eq_true rfl) rfl c8 ?_
              refine s_loadN (ds := (c_api_Model a0)) F.ag_38 F.sz_38 rfl rfl rfl ?_
              exact k
            · intro K rest fr hv htk k
              show AWops _ x _ _ K ⟨41, (upd 41 (upd 41 fr 29 (sc (.bool (r6 == r7)))) 2 (sc (.string a2))), [(hv 0), (hv 1), (hv 2), (hv 3), (hv 4), (hv 5), (hv 6), (hv 7), (hv 8)]⟩
              refine AWops.guard_yes rfl (Nat.le_of_ble_eq_true rfl) rfl c8 ?_
              refine s_move (d := (sc (.string a2))) rfl ?_
              exact k
            · intro K rest fr hv htk k
              show AWops _ x _ _ K ⟨41, (upd 41 (upd 41 (upd 41 fr 34 (sc (.string a2))) 33 (D.agg (c_api_Model a0))) 29 (sc (.bool (r6 == r7)))), [(hv 0), (hv 1), (hv 2), (hv 3), (hv 4), (hv 5), (hv 6), (hv 7), (hv 8)]⟩
              refine AWops.guard_yes rfl (Nat.le_of_ble_eq_true rfl) rfl c8 ?_
              refine s_call2 (ρ := []) (br := false) (H2 := [(hv 0), (hv 1), (hv 2), (hv 3), (hv 4), (hv 5), (hv 6), (hv 7), (hv 8), (some (AObj.cells true (rowC e_str r10)))]) (d := (D.one (C.own 9 0 r10.length 1))) F.ca_37 rfl rfl (All2.cons (LendT.aggL (All2.cons .sc (All2.cons .sc (All2.cons .imm (All2.cons .imm (All2.cons .sc (All2.cons .sc (All2.cons .sc (All2.cons .imm (All2.cons .imm (All2.cons .sc (All2.cons .sc (All2.cons .sc (All2.cons .sc (All2.cons .sc (All2.cons .sc (All2.cons .imm (All2.cons .imm (All2.cons .imm All2.nil))))))))))))))))))) (All2.cons (.one .sc) All2.nil)) All2.nil (by decide) rfl (dossierref27_May.meets _ a0 a2 r10 er10) (.inl rfl) (by first | rfl | (simp only [mergeH2, orF, Bool.false_or, Bool.or_false, Bool.true_or, Bool.or_true, mergeAt, mergeObj, renO, ren_row, List.drop_succ_cons, List.drop_zero, List.map_cons, List.map_nil, Option.map_some, Option.map_none, List.length_cons, List.length_nil, Nat.zero_add, List.append_assoc, List.cons_append, List.nil_append]; done) | (simp only [mergeH2, orF, Bool.false_or, Bool.or_false, Bool.true_or, Bool.or_true, mergeAt, mergeObj, renO, ren_row, List.drop_succ_cons, List.drop_zero, List.map_cons, List.map_nil, Option.map_some, Option.map_none, List.length_cons, List.length_nil, Nat.zero_add, List.append_assoc, List.cons_append, List.nil_append]; rfl)) rfl ?_
              refine AWops.weak (st' := ⟨41, (upd 41 (upd 41 (upd 41 (upd 41 fr 34 (sc (.string a2))) 33 (D.agg (c_api_Model a0))) 29 (sc (.bool (r6 == r7)))) 35 (D.one (C.own 6 0 r10.length 1))), [(hv 0), (hv 1), (hv 2), (hv 3), (hv 4), (hv 5), (some (AObj.cells true (rowC e_str r10))), (hv 7), (hv 8)]⟩) (Weak.gen (kk := 0) [0, 1, 2, 3, 4, 5, 9, 7, 8] [] hx rfl (by decide) (by decide) rfl rfl rfl (le_upd2 (le_ok (p := 6) (L := 9) rfl (htk 6 rfl).1) (.t (.one (.own rfl)))) (All2.cons (ole_ok (p := 6) (L := 9) rfl ((htk 6 rfl).2 0)) (All2.cons (ole_ok (p := 6) (L := 9) rfl ((htk 6 rfl).2 1)) (All2.cons (ole_ok (p := 6) (L := 9) rfl ((htk 6 rfl).2 2)) (All2.cons (ole_ok (p := 6) (L := 9) rfl ((htk 6 rfl).2 3)) (All2.cons (ole_ok (p := 6) (L := 9) rfl ((htk 6 rfl).2 4)) (All2.cons (ole_ok (p := 6) (L := 9) rfl ((htk 6 rfl).2 5)) (All2.cons (.cells (fun h => h) (all2_row _)) (All2.cons (ole_ok (p := 6) (L := 9) rfl ((htk 6 rfl).2 7)) (All2.cons (ole_ok (p := 6) (L := 9) rfl ((htk 6 rfl).2 8)) All2.nil)))))))))) ?_
              exact k
            · intro K rest fr hv htk k
              show AWops _ x _ _ K ⟨41, (upd 41 (upd 41 (upd 41 fr 35 (D.one (C.own 6 0 r10.length 1))) 32 (D.one (C.own 5 0 r9.length 1))) 29 (sc (.bool (r6 == r7)))), [(hv 0), (hv 1), (hv 2), (hv 3), (hv 4), (some (AObj.cells true (rowC e_str r9))), (some (AObj.cells true (rowC e_str r10))), (hv 7), (hv 8)]⟩
              refine AWops.guard_yes rfl (Nat.le_of_ble_eq_true rfl) rfl c8 ?_
              refine s_call2 (ρ := []) (br := true) (H2 := [(hv 0), (hv 1), (hv 2), (hv 3), (hv 4), (some (AObj.cells true (rowC e_str r9))), (some (AObj.cells true (rowC e_str r10))), (hv 7), (hv 8)]) (d := (sc (.bool r11))) F.ca_36 rfl rfl (All2.cons (.one (LendC.bor e_str_len rfl rfl rfl)) (All2.cons (.one (LendC.bor e_str_len rfl rfl rfl)) All2.nil)) All2.nil (by decide) rfl (slices_Equal_string_string.meets _ r9 r10 r11 er11) (.inr ⟨rfl, rfl⟩) rfl rfl ?_
              exact k
            · intro K rest fr hv htk k
              show AWops _ x _ _ K ⟨41, (upd 41 (upd 41 fr 36 (sc (.bool r11))) 29 (sc (.bool (r6 == r7)))), [(hv 0), (hv 1), (hv 2), (hv 3), (hv 4), (hv 5), (hv 6), (hv 7), (hv 8)]⟩
              refine s_pick_yes (d := (sc (.bool r11))) rfl c8 rfl ?_
              exact k
            · intro K rest fr hv htk k
              show AWops _ x _ _ K ⟨41, (upd 41 fr 37 (sc (.bool r11))), [(hv 0), (hv 1), (hv 2), (hv 3), (hv 4), (hv 5), (hv 6), (hv 7), (hv 8)]⟩
              refine s_move (d := (sc (.bool r11))) rfl ?_
              exact k
            · intro K rest fr hv htk k
              show AWops _ x _ _ K ⟨41, (upd 41 fr 38 (sc (.bool r11))), [(hv 0), (hv 1), (hv 2), (hv 3), (hv 4), (hv 5), (hv 6), (hv 7), (hv 8)]⟩
              refine AWops.guard_yes rfl (Nat.le_of_ble_eq_true rfl) rfl c12 ?_
              refine s_call2 (ρ := []) (br := false) (H2 := [(hv 0), (hv 1), (hv 2), (hv 3), (hv 4), (hv 5), (hv 6), (hv 7), (hv 8)]) (d := (sc (.bool r13))) F.ca_21 rfl rfl All2.nil All2.nil (by decide) rfl (dossierlaw27_awake.meets _  r13 er13) (.inl rfl) rfl rfl ?_
              exact k
            · intro K rest fr hv htk k
              show AWops _ x _ _ K ⟨41, (upd 41 (upd 41 fr 39 (sc (.bool r13))) 38 (sc (.bool r11))), [(hv 0), (hv 1), (hv 2), (hv 3), (hv 4), (hv 5), (hv 6), (hv 7), (hv 8)]⟩
              refine s_pick_yes (d := (sc (.bool r13))) rfl c12 rfl ?_
              exact k
            · intro K rest fr hv htk k
              show AWops _ x _ _ K ⟨41, (upd 41 fr 40 (sc (.bool r13))), [(hv 0), (hv 1), (hv 2), (hv 3), (hv 4), (hv 5), (hv 6), (hv 7), (hv 8)]⟩
              refine s_assign (d := (sc (.bool r13))) rfl ?_
              exact k
          · refine AWops.weak (st' := ⟨41, (upd 41 topF 6 (sc (.bool r13))), []⟩) (Weak.gen (kk := 0) [] [] hx rfl (by decide) (by decide) rfl rfl rfl (le_upd (le_top _) (.t (.one .sc))) All2.nil) ?_
            refine AWops.nil ?_
            refine AW.ret ?_
            obtain rfl := Option.some.inj h
            exact ⟨_, rfl, (Weak.gen (kk := 0) [] [] rfl rfl (by decide) (by decide) rfl rfl rfl (le_upd (le_top _) (.t (.one .sc))) All2.nil)⟩
        · replace h := (if_neg c12).symm.trans h
          replace c12 := Bool.eq_false_iff.mpr c12
          refine AW.draw (n := 41) (L := 9) [(0, ⟨some 11, (D.agg (c_api_Model a0)), [(3, (D.one (C.ref 0 0)))], [(0, (some (AObj.cells true (c_api_Model a0))))], [], none⟩), (1, ⟨some 12, (sc (.string a1)), [(1, (sc (.string a1)))], [], [], none⟩), (2, ⟨some 13, (sc (.string a2)), [(2, (sc (.string a2)))], [], [], none⟩), (3, ⟨some 14, (sc (.int .i64 r3)), [(11, (D.agg (c_api_Model a0))), (12, (sc (.string a1))), (13, (sc (.string a2)))], [], [], none⟩), (4, ⟨some 15, (D.agg (c_api_Model a0)), [(3, (D.one (C.ref 0 0)))], [(0, (some (AObj.cells true (c_api_Model a0))))], [], none⟩), (5, ⟨some 16, (sc (.string a1)), [(1, (sc (.string a1)))], [], [], none⟩), (6, ⟨some 17, (sc (.string a2)), [(2, (sc (.string a2)))], [], [], none⟩), (7, ⟨some 18, (sc (.int .i64 r4)), [(15, (D.agg (c_api_Model a0))), (16, (sc (.string a1))), (17, (sc (.string a2)))], [], [], none⟩), (8, ⟨some 19, (sc (.bool (r3 == r4))), [(14, (sc (.int .i64 r3))), (18, (sc (.int .i64 r4)))], [], [], none⟩), (9, ⟨some 20, (sc (.bool (r3 == r4))), [(19, (sc (.bool (r3 == r4))))], [], [], none⟩), (10, ⟨some 21, (D.agg (c_api_Model a0)), [(3, (D.one (C.ref 0 0))), (20, (sc (.bool (r3 == r4))))], [(0, (some (AObj.cells true (c_api_Model a0))))], [], none⟩), (11, ⟨some 22, (sc (.string a2)), [(2, (sc (.string a2))), (20, (sc (.bool (r3 == r4))))], [], [], none⟩), (12, ⟨some 23, (sc (.bool r6)), [(20, (sc (.bool (r3 == r4)))), (21, (D.agg (c_api_Model a0))), (22, (sc (.string a2)))], [], [], none⟩), (13, ⟨some 24, (D.agg (c_api_Model a0)), [(3, (D.one (C.ref 0 0))), (20, (sc (.bool (r3 == r4))))], [(0, (some (AObj.cells true (c_api_Model a0))))], [], none⟩), (14, ⟨some 25, (sc (.string a2)), [(2, (sc (.string a2))), (20, (sc (.bool (r3 == r4))))], [], [], none⟩), (15, ⟨some 26, (sc (.bool r7)), [(20, (sc (.bool (r3 == r4)))), (24, (D.agg (c_api_Model a0))), (25, (sc (.string a2)))], [], [], none⟩), (16, ⟨some 27, (sc (.bool (r6 == r7))), [(20, (sc (.bool (r3 == r4)))), (23, (sc (.bool r6))), (26, (sc (.bool r7)))], [], [], none⟩), (17, ⟨some 28, (sc (.bool (r6 == r7))), [(20, (sc (.bool (r3 == r4)))), (27, (sc (.bool (r6 == r7))))], [], [], none⟩), (18, ⟨some 29, (sc (.bool (r6 == r7))), [(28, (sc (.bool (r6 == r7))))], [], [], none⟩), (19, ⟨some 30, (D.agg (c_api_Model a0)), [(3, (D.one (C.ref 0 0))), (29, (sc (.bool (r6 == r7))))], [(0, (some (AObj.cells true (c_api_Model a0))))], [], none⟩), (20, ⟨some 31, (sc (.string a2)), [(2, (sc (.string a2))), (29, (sc (.bool (r6 == r7))))], [], [], none⟩), (21, ⟨some 32, (D.one (C.own 5 0 r9.length 1)), [(29, (sc (.bool (r6 == r7)))), (30, (D.agg (c_api_Model a0))), (31, (sc (.string a2)))], [], [(5, (some (AObj.cells true (rowC e_str r9))))], some 5⟩), (22, ⟨some 33, (D.agg (c_api_Model a0)), [(3, (D.one (C.ref 0 0))), (29, (sc (.bool (r6 == r7))))], [(0, (some (AObj.cells true (c_api_Model a0))))], [], none⟩), (23, ⟨some 34, (sc (.string a2)), [(2, (sc (.string a2))), (29, (sc (.bool (r6 == r7))))], [], [], none⟩), (24, ⟨some 35, (D.one (C.own 6 0 r10.length 1)), [(29, (sc (.bool (r6 == r7)))), (33, (D.agg (c_api_Model a0))), (34, (sc (.string a2)))], [], [(6, (some (AObj.cells true (rowC e_str r10))))], some 6⟩), (25, ⟨some 36, (sc (.bool r11)), [(29, (sc (.bool (r6 == r7)))), (32, (D.one (C.own 5 0 r9.length 1))), (35, (D.one (C.own 6 0 r10.length 1)))], [(5, (some (AObj.cells true (rowC e_str r9)))), (6, (some (AObj.cells true (rowC e_str r10))))], [], none⟩), (26, ⟨some 37, (sc (.bool r11)), [(29, (sc (.bool (r6 == r7)))), (36, (sc (.bool r11)))], [], [], none⟩), (27, ⟨some 38, (sc (.bool r11)), [(37, (sc (.bool r11)))], [], [], none⟩), (28, ⟨some 39, (D.tup []), [(38, (sc (.bool r11)))], [], [], none⟩), (29, ⟨some 40, (sc (.bool false)), [(38, (sc (.bool r11)))], [], [], none⟩), (30, ⟨some 6, (sc (.bool false)), [(40, (sc (.bool false)))], [], [], none⟩)] [[], [], [], [0, 1, 2], [], [], [], [0, 1, 2, 3, 4, 5, 6], [0, 1, 2, 3, 4, 5, 6, 7], [0, 1, 2, 3, 4, 5, 6, 7, 8], [0, 1, 2, 3, 4, 5, 6, 7, 8, 9], [0, 1, 2, 3, 4, 5, 6, 7, 8, 9], [0, 1, 2, 3, 4, 5, 6, 7, 8, 9, 10, 11], [0, 1, 2, 3, 4, 5, 6, 7, 8, 9], [0, 1, 2, 3, 4, 5, 6, 7, 8, 9], [0, 1, 2, 3, 4, 5, 6, 7, 8, 9, 10, 11, 12, 13, 14], [0, 1, 2, 3, 4, 5, 6, 7, 8, 9, 10, 11, 12, 13, 14, 15], [0, 1, 2, 3, 4, 5, 6, 7, 8, 9, 10, 11, 12, 13, 14, 15, 16], [0, 1, 2, 3, 4, 5, 6, 7, 8, 9, 10, 11, 12, 13, 14, 15, 16, 17], [0, 1, 2, 3, 4, 5, 6, 7, 8, 9, 10, 11, 12, 13, 14, 15, 16, 17, 18], [0, 1, 2, 3, 4, 5, 6, 7, 8, 9, 10, 11, 12, 13, 14, 15, 16, 17, 18], [0, 1, 2, 3, 4, 5, 6, 7, 8, 9, 10, 11, 12, 13, 14, 15, 16, 17, 18, 19, 20], [0, 1, 2, 3, 4, 5, 6, 7, 8, 9, 10, 11, 12, 13, 14, 15, 16, 17, 18], [0, 1, 2, 3, 4, 5, 6, 7, 8, 9, 10, 11, 12, 13, 14, 15, 16, 17, 18], [0, 1, 2, 3, 4, 5, 6, 7, 8, 9, 10, 11, 12, 13, 14, 15, 16, 17, 18, 19, 20, 21, 22, 23], [0, 1, 2, 3, 4, 5, 6, 7, 8, 9, 10, 11, 12, 13, 14, 15, 16, 17, 18, 19, 20, 21, 22, 23, 24], [0, 1, 2, 3, 4, 5, 6, 7, 8, 9, 10, 11, 12, 13, 14, 15, 16, 17, 18, 19, 20, 21, 22, 23, 24, 25], [0, 1, 2, 3, 4, 5, 6, 7, 8, 9, 10, 11, 12, 13, 14, 15, 16, 17, 18, 19, 20, 21, 22, 23, 24, 25, 26], [0, 1, 2, 3, 4, 5, 6, 7, 8, 9, 10, 11, 12, 13, 14, 15, 16, 17, 18, 19, 20, 21, 22, 23, 24, 25, 26, 27], [0, 1, 2, 3, 4, 5, 6, 7, 8, 9, 10, 11, 12, 13, 14, 15, 16, 17, 18, 19, 20, 21, 22, 23, 24, 25, 26, 27, 28], [0, 1, 2, 3, 4, 5, 6, 7, 8, 9, 10, 11, 12, 13, 14, 15, 16, 17, 18, 19, 20, 21, 22, 23, 24, 25, 26, 27, 28, 29]] (Nat.le_of_ble_eq_true rfl) [0, 0, 0, 1, 0, 0, 0, 2, 3, 4, 5, 5, 6, 5, 5, 7, 8, 9, 10, 11, 11, 12, 11, 11, 13, 14, 15, 16, 17, 18, 19] rfl (TK := [(21, 5), (24, 6)]) rfl (AllK.cons' ⟨(tk_upd (tk_upd (tk_upd (tk_upd tk_top rfl) rfl) rfl) rfl), (AllT.cons' rfl AllT.nil'), (AllF.cons' (.inr rfl) (AllF.cons' (.inr rfl) (AllF.cons' (.inr rfl) (AllF.cons' (.inr rfl) (AllF.cons' (.inr rfl) (AllF.cons' (.inr rfl) (AllF.cons' (.inr rfl) (AllF.cons' (.inr rfl) (AllF.cons' (.inr rfl) (AllF.cons' (.inr rfl) (AllF.cons' (.inr rfl) (AllF.cons' (.inr rfl) (AllF.cons' (.inr rfl) (AllF.cons' (.inr rfl) (AllF.cons' (.inr rfl) (AllF.cons' (.inr rfl) (AllF.cons' (.inr rfl) (AllF.cons' (.inr rfl) (AllF.cons' (.inr rfl) (AllF.cons' (.inr rfl) (AllF.cons' (.inr rfl) (AllF.cons' (.inl rfl) (AllF.cons' (.inr rfl) (AllF.cons' (.inr rfl) (AllF.cons' (.inl rfl) (AllF.cons' (.inl rfl) (AllF.cons' (.inl rfl) (AllF.cons' (.inl rfl) (AllF.cons' (.inl rfl) (AllF.cons' (.inl rfl) (AllF.cons' (.inl rfl) AllF.nil')))))))))))))))))))))))))))))))⟩ (AllK.cons' ⟨(tk_upd (tk_upd (tk_upd (tk_upd tk_top rfl) rfl) rfl) rfl), (AllT.cons' rfl AllT.nil'), (AllF.cons' (.inr rfl) (AllF.cons' (.inr rfl) (AllF.cons' (.inr rfl) (AllF.cons' (.inr rfl) (AllF.cons' (.inr rfl) (AllF.cons' (.inr rfl) (AllF.cons' (.inr rfl) (AllF.cons' (.inr rfl) (AllF.cons' (.inr rfl) (AllF.cons' (.inr rfl) (AllF.cons' (.inr rfl) (AllF.cons' (.inr rfl) (AllF.cons' (.inr rfl) (AllF.cons' (.inr rfl) (AllF.cons' (.inr rfl) (AllF.cons' (.inr rfl) (AllF.cons' (.inr rfl) (AllF.cons' (.inr rfl) (AllF.cons' (.inr rfl) (AllF.cons' (.inr rfl) (AllF.cons' (.inr rfl) (AllF.cons' (.inr (by unfold tkFoot; simp only [List.all_cons, List.all_nil, tkO_row, Bool.and_true, Bool.true_and]; rfl)) (AllF.cons' (.inr rfl) (AllF.cons' (.inr rfl) (AllF.cons' (.inl rfl) (AllF.cons' (.inl rfl) (AllF.cons' (.inl rfl) (AllF.cons' (.inl rfl) (AllF.cons' (.inl rfl) (AllF.cons' (.inl rfl) (AllF.cons' (.inl rfl) AllF.nil')))))))))))))))))))))))))))))))⟩ AllK.nil')) (AllF.cons' ⟨(AllS.cons' rfl AllS.nil'), (AllH.cons' rfl AllH.nil')⟩ (AllF.cons' ⟨(AllS.cons' rfl AllS.nil'), AllH.nil'⟩ (AllF.cons' ⟨(AllS.cons' rfl AllS.nil'), AllH.nil'⟩ (AllF.cons' ⟨(AllS.cons' rfl (AllS.cons' rfl (AllS.cons' rfl AllS.nil'))), AllH.nil'⟩ (AllF.cons' ⟨(AllS.cons' rfl AllS.nil'), (AllH.cons' rfl AllH.nil')⟩ (AllF.cons' ⟨(AllS.cons' rfl AllS.nil'), AllH.nil'⟩ (AllF.cons' ⟨(AllS.cons' rfl AllS.nil'), AllH.nil'⟩ (AllF.cons' ⟨(AllS.cons' rfl (AllS.cons' rfl (AllS.cons' rfl AllS.nil'))), AllH.nil'⟩ (AllF.cons' ⟨(AllS.cons' rfl (AllS.cons' rfl AllS.nil')), AllH.nil'⟩ (AllF.cons' ⟨(AllS.cons' rfl AllS.nil'), AllH.nil'⟩ (AllF.cons' ⟨(AllS.cons' rfl (AllS.cons' rfl AllS.nil')), (AllH.cons' rfl AllH.nil')⟩ (AllF.cons' ⟨(AllS.cons' rfl (AllS.cons' rfl AllS.nil')), AllH.nil'⟩ (AllF.cons' ⟨(AllS.cons' rfl (AllS.cons' rfl (AllS.cons' rfl AllS.nil'))), AllH.nil'⟩ (AllF.cons' ⟨(AllS.cons' rfl (AllS.cons' rfl AllS.nil')), (AllH.cons' rfl AllH.nil')⟩ (AllF.cons' ⟨(AllS.cons' rfl (AllS.cons' rfl AllS.nil')), AllH.nil'⟩ (AllF.cons' ⟨(AllS.cons' rfl (AllS.cons' rfl (AllS.cons' rfl AllS.nil'))), AllH.nil'⟩ (AllF.cons' ⟨(AllS.cons' rfl (AllS.cons' rfl (AllS.cons' rfl AllS.nil'))), AllH.nil'⟩ (AllF.cons' ⟨(AllS.cons' rfl (AllS.cons' rfl AllS.nil')), AllH.nil'⟩ (AllF.cons' ⟨(AllS.cons' rfl AllS.nil'), AllH.nil'⟩ (AllF.cons' ⟨(AllS.cons' rfl (AllS.cons' rfl AllS.nil')), (AllH.cons' rfl AllH.nil')⟩ (AllF.cons' ⟨(AllS.cons' rfl (AllS.cons' rfl AllS.nil')), AllH.nil'⟩ (AllF.cons' ⟨(AllS.cons' rfl (AllS.cons' rfl (AllS.cons' rfl AllS.nil'))), AllH.nil'⟩ (AllF.cons' ⟨(AllS.cons' rfl (AllS.cons' rfl AllS.nil')), (AllH.cons' rfl AllH.nil')⟩ (AllF.cons' ⟨(AllS.cons' rfl (AllS.cons' rfl AllS.nil')), AllH.nil'⟩ (AllF.cons' ⟨(AllS.cons' rfl (AllS.cons' rfl (AllS.cons' rfl AllS.nil'))), AllH.nil'⟩ (AllF.cons' ⟨(AllS.cons' rfl (AllS.cons' rfl (AllS.cons' rfl AllS.nil'))), (AllH.cons' rfl (AllH.cons' rfl AllH.nil'))⟩ (AllF.cons' ⟨(AllS.cons' rfl (AllS.cons' rfl AllS.nil')), AllH.nil'⟩ (AllF.cons' ⟨(AllS.cons' rfl AllS.nil'), AllH.nil'⟩ (AllF.cons' ⟨(AllS.cons' rfl AllS.nil'), AllH.nil'⟩ (AllF.cons' ⟨(AllS.cons' rfl AllS.nil'), AllH.nil'⟩ (AllF.cons' ⟨(AllS.cons' rfl AllS.nil'), AllH.nil'⟩ AllF.nil'))))))))))))))))))))))))))))))) ?_ ?_
          · refine (AllStep.cons' ?_ (AllStep.cons' ?_ (AllStep.cons' ?_ (AllStep.cons' ?_ (AllStep.cons' ?_ (AllStep.cons' ?_ (AllStep.cons' ?_ (AllStep.cons' ?_ (AllStep.cons' ?_ (AllStep.cons' ?_ (AllStep.cons' ?_ (AllStep.cons' ?_ (AllStep.cons' ?_ (AllStep.cons' ?_ (AllStep.cons' ?_ (AllStep.cons' ?_ (AllStep.cons' ?_ (AllStep.cons' ?_ (AllStep.cons' ?_ (AllStep.cons' ?_ (AllStep.cons' ?_ (AllStep.cons' ?_ (AllStep.cons' ?_ (AllStep.cons' ?_ (AllStep.cons' ?_ (AllStep.cons' ?_ (AllStep.cons' ?_ (AllStep.cons' ?_ (AllStep.cons' ?_ (AllStep.cons' ?_ (AllStep.cons' ?_ AllStep.nil')))))))))))))))))))))))))))))))
            · intro K rest fr hv htk k
              show AWops _ x _ _ K ⟨41, (upd 41 fr 3 (D.one (C.ref 0 0))), [(some (AObj.cells true (c_api_Model a0))), (hv 1), (hv 2), (hv 3), (hv 4), (hv 5), (hv 6), (hv 7), (hv 8)]⟩
              refine s_loadN (ds := (c_api_Model a0)) F.ag_38 F.sz_38 rfl rfl rfl ?_
              exact k
            · intro K rest fr hv htk k
              show AWops _ x _ _ K ⟨41, (upd 41 fr 1 (sc (.string a1))), [(hv 0), (hv 1), (hv 2), (hv 3), (hv 4), (hv 5), (hv 6), (hv 7), (hv 8)]⟩
              refine s_move (d := (sc (.string a1))) rfl ?_
              exact k
            · intro K rest fr hv htk k
              show AWops _ x _ _ K ⟨41, (upd 41 fr 2 (sc (.string a2))), [(hv 0), (hv 1), (hv 2), (hv 3), (hv 4), (hv 5), (hv 6), (hv 7), (hv 8)]⟩
              refine s_move (d := (sc (.string a2))) rfl ?_
              exact k
            · intro K rest fr hv htk k
              show AWops _ x _ _ K ⟨41, (upd 41 (upd 41 (upd 41 fr 13 (sc (.string a2))) 12 (sc (.string a1))) 11 (D.agg (c_api_Model a0))), [(hv 0), (hv 1), (hv 2), (hv 3), (hv 4), (hv 5), (hv 6), (hv 7), (hv 8)]⟩
              refine s_call2 (ρ := []) (br := false) (H2 := [(hv 0), (hv 1), (hv 2), (hv 3), (hv 4), (hv 5), (hv 6), (hv 7), (hv 8)]) (d := (sc (.int .i64 r3))) F.ca_23 rfl rfl (All2.cons (LendT.aggL (All2.cons .sc (All2.cons .sc (All2.cons .imm (All2.cons .imm (All2.cons .sc (All2.cons .sc (All2.cons .sc (All2.cons .imm (All2.cons .imm (All2.cons .sc (All2.cons .sc (All2.cons .sc (All2.cons .sc (All2.cons .sc (All2.cons .sc (All2.cons .imm (All2.cons .imm (All2.cons .imm All2.nil))))))))))))))))))) (All2.cons (.one .sc) (All2.cons (.one .sc) All2.nil))) All2.nil (by decide) rfl (roles_Check.meets _ a0 a1 a2 r3 er3) (.inl rfl) rfl rfl ?_
              exact k
            · intro K rest fr hv htk k
              show AWops _ x _ _ K ⟨41, (upd 41 fr 3 (D.one (C.ref 0 0))), [(some (AObj.cells true (c_api_Model a0))), (hv 1), (hv 2), (hv 3), (hv 4), (hv 5), (hv 6), (hv 7), (hv 8)]⟩
              refine s_loadN (ds := (c_api_Model a0)) F.ag_38 F.sz_38 rfl rfl rfl ?_
              exact k
            · intro K rest fr hv htk k
              show AWops _ x _ _ K ⟨41, (upd 41 fr 1 (sc (.string a1))), [(hv 0), (hv 1), (hv 2), (hv 3), (hv 4), (hv 5), (hv 6), (hv 7), (hv 8)]⟩
              refine s_move (d := (sc (.string a1))) rfl ?_
              exact k
            · intro K rest fr hv htk k
              show AWops _ x _ _ K ⟨41, (upd 41 fr 2 (sc (.string a2))), [(hv 0), (hv 1), (hv 2), (hv 3), (hv 4), (hv 5), (hv 6), (hv 7), (hv 8)]⟩
              refine s_move (d := (sc (.string a2))) rfl ?_
              exact k
            · intro K rest fr hv htk k
              show AWops _ x _ _ K ⟨41, (upd 41 (upd 41 (upd 41 fr 17 (sc (.string a2))) 16 (sc (.string a1))) 15 (D.agg (c_api_Model a0))), [(hv 0), (hv 1), (hv 2), (hv 3), (hv 4), (hv 5), (hv 6), (hv 7), (hv 8)]⟩
              refine s_call2 (ρ := []) (br := false) (H2 := [(hv 0), (hv 1), (hv 2), (hv 3), (hv 4), (hv 5), (hv 6), (hv 7), (hv 8)]) (d := (sc (.int .i64 r4))) F.ca_34 rfl rfl (All2.cons (LendT.aggL (All2.cons .sc (All2.cons .sc (All2.cons .imm (All2.cons .imm (All2.cons .sc (All2.cons .sc (All2.cons .sc (All2.cons .imm (All2.cons .imm (All2.cons .sc (All2.cons .sc (All2.cons .sc (All2.cons .sc (All2.cons .sc (All2.cons .sc (All2.cons .imm (All2.cons .imm (All2.cons .imm All2.nil))))))))))))))))))) (All2.cons (.one .sc) (All2.cons (.one .sc) All2.nil))) All2.nil (by decide) rfl (dossierref27_Check.meets _ a0 a1 a2 r4 er4) (.inl rfl) rfl rfl ?_
              exact k
            · intro K rest fr hv htk k
              show AWops _ x _ _ K ⟨41, (upd 41 (upd 41 fr 18 (sc (.int .i64 r4))) 14 (sc (.int .i64 r3))), [(hv 0), (hv 1), (hv 2), (hv 3), (hv 4), (hv 5), (hv 6), (hv 7), (hv 8)]⟩
              refine s_binI (v := (.bool (r3 == r4))) rfl rfl rfl ?_
              exact k
            · intro K rest fr hv htk k
              show AWops _ x _ _ K ⟨41, (upd 41 fr 19 (sc (.bool (r3 == r4)))), [(hv 0), (hv 1), (hv 2), (hv 3), (hv 4), (hv 5), (hv 6), (hv 7), (hv 8)]⟩
              refine s_move (d := (sc (.bool (r3 == r4)))) rfl ?_
              exact k
            · intro K rest fr hv htk k
              show AWops _ x _ _ K ⟨41, (upd 41 (upd 41 fr 20 (sc (.bool (r3 == r4)))) 3 (D.one (C.ref 0 0))), [(some (AObj.cells true (c_api_Model a0))), (hv 1), (hv 2), (hv 3), (hv 4), (hv 5), (hv 6), (hv 7), (hv 8)]⟩
              refine AWops.guard_yes rfl (Nat.le_of_ble_eq_true rfl) rfl c5 ?_
              refine s_loadN (ds := (c_api_Model a0)) F.ag_38 F.sz_38 rfl rfl rfl ?_
              exact k
            · intro K rest fr hv htk k
              show AWops _ x _ _ K ⟨41, (upd 41 (upd 41 fr 20 (sc (.bool (r3 == r4)))) 2 (sc (.string a2))), [(hv 0), (hv 1), (hv 2), (hv 3), (hv 4), (hv 5), (hv 6), (hv 7), (hv 8)]⟩
              refine AWops.guard_yes rfl (Nat.le_of_ble_eq_true rfl) rfl c5 ?_
              refine s_move (d := (sc (.string a2))) rfl ?_
              exact k
            · intro K rest fr hv htk k
              show AWops _ x _ _ K ⟨41, (upd 41 (upd 41 (upd 41 fr 22 (sc (.string a2))) 21 (D.agg (c_api_Model a0))) 20 (sc (.bool (r3 == r4)))), [(hv 0), (hv 1), (hv 2), (hv 3), (hv 4), (hv 5), (hv 6), (hv 7), (hv 8)]⟩
              refine AWops.guard_yes rfl (Nat.le_of_ble_eq_true rfl) rfl c5 ?_
              refine s_call2 (ρ := []) (br := false) (H2 := [(hv 0), (hv 1), (hv 2), (hv 3), (hv 4), (hv 5), (hv 6), (hv 7), (hv 8)]) (d := (sc (.bool r6))) F.ca_24 rfl rfl (All2.cons (LendT.aggL (All2.cons .sc (All2.cons .sc (All2.cons .imm (All2.cons .imm (All2.cons .sc (All2.cons .sc (All2.cons .sc (All2.cons .imm (All2.cons .imm (All2.cons .sc (All2.cons .sc (All2.cons .sc (All2.cons .sc (All2.cons .sc (All2.cons .sc (All2.cons .imm (All2.cons .imm (All2.cons .imm All2.nil))))))))))))))))))) (All2.cons (.one .sc) All2.nil)) All2.nil (by decide) rfl (roles_Known.meets _ a0 a2 r6 er6) (.inl rfl) rfl rfl ?_
              exact k
            · intro K rest fr hv htk k
              show AWops _ x _ _ K ⟨41, (upd 41 (upd 41 fr 20 (sc (.bool (r3 == r4)))) 3 (D.one (C.ref 0 0))), [(some (AObj.cells true (c_api_Model a0))), (hv 1), (hv 2), (hv 3), (hv 4), (hv 5), (hv 6), (hv 7), (hv 8)]⟩
              refine AWops.guard_yes rfl (Nat.le_of_ble_eq_true rfl) rfl c5 ?_
              refine s_loadN (ds := (c_api_Model a0)) F.ag_38 F.sz_38 rfl rfl rfl ?_
              exact k
            · intro K rest fr hv htk k
              show AWops _ x _ _ K ⟨41, (upd 41 (upd 41 fr 20 (sc (.bool (r3 == r4)))) 2 (sc (.string a2))), [(hv 0), (hv 1), (hv 2), (hv 3), (hv 4), (hv 5), (hv 6), (hv 7), (hv 8)]⟩
              refine AWops.guard_yes rfl (Nat.le_of_ble_eq_true rfl) rfl c5 ?_
              refine s_move (d := (sc (.string a2))) rfl ?_
              exact k
            · intro K rest fr hv htk k
              show AWops _ x _ _ K ⟨41, (upd 41 (upd 41 (upd 41 fr 25 (sc (.string a2))) 24 (D.agg (c_api_Model a0))) 20 (sc (.bool (r3 == r4)))), [(hv 0), (hv 1), (hv 2), (hv 3), (hv 4), (hv 5), (hv 6), (hv 7), (hv 8)]⟩
              refine AWops.guard_yes rfl (Nat.le_of_ble_eq_true rfl) rfl c5 ?_
              refine s_call2 (ρ := []) (br := false) (H2 := [(hv 0), (hv 1), (hv 2), (hv 3), (hv 4), (hv 5), (hv 6), (hv 7), (hv 8)]) (d := (sc (.bool r7))) F.ca_35 rfl rfl (All2.cons (LendT.aggL (All2.cons .sc (All2.cons .sc (All2.cons .imm (All2.cons .imm (All2.cons .sc (All2.cons .sc (All2.cons .sc (All2.cons .imm (All2.cons .imm (All2.cons .sc (All2.cons .sc (All2.cons .sc (All2.cons .sc (All2.cons .sc (All2.cons .sc (All2.cons .imm (All2.cons .imm (All2.cons .imm All2.nil))))))))))))))))))) (All2.cons (.one .sc) All2.nil)) All2.nil (by decide) rfl (dossierref27_Known.meets _ a0 a2 r7 er7) (.inl rfl) rfl rfl ?_
              exact k
            · intro K rest fr hv htk k
              show AWops _ x _ _ K ⟨41, (upd 41 (upd 41 (upd 41 fr 26 (sc (.bool r7))) 23 (sc (.bool r6))) 20 (sc (.bool (r3 == r4)))), [(hv 0), (hv 1), (hv 2), (hv 3), (hv 4), (hv 5), (hv 6), (hv 7), (hv 8)]⟩
              refine AWops.guard_yes rfl (Nat.le_of_ble_eq_true rfl) rfl c5 ?_
              refine s_binB (b := (r6 == r7)) F.u_4 rfl rfl (.inl ⟨rfl, rfl⟩) ?_
              exact k
            · intro K rest fr hv htk k
              show AWops _ x _ _ K ⟨41, (upd 41 (upd 41 fr 27 (sc (.bool (r6 == r7)))) 20 (sc (.bool (r3 == r4)))), [(hv 0), (hv 1), (hv 2), (hv 3), (hv 4), (hv 5), (hv 6), (hv 7), (hv 8)]⟩
              refine s_pick_yes (d := (sc (.bool (r6 == r7)))) rfl c5 rfl ?_
              exact k
            · intro K rest fr hv htk k
              show AWops _ x _ _ K ⟨41, (upd 41 fr 28 (sc (.bool (r6 == r7)))), [(hv 0), (hv 1), (hv 2), (hv 3), (hv 4), (hv 5), (hv 6), (hv 7), (hv 8)]⟩
              refine s_move (d := (sc (.bool (r6 == r7)))) rfl ?_
              exact k
            · intro K rest fr hv htk k
              show AWops _ x _ _ K ⟨41, (upd 41 (upd 41 fr 29 (sc (.bool (r6 == r7)))) 3 (D.one (C.ref 0 0))), [(some (AObj.cells true (c_api_Model a0))), (hv 1), (hv 2), (hv 3), (hv 4), (hv 5), (hv 6), (hv 7), (hv 8)]⟩
              refine AWops.guard_yes rfl (Nat.le_of_ble_eq_true rfl) rfl c8 ?_
              refine s_loadN (ds := (c_api_Model a0)) F.ag_38 F.sz_38 rfl rfl rfl ?_
              exact k
            · intro K rest fr hv htk k
              show AWops _ x _ _ K ⟨41, (upd 41 (upd 41 fr 29 (sc (.bool (r6 == r7)))) 2 (sc (.string a2))), [(hv 0), (hv 1), (hv 2), (hv 3), (hv 4), (hv 5), (hv 6), (hv 7), (hv 8)]⟩
              refine AWops.guard_yes rfl (Nat.le_of_ble_eq_true rfl) rfl c8 ?_
              refine s_move (d := (sc (.string a2))) rfl ?_
              exact k
            · intro K rest fr hv htk k
              show AWops _ x _ _ K ⟨41, (upd 41 (upd 41 (upd 41 fr 31 (sc (.string a2))) 30 (D.agg (c_api_Model a0))) 29 (sc (.bool (r6 == r7)))), [(hv 0), (hv 1), (hv 2), (hv 3), (hv 4), (hv 5), (hv 6), (hv 7), (hv 8)]⟩
              refine AWops.guard_yes rfl (Nat.le_of_ble_eq_true rfl) rfl c8 ?_
              refine s_call2 (ρ := []) (br := false) (H2 := [(hv 0), (hv 1), (hv 2), (hv 3), (hv 4), (hv 5), (hv 6), (hv 7), (hv 8), (some (AObj.cells true (rowC e_str r9)))]) (d := (D.one (C.own 9 0 r9.length 1))) F.ca_33 rfl rfl (All2.cons (LendT.aggL (All2.cons .sc (All2.cons .sc (All2.cons .imm (All2.cons .imm (All2.cons .sc (All2.cons .sc (All2.cons .sc (All2.cons .imm (All2.cons .imm (All2.cons .sc (All2.cons .sc (All2.cons .sc (All2.cons .sc (All2.cons .sc (All2.cons .sc (All2.cons .imm (All2.cons .imm (All2.cons .imm All2.nil))))))))))))))))))) (All2.cons (.one .sc) All2.nil)) All2.nil (by decide) rfl (roles_May.meets _ a0 a2 r9 er9) (.inl rfl) (by first | rfl | (simp only [mergeH2, orF, Bool.false_or, Bool.or_false, Bool.true_or, Bool.or_true, mergeAt, mergeObj, renO, ren_row, List.drop_succ_cons, List.drop_zero, List.map_cons, List.map_nil, Option.map_some, Option.map_none, List.length_cons, List.length_nil, Nat.zero_add, List.append_assoc, List.cons_append, List.nil_append]; done) | (simp only [mergeH2, orF, Bool.false_or, Bool.or_false, Bool.true_or, Bool.or_true, mergeAt, mergeObj, renO, ren_row, List.drop_succ_cons, List.drop_zero, List.map_cons, List.map_nil, Option.map_some, Option.map_none, List.length_cons, List.length_nil, Nat.zero_add, List.append_assoc, List.cons_append, List.nil_append]; rfl)) rfl ?_
              refine AWops.weak (st' := ⟨41, (upd 41 (upd 41 (upd 41 (upd 41 fr 31 (sc (.string a2))) 30 (D.agg (c_api_Model a0))) 29 (sc (.bool (r6 == r7)))) 32 (D.one (C.own 5 0 r9.length 1))), [(hv 0), (hv 1), (hv 2), (hv 3), (hv 4), (some (AObj.cells true (rowC e_str r9))), (hv 6), (hv 7), (hv 8)]⟩) (Weak.gen (kk := 0) [0, 1, 2, 3, 4, 9, 6, 7, 8] [] hx rfl (by decide) (by decide) rfl rfl rfl (le_upd2 (le_ok (p := 5) (L := 9) rfl (htk 5 rfl).1) (.t (.one (.own rfl)))) (All2.cons (ole_ok (p := 5) (L := 9) rfl ((htk 5 rfl).2 0)) (All2.cons (ole_ok (p := 5) (L := 9) rfl ((htk 5 rfl).2 1)) (All2.cons (ole_ok (p := 5) (L := 9) rfl ((htk 5 rfl).2 2)) (All2.cons (ole_ok (p := 5) (L := 9) rfl ((htk 5 rfl).2 3)) (All2.cons (ole_ok (p := 5) (L := 9) rfl ((htk 5 rfl).2 4)) (All2.cons (.cells (fun h => h) (all2_row _)) (All2.cons (ole_ok (p := 5) (L := 9) rfl ((htk 5 rfl).2 6)) (All2.cons (ole_ok (p := 5) (L := 9) rfl ((htk 5 rfl).2 7)) (All2.cons (ole_ok (p := 5) (L := 9) rfl ((htk 5 rfl).2 8)) All2.nil)))))))))) ?_
              exact k
            · intro K rest fr hv htk k
              show AWops _ x _ _ K ⟨41, (upd 41 (upd 41 fr 29 (sc (.bool (r6 == r7)))) 3 (D.one (C.ref 0 0))), [(some (AObj.cells true (c_api_Model a0))), (hv 1), (hv 2), (hv 3), (hv 4), (hv 5), (hv 6), (hv 7), (hv 8)]⟩
              refine AWops.guard_yes rfl (Nat.le_of_ble_eq_true rfl) rfl c8 ?_
              refine s_loadN (ds := (c_api_Model a0)) F.ag_38 F.sz_38 rfl rfl rfl ?_
              exact k
            · intro K rest fr hv htk k
              show AWops _ x _ _ K ⟨41, (upd 41 (upd 41 fr 29 (sc (.bool (r6 == r7)))) 2 (sc (.string a2))), [(hv 0), (hv 1), (hv 2), (hv 3), (hv 4), (hv 5), (hv 6), (hv 7), (hv 8)]⟩
              refine AWops.guard_yes rfl (Nat.le_of_ble_eq_true rfl) rfl c8 ?_
              refine s_move (d := (sc (.string a2))) rfl ?_
              exact k
            · intro K rest fr hv htk k
              show AWops _ x _ _ K ⟨41, (upd 41 (upd 41 (upd 41 fr 34 (sc (.string a2))) 33 (D.agg (c_api_Model a0))) 29 (sc (.bool (r6 == r7)))), [(hv 0), (hv 1), (hv 2), (hv 3), (hv 4), (hv 5), (hv 6), (hv 7), (hv 8)]⟩
              refine AWops.guard_yes rfl (Nat.le_of_ble_eq_true rfl) rfl c8 ?_
              refine s_call2 (ρ := []) (br := false) (H2 := [(hv 0), (hv 1), (hv 2), (hv 3), (hv 4), (hv 5), (hv 6), (hv 7), (hv 8), (some (AObj.cells true (rowC e_str r10)))]) (d := (D.one (C.own 9 0 r10.length 1))) F.ca_37 rfl rfl (All2.cons (LendT.aggL (All2.cons .sc (All2.cons .sc (All2.cons .imm (All2.cons .imm (All2.cons .sc (All2.cons .sc (All2.cons .sc (All2.cons .imm (All2.cons .imm (All2.cons .sc (All2.cons .sc (All2.cons .sc (All2.cons .sc (All2.cons .sc (All2.cons .sc (All2.cons .imm (All2.cons .imm (All2.cons .imm All2.nil))))))))))))))))))) (All2.cons (.one .sc) All2.nil)) All2.nil (by decide) rfl (dossierref27_May.meets _ a0 a2 r10 er10) (.inl rfl) (by first | rfl | (simp only [mergeH2, orF, Bool.false_or, Bool.or_false, Bool.true_or, Bool.or_true, mergeAt, mergeObj, renO, ren_row, List.drop_succ_cons, List.drop_zero, List.map_cons, List.map_nil, Option.map_some, Option.map_none, List.length_cons, List.length_nil, Nat.zero_add, List.append_assoc, List.cons_append, List.nil_append]; done) | (simp only [mergeH2, orF, Bool.false_or, Bool.or_false, Bool.true_or, Bool.or_true, mergeAt, mergeObj, renO, ren_row, List.drop_succ_cons, List.drop_zero, List.map_cons, List.map_nil, Option.map_some, Option.map_none, List.length_cons, List.length_nil, Nat.zero_add, List.append_assoc, List.cons_append, List.nil_append]; rfl)) rfl ?_
              refine AWops.weak (st' := ⟨41, (upd 41 (upd 41 (upd 41 (upd 41 fr 34 (sc (.string a2))) 33 (D.agg (c_api_Model a0))) 29 (sc (.bool (r6 == r7)))) 35 (D.one (C.own 6 0 r10.length 1))), [(hv 0), (hv 1), (hv 2), (hv 3), (hv 4), (hv 5), (some (AObj.cells true (rowC e_str r10))), (hv 7), (hv 8)]⟩) (Weak.gen (kk := 0) [0, 1, 2, 3, 4, 5, 9, 7, 8] [] hx rfl (by decide) (by decide) rfl rfl rfl (le_upd2 (le_ok (p := 6) (L := 9) rfl (htk 6 rfl).1) (.t (.one (.own rfl)))) (All2.cons (ole_ok (p := 6) (L := 9) rfl ((htk 6 rfl).2 0)) (All2.cons (ole_ok (p := 6) (L := 9) rfl ((htk 6 rfl).2 1)) (All2.cons (ole_ok (p := 6) (L := 9) rfl ((htk 6 rfl).2 2)) (All2.cons (ole_ok (p := 6) (L := 9) rfl ((htk 6 rfl).2 3)) (All2.cons (ole_ok (p := 6) (L := 9) rfl ((htk 6 rfl).2 4)) (All2.cons (ole_ok (p := 6) (L := 9) rfl ((htk 6 rfl).2 5)) (All2.cons (.cells (fun h => h) (all2_row _)) (All2.cons (ole_ok (p := 6) (L := 9) rfl ((htk 6 rfl).2 7)) (All2.cons (ole_ok (p := 6) (L := 9) rfl ((htk 6 rfl).2 8)) All2.nil)))))))))) ?_
              exact k
            · intro K rest fr hv htk k
              show AWops _ x _ _ K ⟨41, (upd 41 (upd 41 (upd 41 fr 35 (D.one (C.own 6 0 r10.length 1))) 32 (D.one (C.own 5 0 r9.length 1))) 29 (sc (.bool (r6 == r7)))), [(hv 0), (hv 1), (hv 2), (hv 3), (hv 4), (some (AObj.cells true (rowC e_str r9))), (some (AObj.cells true (rowC e_str r10))), (hv 7), (hv 8)]⟩
              refine AWops.guard_yes rfl (Nat.le_of_ble_eq_true rfl) rfl c8 ?_
              refine s_call2 (ρ := []) (br := true) (H2 := [(hv 0), (hv 1), (hv 2), (hv 3), (hv 4), (some (AObj.cells true (rowC e_str r9))), (some (AObj.cells true (rowC e_str r10))), (hv 7), (hv 8)]) (d := (sc (.bool r11))) F.ca_36 rfl rfl (All2.cons (.one (LendC.bor e_str_len rfl rfl rfl)) (All2.cons (.one (LendC.bor e_str_len rfl rfl rfl)) All2.nil)) All2.nil (by decide) rfl (slices_Equal_string_string.meets _ r9 r10 r11 er11) (.inr ⟨rfl, rfl⟩) rfl rfl ?_
              exact k
            · intro K rest fr hv htk k
              show AWops _ x _ _ K ⟨41, (upd 41 (upd 41 fr 36 (sc (.bool r11))) 29 (sc (.bool (r6 == r7)))), [(hv 0), (hv 1), (hv 2), (hv 3), (hv 4), (hv 5), (hv 6), (hv 7), (hv 8)]⟩
              refine s_pick_yes (d := (sc (.bool r11))) rfl c8 rfl ?_
              exact k
            · intro K rest fr hv htk k
              show AWops _ x _ _ K ⟨41, (upd 41 fr 37 (sc (.bool r11))), [(hv 0), (hv 1), (hv 2), (hv 3), (hv 4), (hv 5), (hv 6), (hv 7), (hv 8)]⟩
              refine s_move (d := (sc (.bool r11))) rfl ?_
              exact k
            · intro K rest fr hv htk k
              show AWops _ x _ _ K ⟨41, (upd 41 fr 38 (sc (.bool r11))), [(hv 0), (hv 1), (hv 2), (hv 3), (hv 4), (hv 5), (hv 6), (hv 7), (hv 8)]⟩
              refine AWops.guard_no rfl (Nat.le_of_ble_eq_true rfl) rfl c12 ?_
              exact k
            · intro K rest fr hv htk k
              show AWops _ x _ _ K ⟨41, (upd 41 fr 38 (sc (.bool r11))), [(hv 0), (hv 1), (hv 2), (hv 3), (hv 4), (hv 5), (hv 6), (hv 7), (hv 8)]⟩
              refine s_pick_no (d := (sc (.bool false))) rfl c12 rfl ?_
              exact k
            · intro K rest fr hv htk k
              show AWops _ x _ _ K ⟨41, (upd 41 fr 40 (sc (.bool false))), [(hv 0), (hv 1), (hv 2), (hv 3), (hv 4), (hv 5), (hv 6), (hv 7), (hv 8)]⟩
              refine s_assign (d := (sc (.bool false))) rfl ?_
              exact k
          · refine AWops.weak (st' := ⟨41, (upd 41 topF 6 (sc (.bool false))), []⟩) (Weak.gen (kk := 0) [] [] hx rfl (by decide) (by decide) rfl rfl rfl (le_upd (le_top _) (.t (.one .sc))) All2.nil) ?_
            refine AWops.nil ?_
            refine AW.ret ?_
            obtain rfl := Option.some.inj h
            exact ⟨_, rfl, (Weak.gen (kk := 0) [] [] rfl rfl (by decide) (by decide) rfl rfl rfl (le_upd (le_top _) (.t (.one .sc))) All2.nil)⟩
      · replace h := (if_neg c8).symm.trans h
        replace c8 := Bool.eq_false_iff.mpr c8
        refine AW.draw (n := 41) (L := 9) [(0, ⟨some 11, (D.agg (c_api_Model a0)), [(3, (D.one (C.ref 0 0)))], [(0, (some (AObj.cells true (c_api_Model a0))))], [], none⟩), (1, ⟨some 12, (sc (.string a1)), [(1, (sc (.string a1)))], [], [], none⟩), (2, ⟨some 13, (sc (.string a2)), [(2, (sc (.string a2)))], [], [], none⟩), (3, ⟨some 14, (sc (.int .i64 r3)), [(11, (D.agg (c_api_Model a0))), (12, (sc (.string a1))), (13, (sc (.string a2)))], [], [], none⟩), (4, ⟨some 15, (D.agg (c_api_Model a0)), [(3, (D.one (C.ref 0 0)))], [(0, (some (AObj.cells true (c_api_Model a0))))], [], none⟩), (5, ⟨some 16, (sc (.string a1)), [(1, (sc (.string a1)))], [], [], none⟩), (6, ⟨some 17, (sc (.string a2)), [(2, (sc (.string a2)))], [], [], none⟩), (7, ⟨some 18, (sc (.int .i64 r4)), [(15, (D.agg (c_api_Model a0))), (16, (sc (.string a1))), (17, (sc (.string a2)))], [], [], none⟩), (8, ⟨some 19, (sc (.bool (r3 == r4))), [(14, (sc (.int .i64 r3))), (18, (sc (.int .i64 r4)))], [], [], none⟩), (9, ⟨some 20, (sc (.bool (r3 == r4))), [(19, (sc (.bool (r3 == r4))))], [], [], none⟩), (10, ⟨some 21, (D.agg (c_api_Model a0)), [(3, (D.one (C.ref 0 0))), (20, (sc (.bool (r3 == r4))))], [(0, (some (AObj.cells true (c_api_Model a0))))], [], none⟩), (11, ⟨some 22, (sc (.string a2)), [(2, (sc (.string a2))), (20, (sc (.bool (r3 == r4))))], [], [], none⟩), (12, ⟨some 23, (sc (.bool r6)), [(20, (sc (.bool (r3 == r4)))), (21, (D.agg (c_api_Model a0))), (22, (sc (.string a2)))], [], [], none⟩), (13, ⟨some 24, (D.agg (c_api_Model a0)), [(3, (D.one (C.ref 0 0))), (20, (sc (.bool (r3 == r4))))], [(0, (some (AObj.cells true (c_api_Model a0))))], [], none⟩), (14, ⟨some 25, (sc (.string a2)), [(2, (sc (.string a2))), (20, (sc (.bool (r3 == r4))))], [], [], none⟩), (15, ⟨some 26, (sc (.bool r7)), [(20, (sc (.bool (r3 == r4)))), (24, (D.agg (c_api_Model a0))), (25, (sc (.string a2)))], [], [], none⟩), (16, ⟨some 27, (sc (.bool (r6 == r7))), [(20, (sc (.bool (r3 == r4)))), (23, (sc (.bool r6))), (26, (sc (.bool r7)))], [], [], none⟩), (17, ⟨some 28, (sc (.bool (r6 == r7))), [(20, (sc (.bool (r3 == r4)))), (27, (sc (.bool (r6 == r7))))], [], [], none⟩), (18, ⟨some 29, (sc (.bool (r6 == r7))), [(28, (sc (.bool (r6 == r7))))], [], [], none⟩), (19, ⟨some 30, (D.tup []), [(3, (D.one (C.ref 0 0))), (29, (sc (.bool (r6 == r7))))], [(0, (some (AObj.cells true (c_api_Model a0))))], [], none⟩), (20, ⟨some 31, (D.tup []), [(29, (sc (.bool (r6 == r7))))], [], [], none⟩), (21, ⟨some 32, (D.tup []), [(29, (sc (.bool (r6 == r7))))], [], [], none⟩), (22, ⟨some 33, (D.tup []), [(29, (sc (.bool (r6 == r7))))], [], [], none⟩), (23, ⟨some 34, (D.tup []), [(29, (sc (.bool (r6 == r7))))], [], [], none⟩), (24, ⟨some 35, (D.tup []), [(29, (sc (.bool (r6 == r7))))], [], [], none⟩), (25, ⟨some 36, (D.tup []), [(29, (sc (.bool (r6 == r7))))], [], [], none⟩), (26, ⟨some 37, (sc (.bool false)), [(29, (sc (.bool (r6 == r7))))], [], [], none⟩), (27, ⟨some 38, (sc (.bool false)), [(37, (sc (.bool false)))], [], [], none⟩), (28, ⟨some 39, (D.tup []), [(38, (sc (.bool false)))], [], [], none⟩), (29, ⟨some 40, (sc (.bool false)), [(38, (sc (.bool false)))], [], [], none⟩), (30, ⟨some 6, (sc (.bool false)), [(40, (sc (.bool false)))], [], [], none⟩)] [[], [], [], [0, 1, 2], [], [], [], [0, 1, 2, 3, 4, 5, 6], [0, 1, 2, 3, 4, 5, 6, 7], [0, 1, 2, 3, 4, 5, 6, 7, 8], [0, 1, 2, 3, 4, 5, 6, 7, 8, 9], [0, 1, 2, 3, 4, 5, 6, 7, 8, 9], [0, 1, 2, 3, 4, 5, 6, 7, 8, 9, 10, 11], [0, 1, 2, 3, 4, 5, 6, 7, 8, 9], [0, 1, 2, 3, 4, 5, 6, 7, 8, 9], [0, 1, 2, 3, 4, 5, 6, 7, 8, 9, 10, 11, 12, 13, 14], [0, 1, 2, 3, 4, 5, 6, 7, 8, 9, 10, 11, 12, 13, 14, 15], [0, 1, 2, 3, 4, 5, 6, 7, 8, 9, 10, 11, 12, 13, 14, 15, 16], [0, 1, 2, 3, 4, 5, 6, 7, 8, 9, 10, 11, 12, 13, 14, 15, 16, 17], [0, 1, 2, 3, 4, 5, 6, 7, 8, 9, 10, 11, 12, 13, 14, 15, 16, 17, 18], [0, 1, 2, 3, 4, 5, 6, 7, 8, 9, 10, 11, 12, 13, 14, 15, 16, 17, 18], [0, 1, 2, 3, 4, 5, 6, 7, 8, 9, 10, 11, 12, 13, 14, 15, 16, 17, 18, 19, 20], [0, 1, 2, 3, 4, 5, 6, 7, 8, 9, 10, 11, 12, 13, 14, 15, 16, 17, 18], [0, 1, 2, 3, 4, 5, 6, 7, 8, 9, 10, 11, 12, 13, 14, 15, 16, 17, 18], [0, 1, 2, 3, 4, 5, 6, 7, 8, 9, 10, 11, 12, 13, 14, 15, 16, 17, 18, 19, 20, 21, 22, 23], [0, 1, 2, 3, 4, 5, 6, 7, 8, 9, 10, 11, 12, 13, 14, 15, 16, 17, 18, 19, 20, 21, 22, 23, 24], [0, 1, 2, 3, 4, 5, 6, 7, 8, 9, 10, 11, 12, 13, 14, 15, 16, 17, 18, 19, 20, 21, 22, 23, 24, 25], [0, 1, 2, 3, 4, 5, 6, 7, 8, 9, 10, 11, 12, 13, 14, 15, 16, 17, 18, 19, 20, 21, 22, 23, 24, 25, 26], [0, 1, 2, 3, 4, 5, 6, 7, 8, 9, 10, 11, 12, 13, 14, 15, 16, 17, 18, 19, 20, 21, 22, 23, 24, 25, 26, 27], [0, 1, 2, 3, 4, 5, 6, 7, 8, 9, 10, 11, 12, 13, 14, 15, 16, 17, 18, 19, 20, 21, 22, 23, 24, 25, 26, 27, 28], [0, 1, 2, 3, 4, 5, 6, 7, 8, 9, 10, 11, 12, 13, 14, 15, 16, 17, 18, 19, 20, 21, 22, 23, 24, 25, 26, 27, 28, 29]] (Nat.le_of_ble_eq_true rfl) [0, 0, 0, 1, 0, 0, 0, 2, 3, 4, 5, 5, 6, 5, 5, 7, 8, 9, 10, 11, 11, 12, 11, 11, 13, 14, 15, 16, 17, 18, 19] rfl (TK := []) rfl AllK.nil' (AllF.cons' ⟨(AllS.cons' rfl AllS.nil'), (AllH.cons' rfl AllH.nil')⟩ (AllF.cons' ⟨(AllS.cons' rfl AllS.nil'), AllH.nil'⟩ (AllF.cons' ⟨(AllS.cons' rfl AllS.nil'), AllH.nil'⟩ (AllF.cons' ⟨(AllS.cons' rfl (AllS.cons' rfl (AllS.cons' rfl AllS.nil'))), AllH.nil'⟩ (AllF.cons' ⟨(AllS.cons' rfl AllS.nil'), (AllH.cons' rfl AllH.nil')⟩ (AllF.cons' ⟨(AllS.cons' rfl AllS.nil'), AllH.nil'⟩ (AllF.cons' ⟨(AllS.cons' rfl AllS.nil'), AllH.nil'⟩ (AllF.cons' ⟨(AllS.cons' rfl (AllS.cons' rfl (AllS.cons' rfl AllS.nil'))), AllH.nil'⟩ (AllF.cons' ⟨(AllS.cons' rfl (AllS.cons' rfl AllS.nil')), AllH.nil'⟩ (AllF.cons' ⟨(AllS.cons' rfl AllS.nil'), AllH.nil'⟩ (AllF.cons' ⟨(AllS.cons' rfl (AllS.cons' rfl AllS.nil')), (AllH.cons' rfl AllH.nil')⟩ (AllF.cons' ⟨(AllS.cons' rfl (AllS.cons' rfl AllS.nil')), AllH.nil'⟩ (AllF.cons' ⟨(AllS.cons' rfl (AllS.cons' rfl (AllS.cons' rfl AllS.nil'))), AllH.nil'⟩ (AllF.cons' ⟨(AllS.cons' rfl (AllS.cons' rfl AllS.nil')), (AllH.cons' rfl AllH.nil')⟩ (AllF.cons' ⟨(AllS.cons' rfl (AllS.cons' rfl AllS.nil')), AllH.nil'⟩ (AllF.cons' ⟨(AllS.cons' rfl (AllS.cons' rfl (AllS.cons' rfl AllS.nil'))), AllH.nil'⟩ (AllF.cons' ⟨(AllS.cons' rfl (AllS.cons' rfl (AllS.cons' rfl AllS.nil'))), AllH.nil'⟩ (AllF.cons' ⟨(AllS.cons' rfl (AllS.cons' rfl AllS.nil')), AllH.nil'⟩ (AllF.cons' ⟨(AllS.cons' rfl AllS.nil'), AllH.nil'⟩ (AllF.cons' ⟨(AllS.cons' rfl (AllS.cons' rfl AllS.nil')), (AllH.cons' rfl AllH.nil')⟩ (AllF.cons' ⟨(AllS.cons' rfl AllS.nil'), AllH.nil'⟩ (AllF.cons' ⟨(AllS.cons' rfl AllS.nil'), AllH.nil'⟩ (AllF.cons' ⟨(AllS.cons' rfl AllS.nil'), AllH.nil'⟩ (AllF.cons' ⟨(AllS.cons' rfl AllS.nil'), AllH.nil'⟩ (AllF.cons' ⟨(AllS.cons' rfl AllS.nil'), AllH.nil'⟩ (AllF.cons' ⟨(AllS.cons' rfl AllS.nil'), AllH.nil'⟩ (AllF.cons' ⟨(AllS.cons' rfl AllS.nil'), AllH.nil'⟩ (AllF.cons' ⟨(AllS.cons' rfl AllS.nil'), AllH.nil'⟩ (AllF.cons' ⟨(AllS.cons' rfl AllS.nil'), AllH.nil'⟩ (AllF.cons' ⟨(AllS.cons' rfl AllS.nil'), AllH.nil'⟩ (AllF.cons' ⟨(AllS.cons' rfl AllS.nil'), AllH.nil'⟩ AllF.nil'))))))))))))))))))))))))))))))) ?_ ?_
        · refine (AllStep.cons' ?_ (AllStep.cons' ?_ (AllStep.cons' ?_ (AllStep.cons' ?_ (AllStep.cons' ?_ (AllStep.cons' ?_ (AllStep.cons' ?_ (AllStep.cons' ?_ (AllStep.cons' ?_ (AllStep.cons' ?_ (AllStep.cons' ?_ (AllStep.cons' ?_ (AllStep.cons' ?_ (AllStep.cons' ?_ (AllStep.cons' ?_ (AllStep.cons' ?_ (AllStep.cons' ?_ (AllStep.cons' ?_ (AllStep.cons' ?_ (AllStep.cons' ?_ (AllStep.cons' ?_ (AllStep.cons' ?_ (AllStep.cons' ?_ (AllStep.cons' ?_ (AllStep.cons' ?_ (AllStep.cons' ?_ (AllStep.cons' ?_ (AllStep.cons' ?_ (AllStep.cons' ?_ (AllStep.cons' ?_ (AllStep.cons' ?_ AllStep.nil')))))))))))))))))))))))))))))))
          · intro K rest fr hv htk k
            show AWops _ x _ _ K ⟨41, (upd 41 fr 3 (D.one (C.ref 0 0))), [(some (AObj.cells true (c_api_Model a0))), (hv 1), (hv 2), (hv 3), (hv 4), (hv 5), (hv 6), (hv 7), (hv 8)]⟩
            refine s_loadN (ds := (c_api_Model a0)) F.ag_38 F.sz_38 rfl rfl rfl ?_
            exact k
          · intro K rest fr hv htk k
            show AWops _ x _ _ K ⟨41, (upd 41 fr 1 (sc (.string a1))), [(hv 0), (hv 1), (hv 2), (hv 3), (hv 4), (hv 5), (hv 6), (hv 7), (hv 8)]⟩
            refine s_move (d := (sc (.string a1))) rfl ?_
            exact k
          · intro K rest fr hv htk k
            show AWops _ x _ _ K ⟨41, (upd 41 fr 2 (sc (.string a2))), [(hv 0), (hv 1), (hv 2), (hv 3), (hv 4), (hv 5), (hv 6), (hv 7), (hv 8)]⟩
            refine s_move (d := (sc (.string a2))) rfl ?_
            exact k
          · intro K rest fr hv htk k
            show AWops _ x _ _ K ⟨41, (upd 41 (upd 41 (upd 41 fr 13 (sc (.string a2))) 12 (sc (.string a1))) 11 (D.agg (c_api_Model a0))), [(hv 0), (hv 1), (hv 2), (hv 3), (hv 4), (hv 5), (hv 6), (hv 7), (hv 8)]⟩
            refine s_call2 (ρ := []) (br := false) (H2 := [(hv 0), (hv 1), (hv 2), (hv 3), (hv 4), (hv 5), (hv 6), (hv 7), (hv 8)]) (d := (sc (.int .i64 r3))) F.ca_23 rfl rfl (All2.cons (LendT.aggL (All2.cons .sc (All2.cons .sc (All2.cons .imm (All2.cons .imm (All2.cons .sc (All2.cons .sc (All2.cons .sc (All2.cons .imm (All2.cons .imm (All2.cons .sc (All2.cons .sc (All2.cons .sc (All2.cons .sc (All2.cons .sc (All2.cons .sc (All2.cons .imm (All2.cons .imm (All2.cons .imm All2.nil))))))))))))))))))) (All2.cons (.one .sc) (All2.cons (.one .sc) All2.nil))) All2.nil (by decide) rfl (roles_Check.meets _ a0 a1 a2 r3 er3) (.inl rfl) rfl rfl ?_
            exact k
          · intro K rest fr hv htk k
            show AWops _ x _ _ K ⟨41, (upd 41 fr 3 (D.one (C.ref 0 0))), [(some (AObj.cells true (c_api_Model a0))), (hv 1), (hv 2), (hv 3), (hv 4), (hv 5), (hv 6), (hv 7), (hv 8)]⟩
            refine s_loadN (ds := (c_api_Model a0)) F.ag_38 F.sz_38 rfl rfl rfl ?_
            exact k
          · intro K rest fr hv htk k
            show AWops _ x _ _ K ⟨41, (upd 41 fr 1 (sc (.string a1))), [(hv 0), (hv 1), (hv 2), (hv 3), (hv 4), (hv 5), (hv 6), (hv 7), (hv 8)]⟩
            refine s_move (d := (sc (.string a1))) rfl ?_
            exact k
          · intro K rest fr hv htk k
            show AWops _ x _ _ K ⟨41, (upd 41 fr 2 (sc (.string a2))), [(hv 0), (hv 1), (hv 2), (hv 3), (hv 4), (hv 5), (hv 6), (hv 7), (hv 8)]⟩
            refine s_move (d := (sc (.string a2))) rfl ?_
            exact k
          · intro K rest fr hv htk k
            show AWops _ x _ _ K ⟨41, (upd 41 (upd 41 (upd 41 fr 17 (sc (.string a2))) 16 (sc (.string a1))) 15 (D.agg (c_api_Model a0))), [(hv 0), (hv 1), (hv 2), (hv 3), (hv 4), (hv 5), (hv 6), (hv 7), (hv 8)]⟩
            refine s_call2 (ρ := []) (br := false) (H2 := [(hv 0), (hv 1), (hv 2), (hv 3), (hv 4), (hv 5), (hv 6), (hv 7), (hv 8)]) (d := (sc (.int .i64 r4))) F.ca_34 rfl rfl (All2.cons (LendT.aggL (All2.cons .sc (All2.cons .sc (All2.cons .imm (All2.cons .imm (All2.cons .sc (All2.cons .sc (All2.cons .sc (All2.cons .imm (All2.cons .imm (All2.cons .sc (All2.cons .sc (All2.cons .sc (All2.cons .sc (All2.cons .sc (All2.cons .sc (All2.cons .imm (All2.cons .imm (All2.cons .imm All2.nil))))))))))))))))))) (All2.cons (.one .sc) (All2.cons (.one .sc) All2.nil))) All2.nil (by decide) rfl (dossierref27_Check.meets _ a0 a1 a2 r4 er4) (.inl rfl) rfl rfl ?_
            exact k
          · intro K rest fr hv htk k
            show AWops _ x _ _ K ⟨41, (upd 41 (upd 41 fr 18 (sc (.int .i64 r4))) 14 (sc (.int .i64 r3))), [(hv 0), (hv 1), (hv 2), (hv 3), (hv 4), (hv 5), (hv 6), (hv 7), (hv 8)]⟩
            refine s_binI (v := (.bool (r3 == r4))) rfl rfl rfl ?_
            exact k
          · intro K rest fr hv htk k
            show AWops _ x _ _ K ⟨41, (upd 41 fr 19 (sc (.bool (r3 == r4)))), [(hv 0), (hv 1), (hv 2), (hv 3), (hv 4), (hv 5), (hv 6), (hv 7), (hv 8)]⟩
            refine s_move (d := (sc (.bool (r3 == r4)))) rfl ?_
            exact k
          · intro K rest fr hv htk k
            show AWops _ x _ _ K ⟨41, (upd 41 (upd 41 fr 20 (sc (.bool (r3 == r4)))) 3 (D.one (C.ref 0 0))), [(some (AObj.cells true (c_api_Model a0))), (hv 1), (hv 2), (hv 3), (hv 4), (hv 5), (hv 6), (hv 7), (hv 8)]⟩
            refine AWops.guard_yes rfl (Nat.le_of_ble_eq_true rfl) rfl c5 ?_
            refine s_loadN (ds := (c_api_Model a0)) F.ag_38 F.sz_38 rfl rfl rfl ?_
            exact k
          · intro K rest fr hv htk k
            show AWops _ x _ _ K ⟨41, (upd 41 (upd 41 fr 20 (sc (.bool (r3 == r4)))) 2 (sc (.string a2))), [(hv 0), (hv 1), (hv 2), (hv 3), (hv 4), (hv 5), (hv 6), (hv 7), (hv 8)]⟩
            refine AWops.guard_yes rfl (Nat.le_of_ble_eq_true rfl) rfl c5 ?_
            refine s_move (d := (sc (.string a2))) rfl ?_
            exact k
          · intro K rest fr hv htk k
            show AWops _ x _ _ K ⟨41, (upd 41 (upd 41 (upd 41 fr 22 (sc (.string a2))) 21 (D.agg (c_api_Model a0))) 20 (sc (.bool (r3 == r4)))), [(hv 0), (hv 1), (hv 2), (hv 3), (hv 4), (hv 5), (hv 6), (hv 7), (hv 8)]⟩
            refine AWops.guard_yes rfl (Nat.le_of_ble_eq_true rfl) rfl c5 ?_
            refine s_call2 (ρ := []) (br := false) (H2 := [(hv 0), (hv 1), (hv 2), (hv 3), (hv 4), (hv 5), (hv 6), (hv 7), (hv 8)]) (d := (sc (.bool r6))) F.ca_24 rfl rfl (All2.cons (LendT.aggL (All2.cons .sc (All2.cons .sc (All2.cons .imm (All2.cons .imm (All2.cons .sc (All2.cons .sc (All2.cons .sc (All2.cons .imm (All2.cons .imm (All2.cons .sc (All2.cons .sc (All2.cons .sc (All2.cons .sc (All2.cons .sc (All2.cons .sc (All2.cons .imm (All2.cons .imm (All2.cons .imm All2.nil))))))))))))))))))) (All2.cons (.one .sc) All2.nil)) All2.nil (by decide) rfl (roles_Known.meets _ a0 a2 r6 er6) (.inl rfl) rfl rfl ?_
            exact k
          · intro K rest fr hv htk k
            show AWops _ x _ _ K ⟨41, (upd 41 (upd 41 fr 20 (sc (.bool (r3 == r4)))) 3 (D.one (C.ref 0 0))), [(some (AObj.cells true (c_api_Model a0))), (hv 1), (hv 2), (hv 3), (hv 4), (hv 5), (hv 6), (hv 7), (hv 8)]⟩
            refine AWops.guard_yes rfl (Nat.le_of_ble_eq_true rfl) rfl c5 ?_
            refine s_loadN (ds := (c_api_Model a0)) F.ag_38 F.sz_38 rfl rfl rfl ?_
            exact k
          · intro K rest fr hv htk k
            show AWops _ x _ _ K ⟨41, (upd 41 (upd 41 fr 20 (sc (.bool (r3 == r4)))) 2 (sc (.string a2))), [(hv 0), (hv 1), (hv 2), (hv 3), (hv 4), (hv 5), (hv 6), (hv 7), (hv 8)]⟩
            refine AWops.guard_yes rfl (Nat.le_of_ble_eq_true rfl) rfl c5 ?_
            refine s_move (d := (sc (.string a2))) rfl ?_
            exact k
          · intro K rest fr hv htk k
            show AWops _ x _ _ K ⟨41, (upd 41 (upd 41 (upd 41 fr 25 (sc (.string a2))) 24 (D.agg (c_api_Model a0))) 20 (sc (.bool (r3 == r4)))), [(hv 0), (hv 1), (hv 2), (hv 3), (hv 4), (hv 5), (hv 6), (hv 7), (hv 8)]⟩
            refine AWops.guard_yes rfl (Nat.le_of_ble_eq_true rfl) rfl c5 ?_
            refine s_call2 (ρ := []) (br := false) (H2 := [(hv 0), (hv 1), (hv 2), (hv 3), (hv 4), (hv 5), (hv 6), (hv 7), (hv 8)]) (d := (sc (.bool r7))) F.ca_35 rfl rfl (All2.cons (LendT.aggL (All2.cons .sc (All2.cons .sc (All2.cons .imm (All2.cons .imm (All2.cons .sc (All2.cons .sc (All2.cons .sc (All2.cons .imm (All2.cons .imm (All2.cons .sc (All2.cons .sc (All2.cons .sc (All2.cons .sc (All2.cons .sc (All2.cons .sc (All2.cons .imm (All2.cons .imm (All2.cons .imm All2.nil))))))))))))))))))) (All2.cons (.one .sc) All2.nil)) All2.nil (by decide) rfl (dossierref27_Known.meets _ a0 a2 r7 er7) (.inl rfl) rfl rfl ?_
            exact k
          · intro K rest fr hv htk k
            show AWops _ x _ _ K ⟨41, (upd 41 (upd 41 (upd 41 fr 26 (sc (.bool r7))) 23 (sc (.bool r6))) 20 (sc (.bool (r3 == r4)))), [(hv 0), (hv 1), (hv 2), (hv 3), (hv 4), (hv 5), (hv 6), (hv 7), (hv 8)]⟩
            refine AWops.guard_yes rfl (Nat.le_of_ble_eq_true rfl) rfl c5 ?_
            refine s_binB (b := (r6 == r7)) F.u_4 rfl rfl (.inl ⟨rfl, rfl⟩) ?_
            exact k
          · intro K rest fr hv htk k
            show AWops _ x _ _ K ⟨41, (upd 41 (upd 41 fr 27 (sc (.bool (r6 == r7)))) 20 (sc (.bool (r3 == r4)))), [(hv 0), (hv 1), (hv 2), (hv 3), (hv 4), (hv 5), (hv 6), (hv 7), (hv 8)]⟩
            refine s_pick_yes (d := (sc (.bool (r6 == r7)))) rfl c5 rfl ?_
            exact k
          · intro K rest fr hv htk k
            show AWops _ x _ _ K ⟨41, (upd 41 fr 28 (sc (.bool (r6 == r7)))), [(hv 0), (hv 1), (hv 2), (hv 3), (hv 4), (hv 5), (hv 6), (hv 7), (hv 8)]⟩
            refine s_move (d := (sc (.bool (r6 == r7)))) rfl ?_
            exact k
          · intro K rest fr hv htk k
            show AWops _ x _ _ K ⟨41, (upd 41 (upd 41 fr 29 (sc (.bool (r6 == r7)))) 3 (D.one (C.ref 0 0))), [(some (AObj.cells true (c_api_Model a0))), (hv 1), (hv 2), (hv 3), (hv 4), (hv 5), (hv 6), (hv 7), (hv 8)]⟩
            refine AWops.guard_no rfl (Nat.le_of_ble_eq_true rfl) rfl c8 ?_
            exact k
          · intro K rest fr hv htk k
            show AWops _ x _ _ K ⟨41, (upd 41 fr 29 (sc (.bool (r6 == r7)))), [(hv 0), (hv 1), (hv 2), (hv 3), (hv 4), (hv 5), (hv 6), (hv 7), (hv 8)]⟩
            refine AWops.guard_no rfl (Nat.le_of_ble_eq_true rfl) rfl c8 ?_
            exact k
          · intro K rest fr hv htk k
            show AWops _ x _ _ K ⟨41, (upd 41 fr 29 (sc (.bool (r6 == r7)))), [(hv 0), (hv 1), (hv 2), (hv 3), (hv 4), (hv 5), (hv 6), (hv 7), (hv 8)]⟩
            refine AWops.guard_no rfl (Nat.le_of_ble_eq_true rfl) rfl c8 ?_
            exact k
          · intro K rest fr hv htk k
            show AWops _ x _ _ K ⟨41, (upd 41 fr 29 (sc (.bool (r6 == r7)))), [(hv 0), (hv 1), (hv 2), (hv 3), (hv 4), (hv 5), (hv 6), (hv 7), (hv 8)]⟩
            refine AWops.guard_no rfl (Nat.le_of_ble_eq_true rfl) rfl c8 ?_
            exact k
          · intro K rest fr hv htk k
            show AWops _ x _ _ K ⟨41, (upd 41 fr 29 (sc (.bool (r6 == r7)))), [(hv 0), (hv 1), (hv 2), (hv 3), (hv 4), (hv 5), (hv 6), (hv 7), (hv 8)]⟩
            refine AWops.guard_no rfl (Nat.le_of_ble_eq_true rfl) rfl c8 ?_
            exact k
          · intro K rest fr hv htk k
            show AWops _ x _ _ K ⟨41, (upd 41 fr 29 (sc (.bool (r6 == r7)))), [(hv 0), (hv 1), (hv 2), (hv 3), (hv 4), (hv 5), (hv 6), (hv 7), (hv 8)]⟩
            refine AWops.guard_no rfl (Nat.le_of_ble_eq_true rfl) rfl c8 ?_
            exact k
          · intro K rest fr hv htk k
            show AWops _ x _ _ K ⟨41, (upd 41 fr 29 (sc (.bool (r6 == r7)))), [(hv 0), (hv 1), (hv 2), (hv 3), (hv 4), (hv 5), (hv 6), (hv 7), (hv 8)]⟩
            refine AWops.guard_no rfl (Nat.le_of_ble_eq_true rfl) rfl c8 ?_
            exact k
          · intro K rest fr hv htk k
            show AWops _ x _ _ K ⟨41, (upd 41 fr 29 (sc (.bool (r6 == r7)))), [(hv 0), (hv 1), (hv 2), (hv 3), (hv 4), (hv 5), (hv 6), (hv 7), (hv 8)]⟩
            refine s_pick_no (d := (sc (.bool false))) rfl c8 rfl ?_
            exact k
          · intro K rest fr hv htk k
            show AWops _ x _ _ K ⟨41, (upd 41 fr 37 (sc (.bool false))), [(hv 0), (hv 1), (hv 2), (hv 3), (hv 4), (hv 5), (hv 6), (hv 7), (hv 8)]⟩
            refine s_move (d := (sc (.bool false))) rfl ?_
            exact k
          · intro K rest fr hv htk k
            show AWops _ x _ _ K ⟨41, (upd 41 fr 38 (sc (.bool false))), [(hv 0), (hv 1), (hv 2), (hv 3), (hv 4), (hv 5), (hv 6), (hv 7), (hv 8)]⟩
            refine AWops.guard_no rfl (Nat.le_of_ble_eq_true rfl) rfl rfl ?_
            exact k
          · intro K rest fr hv htk k
            show AWops _ x _ _ K ⟨41, (upd 41 fr 38 (sc (.bool false))), [(hv 0), (hv 1), (hv 2), (hv 3), (hv 4), (hv 5), (hv 6), (hv 7), (hv 8)]⟩
            refine s_pick_no (d := (sc (.bool false))) rfl rfl rfl ?_
            exact k
          · intro K rest fr hv htk k
            show AWops _ x _ _ K ⟨41, (upd 41 fr 40 (sc (.bool false))), [(hv 0), (hv 1), (hv 2), (hv 3), (hv 4), (hv 5), (hv 6), (hv 7), (hv 8)]⟩
            refine s_assign (d := (sc (.bool false))) rfl ?_
            exact k
        · refine AWops.weak (st' := ⟨41, (upd 41 topF 6 (sc (.bool false))), []⟩) (Weak.gen (kk := 0) [] [] hx rfl (by decide) (by decide) rfl rfl rfl (le_upd (le_top _) (.t (.one .sc))) All2.nil) ?_
          refine AWops.nil ?_
          refine AW.ret ?_
          obtain rfl := Option.some.inj h
          exact ⟨_, rfl, (Weak.gen (kk := 0) [] [] rfl rfl (by decide) (by decide) rfl rfl rfl (le_upd (le_top _) (.t (.one .sc))) All2.nil)⟩
    · replace h := (if_neg c5).symm.trans h
      replace c5 := Bool.eq_false_iff.mpr c5
      refine AW.draw (n := 41) (L := 9) [(0, ⟨some 11, (D.agg (c_api_Model a0)), [(3, (D.one (C.ref 0 0)))], [(0, (some (AObj.cells true (c_api_Model a0))))], [], none⟩), (1, ⟨some 12, (sc (.string a1)), [(1, (sc (.string a1)))], [], [], none⟩), (2, ⟨some 13, (sc (.string a2)), [(2, (sc (.string a2)))], [], [], none⟩), (3, ⟨some 14, (sc (.int .i64 r3)), [(11, (D.agg (c_api_Model a0))), (12, (sc (.string a1))), (13, (sc (.string a2)))], [], [], none⟩), (4, ⟨some 15, (D.agg (c_api_Model a0)), [(3, (D.one (C.ref 0 0)))], [(0, (some (AObj.cells true (c_api_Model a0))))], [], none⟩), (5, ⟨some 16, (sc (.string a1)), [(1, (sc (.string a1)))], [], [], none⟩), (6, ⟨some 17, (sc (.string a2)), [(2, (sc (.string a2)))], [], [], none⟩), (7, ⟨some 18, (sc (.int .i64 r4)), [(15, (D.agg (c_api_Model a0))), (16, (sc (.string a1))), (17, (sc (.string a2)))], [], [], none⟩), (8, ⟨some 19, (sc (.bool (r3 == r4))), [(14, (sc (.int .i64 r3))), (18, (sc (.int .i64 r4)))], [], [], none⟩), (9, ⟨some 20, (sc (.bool (r3 == r4))), [(19, (sc (.bool (r3 == r4))))], [], [], none⟩), (10, ⟨some 21, (D.tup []), [(3, (D.one (C.ref 0 0))), (20, (sc (.bool (r3 == r4))))], [(0, (some (AObj.cells true (c_api_Model a0))))], [], none⟩), (11, ⟨some 22, (D.tup []), [(20, (sc (.bool (r3 == r4))))], [], [], none⟩), (12, ⟨some 23, (D.tup []), [(20, (sc (.bool (r3 == r4))))], [], [], none⟩), (13, ⟨some 24, (D.tup []), [(20, (sc (.bool (r3 == r4))))], [], [], none⟩), (14, ⟨some 25, (D.tup []), [(20, (sc (.bool (r3 == r4))))], [], [], none⟩), (15, ⟨some 26, (D.tup []), [(20, (sc (.bool (r3 == r4))))], [], [], none⟩), (16, ⟨some 27, (D.tup []), [(20, (sc (.bool (r3 == r4))))], [], [], none⟩), (17, ⟨some 28, (sc (.bool false)), [(20, (sc (.bool (r3 == r4))))], [], [], none⟩), (18, ⟨some 29, (sc (.bool false)), [(28, (sc (.bool false)))], [], [], none⟩), (19, ⟨some 30, (D.tup []), [(29, (sc (.bool false)))], [], [], none⟩), (20, ⟨some 31, (D.tup []), [(29, (sc (.bool false)))], [], [], none⟩), (21, ⟨some 32, (D.tup []), [(29, (sc (.bool false)))], [], [], none⟩), (22, ⟨some 33, (D.tup []), [(29, (sc (.bool false)))], [], [], none⟩), (23, ⟨some 34, (D.tup []), [(29, (sc (.bool false)))], [], [], none⟩), (24, ⟨some 35, (D.tup []), [(29, (sc (.bool false)))], [], [], none⟩), (25, ⟨some 36, (D.tup []), [(29, (sc (.bool false)))], [], [], none⟩), (26, ⟨some 37, (sc (.bool false)), [(29, (sc (.bool false)))], [], [], none⟩), (27, ⟨some 38, (sc (.bool false)), [(37, (sc (.bool false)))], [], [], none⟩), (28, ⟨some 39, (D.tup []), [(38, (sc (.bool false)))], [], [], none⟩), (29, ⟨some 40, (sc (.bool false)), [(38, (sc (.bool false)))], [], [], none⟩), (30, ⟨some 6, (sc (.bool false)), [(40, (sc (.bool false)))], [], [], none⟩)] [[], [], [], [0, 1, 2], [], [], [], [0, 1, 2, 3, 4, 5, 6], [0, 1, 2, 3, 4, 5, 6, 7], [0, 1, 2, 3, 4, 5, 6, 7, 8], [0, 1, 2, 3, 4, 5, 6, 7, 8, 9], [0, 1, 2, 3, 4, 5, 6, 7, 8, 9], [0, 1, 2, 3, 4, 5, 6, 7, 8, 9, 10, 11], [0, 1, 2, 3, 4, 5, 6, 7, 8, 9], [0, 1, 2, 3, 4, 5, 6, 7, 8, 9], [0, 1, 2, 3, 4, 5, 6, 7, 8, 9, 10, 11, 12, 13, 14], [0, 1, 2, 3, 4, 5, 6, 7, 8, 9, 10, 11, 12, 13, 14, 15], [0, 1, 2, 3, 4, 5, 6, 7, 8, 9, 10, 11, 12, 13, 14, 15, 16], [0, 1, 2, 3, 4, 5, 6, 7, 8, 9, 10, 11, 12, 13, 14, 15, 16, 17], [0, 1, 2, 3, 4, 5, 6, 7, 8, 9, 10, 11, 12, 13, 14, 15, 16, 17, 18], [0, 1, 2, 3, 4, 5, 6, 7, 8, 9, 10, 11, 12, 13, 14, 15, 16, 17, 18], [0, 1, 2, 3, 4, 5, 6, 7, 8, 9, 10, 11, 12, 13, 14, 15, 16, 17, 18, 19, 20], [0, 1, 2, 3, 4, 5, 6, 7, 8, 9, 10, 11, 12, 13, 14, 15, 16, 17, 18], [0, 1, 2, 3, 4, 5, 6, 7, 8, 9, 10, 11, 12, 13, 14, 15, 16, 17, 18], [0, 1, 2, 3, 4, 5, 6, 7, 8, 9, 10, 11, 12, 13, 14, 15, 16, 17, 18, 19, 20, 21, 22, 23], [0, 1, 2, 3, 4, 5, 6, 7, 8, 9, 10, 11, 12, 13, 14, 15, 16, 17, 18, 19, 20, 21, 22, 23, 24], [0, 1, 2, 3, 4, 5, 6, 7, 8, 9, 10, 11, 12, 13, 14, 15, 16, 17, 18, 19, 20, 21, 22, 23, 24, 25], [0, 1, 2, 3, 4, 5, 6, 7, 8, 9, 10, 11, 12, 13, 14, 15, 16, 17, 18, 19, 20, 21, 22, 23, 24, 25, 26], [0, 1, 2, 3, 4, 5, 6, 7, 8, 9, 10, 11, 12, 13, 14, 15, 16, 17, 18, 19, 20, 21, 22, 23, 24, 25, 26, 27], [0, 1, 2, 3, 4, 5, 6, 7, 8, 9, 10, 11, 12, 13, 14, 15, 16, 17, 18, 19, 20, 21, 22, 23, 24, 25, 26, 27, 28], [0, 1, 2, 3, 4, 5, 6, 7, 8, 9, 10, 11, 12, 13, 14, 15, 16, 17, 18, 19, 20, 21, 22, 23, 24, 25, 26, 27, 28, 29]] (Nat.le_of_ble_eq_true rfl) [0, 0, 0, 1, 0, 0, 0, 2, 3, 4, 5, 5, 6, 5, 5, 7, 8, 9, 10, 11, 11, 12, 11, 11, 13, 14, 15, 16, 17, 18, 19] rfl (TK := []) rfl AllK.nil' (AllF.cons' ⟨(AllS.cons' rfl AllS.nil'), (AllH.cons' rfl AllH.nil')⟩ (AllF.cons' ⟨(AllS.cons' rfl AllS.nil'), AllH.nil'⟩ (AllF.cons' ⟨(AllS.cons' rfl AllS.nil'), AllH.nil'⟩ (AllF.cons' ⟨(AllS.cons' rfl (AllS.cons' rfl (AllS.cons' rfl AllS.nil'))), AllH.nil'⟩ (AllF.cons' ⟨(AllS.cons' rfl AllS.nil'), (AllH.cons' rfl AllH.nil')⟩ (AllF.cons' ⟨(AllS.cons' rfl AllS.nil'), AllH.nil'⟩ (AllF.cons' ⟨(AllS.cons' rfl AllS.nil'), AllH.nil'⟩ (AllF.cons' ⟨(AllS.cons' rfl (AllS.cons' rfl (AllS.cons' rfl AllS.nil'))), AllH.nil'⟩ (AllF.cons' ⟨(AllS.cons' rfl (AllS.cons' rfl AllS.nil')), AllH.nil'⟩ (AllF.cons' ⟨(AllS.cons' rfl AllS.nil'), AllH.nil'⟩ (AllF.cons' ⟨(AllS.cons' rfl (AllS.cons' rfl AllS.nil')), (AllH.cons' rfl AllH.nil')⟩ (AllF.cons' ⟨(AllS.cons' rfl AllS.nil'), AllH.nil'⟩ (AllF.cons' ⟨(AllS.cons' rfl AllS.nil'), AllH.nil'⟩ (AllF.cons' ⟨(AllS.cons' rfl AllS.nil'), AllH.nil'⟩ (AllF.cons' ⟨(AllS.cons' rfl AllS.nil'), AllH.nil'⟩ (AllF.cons' ⟨(AllS.cons' rfl AllS.nil'), AllH.nil'⟩ (AllF.cons' ⟨(AllS.cons' rfl AllS.nil'), AllH.nil'⟩ (AllF.cons' ⟨(AllS.cons' rfl AllS.nil'), AllH.nil'⟩ (AllF.cons' ⟨(AllS.cons' rfl AllS.nil'), AllH.nil'⟩ (AllF.cons' ⟨(AllS.cons' rfl AllS.nil'), AllH.nil'⟩ (AllF.cons' ⟨(AllS.cons' rfl AllS.nil'), AllH.nil'⟩ (AllF.cons' ⟨(AllS.cons' rfl AllS.nil'), AllH.nil'⟩ (AllF.cons' ⟨(AllS.cons' rfl AllS.nil'), AllH.nil'⟩ (AllF.cons' ⟨(AllS.cons' rfl AllS.nil'), AllH.nil'⟩ (AllF.cons' ⟨(AllS.cons' rfl AllS.nil'), AllH.nil'⟩ (AllF.cons' ⟨(AllS.cons' rfl AllS.nil'), AllH.nil'⟩ (AllF.cons' ⟨(AllS.cons' rfl AllS.nil'), AllH.nil'⟩ (AllF.cons' ⟨(AllS.cons' rfl AllS.nil'), AllH.nil'⟩ (AllF.cons' ⟨(AllS.cons' rfl AllS.nil'), AllH.nil'⟩ (AllF.cons' ⟨(AllS.cons' rfl AllS.nil'), AllH.nil'⟩ (AllF.cons' ⟨(AllS.cons' rfl AllS.nil'), AllH.nil'⟩ AllF.nil'))))))))))))))))))))))))))))))) ?_ ?_
      · refine (AllStep.cons' ?_ (AllStep.cons' ?_ (AllStep.cons' ?_ (AllStep.cons' ?_ (AllStep.cons' ?_ (AllStep.cons' ?_ (AllStep.cons' ?_ (AllStep.cons' ?_ (AllStep.cons' ?_ (AllStep.cons' ?_ (AllStep.cons' ?_ (AllStep.cons' ?_ (AllStep.cons' ?_ (AllStep.cons' ?_ (AllStep.cons' ?_ (AllStep.cons' ?_ (AllStep.cons' ?_ (AllStep.cons' ?_ (AllStep.cons' ?_ (AllStep.cons' ?_ (AllStep.cons' ?_ (AllStep.cons' ?_ (AllStep.cons' ?_ (AllStep.cons' ?_ (AllStep.cons' ?_ (AllStep.cons' ?_ (AllStep.cons' ?_ (AllStep.cons' ?_ (AllStep.cons' ?_ (AllStep.cons' ?_ (AllStep.cons' ?_ AllStep.nil')))))))))))))))))))))))))))))))
        · intro K rest fr hv htk k
          show AWops _ x _ _ K ⟨41, (upd 41 fr 3 (D.one (C.ref 0 0))), [(some (AObj.cells true (c_api_Model a0))), (hv 1), (hv 2), (hv 3), (hv 4), (hv 5), (hv 6), (hv 7), (hv 8)]⟩
          refine s_loadN (ds := (c_api_Model a0)) F.ag_38 F.sz_38 rfl rfl rfl ?_
          exact k
        · intro K rest fr hv htk k
          show AWops _ x _ _ K ⟨41, (upd 41 fr 1 (sc (.string a1))), [(hv 0), (hv 1), (hv 2), (hv 3), (hv 4), (hv 5), (hv 6), (hv 7), (hv 8)]⟩
          refine s_move (d := (sc (.string a1))) rfl ?_
          exact k
        · intro K rest fr hv htk k
          show AWops _ x _ _ K ⟨41, (upd 41 fr 2 (sc (.string a2))), [(hv 0), (hv 1), (hv 2), (hv 3), (hv 4), (hv 5), (hv 6), (hv 7), (hv 8)]⟩
          refine s_move (d := (sc (.string a2))) rfl ?_
          exact k
        · intro K rest fr hv htk k
          show AWops _ x _ _ K ⟨41, (upd 41 (upd 41 (upd 41 fr 13 (sc (.string a2))) 12 (sc (.string a1))) 11 (D.agg (c_api_Model a0))), [(hv 0), (hv 1), (hv 2), (hv 3), (hv 4), (hv 5), (hv 6), (hv 7), (hv 8)]⟩
          refine s_call2 (ρ := []) (br := false) (H2 := [(hv 0), (hv 1), (hv 2), (hv 3), (hv 4), (hv 5), (hv 6), (hv 7), (hv 8)]) (d := (sc (.int .i64 r3))) F.ca_23 rfl rfl (All2.cons (LendT.aggL (All2.cons .sc (All2.cons .sc (All2.cons .imm (All2.cons .imm (All2.cons .sc (All2.cons .sc (All2.cons .sc (All2.cons .imm (All2.cons .imm (All2.cons .sc (All2.cons .sc (All2.cons .sc (All2.cons .sc (All2.cons .sc (All2.cons .sc (All2.cons .imm (All2.cons .imm (All2.cons .imm All2.nil))))))))))))))))))) (All2.cons (.one .sc) (All2.cons (.one .sc) All2.nil))) All2.nil (by decide) rfl (roles_Check.meets _ a0 a1 a2 r3 er3) (.inl rfl) rfl rfl ?_
          exact k
        · intro K rest fr hv htk k
          show AWops _ x _ _ K ⟨41, (upd 41 fr 3 (D.one (C.ref 0 0))), [(some (AObj.cells true (c_api_Model a0))), (hv 1), (hv 2), (hv 3), (hv 4), (hv 5), (hv 6), (hv 7), (hv 8)]⟩
          refine s_loadN (ds := (c_api_Model a0)) F.ag_38 F.sz_38 rfl rfl rfl ?_
          exact k
        · intro K rest fr hv htk k
          show AWops _ x _ _ K ⟨41, (upd 41 fr 1 (sc (.string a1))), [(hv 0), (hv 1), (hv 2), (hv 3), (hv 4), (hv 5), (hv 6), (hv 7), (hv 8)]⟩
          refine s_move (d := (sc (.string a1))) rfl ?_
          exact k
        · intro K rest fr hv htk k
          show AWops _ x _ _ K ⟨41, (upd 41 fr 2 (sc (.string a2))), [(hv 0), (hv 1), (hv 2), (hv 3), (hv 4), (hv 5), (hv 6), (hv 7), (hv 8)]⟩
          refine s_move (d := (sc (.string a2))) rfl ?_
          exact k
        · intro K rest fr hv htk k
          show AWops _ x _ _ K ⟨41, (upd 41 (upd 41 (upd 41 fr 17 (sc (.string a2))) 16 (sc (.string a1))) 15 (D.agg (c_api_Model a0))), [(hv 0), (hv 1), (hv 2), (hv 3), (hv 4), (hv 5), (hv 6), (hv 7), (hv 8)]⟩
          refine s_call2 (ρ := []) (br := false) (H2 := [(hv 0), (hv 1), (hv 2), (hv 3), (hv 4), (hv 5), (hv 6), (hv 7), (hv 8)]) (d := (sc (.int .i64 r4))) F.ca_34 rfl rfl (All2.cons (LendT.aggL (All2.cons .sc (All2.cons .sc (All2.cons .imm (All2.cons .imm (All2.cons .sc (All2.cons .sc (All2.cons .sc (All2.cons .imm (All2.cons .imm (All2.cons .sc (All2.cons .sc (All2.cons .sc (All2.cons .sc (All2.cons .sc (All2.cons .sc (All2.cons .imm (All2.cons .imm (All2.cons .imm All2.nil))))))))))))))))))) (All2.cons (.one .sc) (All2.cons (.one .sc) All2.nil))) All2.nil (by decide) rfl (dossierref27_Check.meets _ a0 a1 a2 r4 er4) (.inl rfl) rfl rfl ?_
          exact k
        · intro K rest fr hv htk k
          show AWops _ x _ _ K ⟨41, (upd 41 (upd 41 fr 18 (sc (.int .i64 r4))) 14 (sc (.int .i64 r3))), [(hv 0), (hv 1), (hv 2), (hv 3), (hv 4), (hv 5), (hv 6), (hv 7), (hv 8)]⟩
          refine s_binI (v := (.bool (r3 == r4))) rfl rfl rfl ?_
          exact k
        · intro K rest fr hv htk k
          show AWops _ x _ _ K ⟨41, (upd 41 fr 19 (sc (.bool (r3 == r4)))), [(hv 0), (hv 1), (hv 2), (hv 3), (hv 4), (hv 5), (hv 6), (hv 7), (hv 8)]⟩
          refine s_move (d := (sc (.bool (r3 == r4)))) rfl ?_
          exact k
        · intro K rest fr hv htk k
          show AWops _ x _ _ K ⟨41, (upd 41 (upd 41 fr 20 (sc (.bool (r3 == r4)))) 3 (D.one (C.ref 0 0))), [(some (AObj.cells true (c_api_Model a0))), (hv 1), (hv 2), (hv 3), (hv 4), (hv 5), (hv 6), (hv 7), (hv 8)]⟩
          refine AWops.guard_no rfl (Nat.le_of_ble_eq_true rfl) rfl c5 ?_
          exact k
        · intro K rest fr hv htk k
          show AWops _ x _ _ K ⟨41, (upd 41 fr 20 (sc (.bool (r3 == r4)))), [(hv 0), (hv 1), (hv 2), (hv 3), (hv 4), (hv 5), (hv 6), (hv 7), (hv 8)]⟩
          refine AWops.guard_no rfl (Nat.le_of_ble_eq_true rfl) rfl c5 ?_
          exact k
        · intro K rest fr hv htk k
          show AWops _ x _ _ K ⟨41, (upd 41 fr 20 (sc (.bool (r3 == r4)))), [(hv 0), (hv 1), (hv 2), (hv 3), (hv 4), (hv 5), (hv 6), (hv 7), (hv 8)]⟩
          refine AWops.guard_no rfl (Nat.le_of_ble_eq_true rfl) rfl c5 ?_
          exact k
        · intro K rest fr hv htk k
          show AWops _ x _ _ K ⟨41, (upd 41 fr 20 (sc (.bool (r3 == r4)))), [(hv 0), (hv 1), (hv 2), (hv 3), (hv 4), (hv 5), (hv 6), (hv 7), (hv 8)]⟩
          refine AWops.guard_no rfl (Nat.le_of_ble_eq_true rfl) rfl c5 ?_
          exact k
        · intro K rest fr hv htk k
          show AWops _ x _ _ K ⟨41, (upd 41 fr 20 (sc (.bool (r3 == r4)))), [(hv 0), (hv 1), (hv 2), (hv 3), (hv 4), (hv 5), (hv 6), (hv 7), (hv 8)]⟩
          refine AWops.guard_no rfl (Nat.le_of_ble_eq_true rfl) rfl c5 ?_
          exact k
        · intro K rest fr hv htk k
          show AWops _ x _ _ K ⟨41, (upd 41 fr 20 (sc (.bool (r3 == r4)))), [(hv 0), (hv 1), (hv 2), (hv 3), (hv 4), (hv 5), (hv 6), (hv 7), (hv 8)]⟩
          refine AWops.guard_no rfl (Nat.le_of_ble_eq_true rfl) rfl c5 ?_
          exact k
        · intro K rest fr hv htk k
          show AWops _ x _ _ K ⟨41, (upd 41 fr 20 (sc (.bool (r3 == r4)))), [(hv 0), (hv 1), (hv 2), (hv 3), (hv 4), (hv 5), (hv 6), (hv 7), (hv 8)]⟩
          refine AWops.guard_no rfl (Nat.le_of_ble_eq_true rfl) rfl c5 ?_
          exact k
        · intro K rest fr hv htk k
          show AWops _ x _ _ K ⟨41, (upd 41 fr 20 (sc (.bool (r3 == r4)))), [(hv 0), (hv 1), (hv 2), (hv 3), (hv 4), (hv 5), (hv 6), (hv 7), (hv 8)]⟩
          refine s_pick_no (d := (sc (.bool false))) rfl c5 rfl ?_
          exact k
        · intro K rest fr hv htk k
          show AWops _ x _ _ K ⟨41, (upd 41 fr 28 (sc (.bool false))), [(hv 0), (hv 1), (hv 2), (hv 3), (hv 4), (hv 5), (hv 6), (hv 7), (hv 8)]⟩
          refine s_move (d := (sc (.bool false))) rfl ?_
          exact k
        · intro K rest fr hv htk k
          show AWops _ x _ _ K ⟨41, (upd 41 fr 29 (sc (.bool false))), [(hv 0), (hv 1), (hv 2), (hv 3), (hv 4), (hv 5), (hv 6), (hv 7), (hv 8)]⟩
          refine AWops.guard_no rfl (Nat.le_of_ble_eq_true rfl) rfl rfl ?_
          exact k
        · intro K rest fr hv htk k
          show AWops _ x _ _ K ⟨41, (upd 41 fr 29 (sc (.bool false))), [(hv 0), (hv 1), (hv 2), (hv 3), (hv 4), (hv 5), (hv 6), (hv 7), (hv 8)]⟩
          refine AWops.guard_no rfl (Nat.le_of_ble_eq_true rfl) rfl rfl ?_
          exact k
        · intro K rest fr hv htk k
          show AWops _ x _ _ K ⟨41, (upd 41 fr 29 (sc (.bool false))), [(hv 0), (hv 1), (hv 2), (hv 3), (hv 4), (hv 5), (hv 6), (hv 7), (hv 8)]⟩
          refine AWops.guard_no rfl (Nat.le_of_ble_eq_true rfl) rfl rfl ?_
          exact k
        · intro K rest fr hv htk k
          show AWops _ x _ _ K ⟨41, (upd 41 fr 29 (sc (.bool false))), [(hv 0), (hv 1), (hv 2), (hv 3), (hv 4), (hv 5), (hv 6), (hv 7), (hv 8)]⟩
          refine AWops.guard_no rfl (Nat.le_of_ble_eq_true rfl) rfl rfl ?_
          exact k
        · intro K rest fr hv htk k
          show AWops _ x _ _ K ⟨41, (upd 41 fr 29 (sc (.bool false))), [(hv 0), (hv 1), (hv 2), (hv 3), (hv 4), (hv 5), (hv 6), (hv 7), (hv 8)]⟩
          refine AWops.guard_no rfl (Nat.le_of_ble_eq_true rfl) rfl rfl ?_
          exact k
        · intro K rest fr hv htk k
          show AWops _ x _ _ K ⟨41, (upd 41 fr 29 (sc (.bool false))), [(hv 0), (hv 1), (hv 2), (hv 3), (hv 4), (hv 5), (hv 6), (hv 7), (hv 8)]⟩
          refine AWops.guard_no rfl (Nat.le_of_ble_eq_true rfl) rfl rfl ?_
          exact k
        · intro K rest fr hv htk k
          show AWops _ x _ _ K ⟨41, (upd 41 fr 29 (sc (.bool false))), [(hv 0), (hv 1), (hv 2), (hv 3), (hv 4), (hv 5), (hv 6), (hv 7), (hv 8)]⟩
          refine AWops.guard_no rfl (Nat.le_of_ble_eq_true rfl) rfl rfl ?_
          exact k
        · intro K rest fr hv htk k
          show AWops _ x _ _ K ⟨41, (upd 41 fr 29 (sc (.bool false))), [(hv 0), (hv 1), (hv 2), (hv 3), (hv 4), (hv 5), (hv 6), (hv 7), (hv 8)]⟩
          refine s_pick_no (d := (sc (.bool false))) rfl rfl rfl ?_
          exact k
        · intro K rest fr hv htk k
          show AWops _ x _ _ K ⟨41, (upd 41 fr 37 (sc (.bool false))), [(hv 0), (hv 1), (hv 2), (hv 3), (hv 4), (hv 5), (hv 6), (hv 7), (hv 8)]⟩
          refine s_move (d := (sc (.bool false))) rfl ?_
          exact k
        · intro K rest fr hv htk k
          show AWops _ x _ _ K ⟨41, (upd 41 fr 38 (sc (.bool false))), [(hv 0), (hv 1), (hv 2), (hv 3), (hv 4), (hv 5), (hv 6), (hv 7), (hv 8)]⟩
          refine AWops.guard_no rfl (Nat.le_of_ble_eq_true rfl) rfl rfl ?_
          exact k
        · intro K rest fr hv htk k
          show AWops _ x _ _ K ⟨41, (upd 41 fr 38 (sc (.bool false))), [(hv 0), (hv 1), (hv 2), (hv 3), (hv 4), (hv 5), (hv 6), (hv 7), (hv 8)]⟩
          refine s_pick_no (d := (sc (.bool false))) rfl rfl rfl ?_
          exact k
        · intro K rest fr hv htk k
          show AWops _ x _ _ K ⟨41, (upd 41 fr 40 (sc (.bool false))), [(hv 0), (hv 1), (hv 2), (hv 3), (hv 4), (hv 5), (hv 6), (hv 7), (hv 8)]⟩
          refine s_assign (d := (sc (.bool false))) rfl ?_
          exact k
      · refine AWops.weak (st' := ⟨41, (upd 41 topF 6 (sc (.bool false))), []⟩) (Weak.gen (kk := 0) [] [] hx rfl (by decide) (by decide) rfl rfl rfl (le_upd (le_top _) (.t (.one .sc))) All2.nil) ?_
        refine AWops.nil ?_
        refine AW.ret ?_
        obtain rfl := Option.some.inj h
        exact ⟨_, rfl, (Weak.gen (kk := 0) [] [] rfl rfl (by decide) (by decide) rfl rfl rfl (le_upd (le_top _) (.t (.one .sc))) All2.nil)⟩
  · replace h := (if_neg c2).symm.trans h
    replace c2 := Bool.eq_false_iff.mpr c2
    refine AW.cond_yes rfl (by rw [c2] <;> rfl) ?_
    refine AW.seq ?_
    refine AW.region ?_
    obtain ⟨r14, er14, h⟩ := Option.bind_eq_some_iff.mp h
    refine s_call2 (ρ := []) (br := false) (H2 := [(some (AObj.cells true (c_api_Model a0)))]) (d := (sc (.bool r14))) F.ca_21 rfl rfl All2.nil All2.nil (by decide) rfl (dossierlaw27_awake.meets _  r14 er14) (.inl rfl) rfl rfl ?_
    refine s_assign (d := (sc (.bool r14))) rfl ?_
    refine AWops.nil ?_
    refine AW.ret ?_
    obtain rfl := Option.some.inj h
    exact ⟨_, rfl, (Weak.gen (kk := 0) [] [] rfl rfl (by decide) (by decide) rfl rfl rfl (le_upd (le_top _) (.t (.one .sc))) All2.nil)⟩
end Go.Abs.GenR
