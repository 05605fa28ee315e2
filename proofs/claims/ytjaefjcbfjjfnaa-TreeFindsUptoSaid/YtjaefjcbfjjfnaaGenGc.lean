import Derived.Test.YtjaefjcbfjjfnaaGenGb
set_option linter.unusedVariables false
set_option linter.unusedSimpArgs false
set_option maxRecDepth 100000
set_option maxHeartbeats 4000000
namespace Go.Abs.GenG
open Go.Abs Go.Proofs
def tree_Same_2.f (k : Nat) (a0 : api_Doc) (a1 : api_Doc) : Option Bool := if (a0.Path.toList == a1.Path.toList) = true then (if ((a0.Value.Kind == a1.Value.Kind) && ((a0.Value.Int == a1.Value.Int) && ((a0.Value.Bool == a1.Value.Bool) && ((a0.Value.Text.toList == a1.Value.Text.toList) && true)))) = true then ((slices_Equal_string_string.f k a0.Refs a1.Refs).bind fun r3 => some r3) else (some false)) else (some false)
theorem tree_Same_2.meets (k : Nat) (a0 : api_Doc) (a1 : api_Doc) (r : Bool) (h : tree_Same_2.f k a0 a1 = some r) : Meets Try.prog 36 [(D.agg (c_api_Doc a0)), (D.agg (c_api_Doc a1))] [] (sc (.bool r)) [] := by
 unfold tree_Same_2.f at h
 refine Meets.of_body (n := 24) Try.func36 rfl rfl (nl rfl) fun x hx => ?_
 replace hx : x.k = 0 := hx
 show AW _ x _ _ ⟨24, fr0 [(D.agg (c_api_Doc a0)), (D.agg (c_api_Doc a1))], []⟩
 refine AW.seq (AW.region ?_)
 refine s_box (cs := (c_api_Doc a0)) rfl (List.cons_ne_nil _ _) rfl ?_
 refine s_box (cs := (c_api_Doc a1)) rfl (List.cons_ne_nil _ _) rfl ?_
 refine s_assign (d := (sc (.bool false))) rfl (AWops.nil (AW.seq (AW.region ?_)))
 refine s_fieldRef F.fo_44_0 (by decide) rfl ?_
 refine s_load1 (c' := (C.p true (.v (.string a0.Path)))) F.ag_9 rfl rfl ?_
 refine s_fieldRef F.fo_44_0 (by decide) rfl ?_
 refine s_load1 (c' := (C.p true (.v (.string a1.Path)))) F.ag_9 rfl rfl ?_
 refine s_binS (v := (.bool (a0.Path.toList == a1.Path.toList))) rfl rfl rfl ?_
 refine s_move (d := (sc (.bool (a0.Path.toList == a1.Path.toList)))) rfl ?_
 rcases itH h with ⟨c1, h⟩ | ⟨c1, h⟩
 ·refine AWops.guard_yes rfl (nl rfl) rfl c1 ?_
  refine s_fieldRef F.fo_44_1 (by decide) rfl ?_
  refine AWops.guard_yes rfl (nl rfl) rfl c1 ?_
  refine s_loadN (ds := (c_api_Value a0.Value)) F.ag_41 F.sz_41 rfl rfl rfl ?_
  refine AWops.guard_yes rfl (nl rfl) rfl c1 ?_
  refine s_fieldRef F.fo_44_1 (by decide) rfl ?_
  refine AWops.guard_yes rfl (nl rfl) rfl c1 ?_
  refine s_loadN (ds := (c_api_Value a1.Value)) F.ag_41 F.sz_41 rfl rfl rfl ?_
  refine AWops.guard_yes rfl (nl rfl) rfl c1 ?_
  refine s_binA (b := ((a0.Value.Kind == a1.Value.Kind) && ((a0.Value.Int == a1.Value.Int) && ((a0.Value.Bool == a1.Value.Bool) && ((a0.Value.Text.toList == a1.Value.Text.toList) && true))))) F.ff_41 rfl rfl rfl (.inl rfl) ?_
  refine s_pick_yes (d := (sc (.bool ((a0.Value.Kind == a1.Value.Kind) && ((a0.Value.Int == a1.Value.Int) && ((a0.Value.Bool == a1.Value.Bool) && ((a0.Value.Text.toList == a1.Value.Text.toList) && true))))))) rfl c1 rfl ?_
  refine s_move (d := (sc (.bool ((a0.Value.Kind == a1.Value.Kind) && ((a0.Value.Int == a1.Value.Int) && ((a0.Value.Bool == a1.Value.Bool) && ((a0.Value.Text.toList == a1.Value.Text.toList) && true))))))) rfl ?_
  rcases itH h with ⟨c2, h⟩ | ⟨c2, h⟩
  ·refine AWops.guard_yes rfl (nl rfl) rfl c2 ?_
   refine s_fieldRef F.fo_44_2 (by decide) rfl ?_
   refine AWops.guard_yes rfl (nl rfl) rfl c2 ?_
   refine s_load1 (c' := (C.p false (.sl a0.Refs.length (a0.Refs.flatMap e_str)))) F.ag_42 rfl rfl ?_
   refine AWops.guard_yes rfl (nl rfl) rfl c2 ?_
   refine s_fieldRef F.fo_44_2 (by decide) rfl ?_
   refine AWops.guard_yes rfl (nl rfl) rfl c2 ?_
   refine s_load1 (c' := (C.p false (.sl a1.Refs.length (a1.Refs.flatMap e_str)))) F.ag_42 rfl rfl ?_
   refine AWops.guard_yes rfl (nl rfl) rfl c2 ?_
   obtain ⟨r3, er3, h⟩ := bnd h
   refine s_call2 (ρ := []) (br := false) (H2 := [(some (AObj.cells true (c_api_Doc a0))), (some (AObj.cells true (c_api_Doc a1)))]) (d := (sc (.bool r3))) F.ca_37 rfl rfl (ac (.one .imm) (ac (.one .imm) an)) an (by decide) rfl (slices_Equal_string_string.meets _ a0.Refs a1.Refs r3 er3) (.inl rfl) rfl rfl ?_
   refine s_pick_yes (d := (sc (.bool r3))) rfl c2 rfl ?_
   refine s_assign (d := (sc (.bool r3))) rfl (AWops.nil (AW.ret ?_))
   obtain rfl := Option.some.inj h
   exact ⟨_, rfl, (Weak.gen (kk := 0) [] [] rfl rfl (by decide) (by decide) rfl rfl rfl (le_upd (le_top _) (.t (.one .sc))) an)⟩
  ·iterate 5 refine AWops.guard_no rfl (nl rfl) rfl c2 ?_
   refine s_pick_no (d := (sc (.bool false))) rfl c2 rfl ?_
   refine s_assign (d := (sc (.bool false))) rfl (AWops.nil (AW.ret ?_))
   obtain rfl := Option.some.inj h
   exact ⟨_, rfl, (Weak.gen (kk := 0) [] [] rfl rfl (by decide) (by decide) rfl rfl rfl (le_upd (le_top _) (.t (.one .sc))) an)⟩
 ·iterate 5 refine AWops.guard_no rfl (nl rfl) rfl c1 ?_
  refine s_pick_no (d := (sc (.bool false))) rfl c1 rfl ?_
  refine s_move (d := (sc (.bool false))) rfl ?_
  iterate 5 refine AWops.guard_no rfl (nl rfl) rfl rfl ?_
  refine s_pick_no (d := (sc (.bool false))) rfl rfl rfl ?_
  refine s_assign (d := (sc (.bool false))) rfl (AWops.nil (AW.ret ?_))
  obtain rfl := Option.some.inj h
  exact ⟨_, rfl, (Weak.gen (kk := 0) [] [] rfl rfl (by decide) (by decide) rfl rfl rfl (le_upd (le_top _) (.t (.one .sc))) an)⟩
mutual
def slices_EqualFunc_api_Doc_api_Doc_api_Doc_api_Doc.l0 : Nat → Int → (List api_Doc) → (List api_Doc) → Option Bool
 | 0, _, _, _ => none
 | k + 1, x2, a0, a1 => if (decide (x2 < (a0.length : Int))) = true then ((rd a0 x2).bind fun v4 => (rd a1 x2).bind fun v5 => (tree_Same_2.f k v4 v5).bind fun r6 => if r6 = true then (slices_EqualFunc_api_Doc_api_Doc_api_Doc_api_Doc.l0 k (IntKind.i64.wrap (x2 + 1)) a0 a1) else (some false)) else (some true)
end
def slices_EqualFunc_api_Doc_api_Doc_api_Doc_api_Doc.f (k : Nat) (a0 : List api_Doc) (a1 : List api_Doc) : Option Bool := if ((a0.length : Int) != (a1.length : Int)) = true then (some false) else (slices_EqualFunc_api_Doc_api_Doc_api_Doc_api_Doc.l0 k 0 a0 a1)
theorem slices_EqualFunc_api_Doc_api_Doc_api_Doc_api_Doc.meets (k : Nat) (a0 : List api_Doc) (a1 : List api_Doc) (r : Bool) (h : slices_EqualFunc_api_Doc_api_Doc_api_Doc_api_Doc.f k a0 a1 = some r) : Meets Try.prog 35 [(D.one (C.p false (.sl a0.length (a0.flatMap e_api_Doc)))), (D.one (C.p false (.sl a1.length (a1.flatMap e_api_Doc)))), (D.one (C.clo 36 []))] [] (sc (.bool r)) [] := by
 unfold slices_EqualFunc_api_Doc_api_Doc_api_Doc_api_Doc.f at h
 refine Meets.of_body (n := 32) Try.func35 rfl rfl (nl rfl) fun x hx => ?_
 replace hx : x.k = 0 := hx
 show AW _ x _ _ ⟨32, fr0 [(D.one (C.p false (.sl a0.length (a0.flatMap e_api_Doc)))), (D.one (C.p false (.sl a1.length (a1.flatMap e_api_Doc)))), (D.one (C.clo 36 []))], []⟩
 refine AW.seq (AW.region ?_)
 refine s_assign (d := (sc (.bool false))) rfl (AWops.nil (AW.seq (AW.seq (AW.region ?_))))
 refine s_move (d := (D.one (C.p false (.sl a0.length (a0.flatMap e_api_Doc))))) rfl ?_
 refine s_len (n := a0.length) F.u_23 rfl (.inr ⟨(fun _ _ h => by cases h), ⟨_, rfl⟩⟩) ?_
 refine s_move (d := (D.one (C.p false (.sl a1.length (a1.flatMap e_api_Doc))))) rfl ?_
 refine s_len (n := a1.length) F.u_23 rfl (.inr ⟨(fun _ _ h => by cases h), ⟨_, rfl⟩⟩) ?_
 refine s_binI (v := (.bool ((a0.length : Int) != (a1.length : Int)))) rfl rfl rfl (AWops.nil ?_)
 rcases itH h with ⟨c1, h⟩ | ⟨c1, h⟩
 ·refine AW.cond_yes rfl c1 (AW.seq (AW.region ?_))
  refine s_assign (d := (sc (.bool false))) rfl (AWops.nil (AW.ret ?_))
  obtain rfl := Option.some.inj h
  exact ⟨_, rfl, (Weak.gen (kk := 0) [] [] rfl rfl (by decide) (by decide) rfl rfl rfl (le_upd (le_top _) (.t (.one .sc))) an)⟩
 ·refine AW.cond_no rfl c1 (AW.skip (AW.seq (AW.seq (AW.region ?_))))
  refine s_move (d := (D.one (C.p false (.sl a0.length (a0.flatMap e_api_Doc))))) rfl ?_
  refine s_len (n := a0.length) F.u_23 rfl (.inr ⟨(fun _ _ h => by cases h), ⟨_, rfl⟩⟩) ?_
  refine s_move (d := (sc (.int .i64 0))) rfl (AWops.nil (AW.block ?_))
  refine AW.loopw (st0 := ⟨32, (upd 32 (upd 32 (upd 32 (upd 32 (upd 32 topF 1 (D.one (C.p false (.sl a1.length (a1.flatMap e_api_Doc))))) 2 (D.one (C.clo 36 []))) 15 (D.one (C.p false (.sl a0.length (a0.flatMap e_api_Doc))))) 16 (sc (.int .i64 (a0.length : Int)))) 17 (sc (.int .i64 0))), []⟩) (fun kv st => kv ≤ k ∧ ∃ (x2 : Int), slices_EqualFunc_api_Doc_api_Doc_api_Doc_api_Doc.l0 kv x2 a0 a1 = some r ∧ st = ⟨32, (upd 32 (upd 32 (upd 32 (upd 32 (upd 32 topF 1 (D.one (C.p false (.sl a1.length (a1.flatMap e_api_Doc))))) 2 (D.one (C.clo 36 []))) 15 (D.one (C.p false (.sl a0.length (a0.flatMap e_api_Doc))))) 16 (sc (.int .i64 (a0.length : Int)))) 17 (sc (.int .i64 x2))), []⟩) (k := k) (Weak.gen (kk := 0) [] [] hx rfl (by decide) (by decide) rfl rfl rfl (le_upd (le_upd (le_upd (le_upd (le_upd (le_top _) (.t (.one .same))) (.t (.one (CLe.cloL an)))) (.t (.one .same))) (.t (.one .sc))) (.t (.one .sc))) an) ⟨Nat.le_refl _, 0, h, rfl⟩ ?_
  rintro ql0 st ⟨hkl0, x2, h, rfl⟩
  cases ql0 with
  | zero => exact absurd h (by simp [slices_EqualFunc_api_Doc_api_Doc_api_Doc_api_Doc.l0])
  | succ ql0 =>
   replace h := (slices_EqualFunc_api_Doc_api_Doc_api_Doc_api_Doc.l0.eq_2 _ _ _ _).symm.trans h
   refine AW.seq (AW.region ?_)
   refine s_binI (v := (.bool (decide (x2 < (a0.length : Int))))) rfl rfl rfl (AWops.nil (AW.seq ?_))
   rcases itH h with ⟨c3, h⟩ | ⟨c3, h⟩
   ·refine AW.cond_yes rfl c3 (AW.skip (AW.seq (AW.block (AW.seq (AW.region ?_)))))
    refine s_move (d := (sc (.int .i64 x2))) rfl ?_
    obtain ⟨v4, ev4, h⟩ := bnd h
    obtain ⟨pv4, qv4, gv4⟩ := rd_some ev4
    refine s_indexImm (ps := (p_api_Doc v4)) F.u_23 F.sz_44 rfl rfl pv4 qv4 (flat_at e_api_Doc_len gv4 (e_api_Doc_eq v4)) ?_
    refine s_loadN (ds := (c_api_Doc v4)) F.ag_44 F.sz_44 rfl rfl rfl ?_
    refine s_alloc (cs := [(C.p true (.v (.string (⟨#[]⟩ : ByteArray)))), (C.p true (.v (.int .i64 0))), (C.p true (.v (.int .i64 0))), (C.p true (.v (.bool false))), (C.p true (.v (.string (⟨#[]⟩ : ByteArray)))), (C.p true (.v (.slice none 0 0)))]) F.z_44 rfl rfl ?_
    refine s_assign (d := (sc (.int .i64 x2))) rfl ?_
    refine s_store (cs' := (c_api_Doc v4)) rfl rfl rfl (List.cons_ne_nil _ _) rfl F.sz_44 (nl rfl) rfl (AWops.nil (AW.seq (AW.region ?_)))
    refine s_move (d := (D.one (C.p false (.sl a1.length (a1.flatMap e_api_Doc))))) rfl ?_
    refine s_move (d := (sc (.int .i64 x2))) rfl ?_
    obtain ⟨v5, ev5, h⟩ := bnd h
    obtain ⟨pv5, qv5, gv5⟩ := rd_some ev5
    refine s_indexImm (ps := (p_api_Doc v5)) F.u_23 F.sz_44 rfl rfl pv5 qv5 (flat_at e_api_Doc_len gv5 (e_api_Doc_eq v5)) ?_
    refine s_loadN (ds := (c_api_Doc v5)) F.ag_44 F.sz_44 rfl rfl rfl ?_
    refine s_alloc (cs := [(C.p true (.v (.string (⟨#[]⟩ : ByteArray)))), (C.p true (.v (.int .i64 0))), (C.p true (.v (.int .i64 0))), (C.p true (.v (.bool false))), (C.p true (.v (.string (⟨#[]⟩ : ByteArray)))), (C.p true (.v (.slice none 0 0)))]) F.z_44 rfl rfl ?_
    refine s_store (cs' := (c_api_Doc v5)) rfl rfl rfl (List.cons_ne_nil _ _) rfl F.sz_44 (nl rfl) rfl (AWops.nil (AW.seq (AW.region ?_)))
    refine s_move (d := (D.one (C.clo 36 []))) rfl ?_
    refine s_loadN (ds := (c_api_Doc v4)) F.ag_44 F.sz_44 rfl rfl rfl ?_
    refine s_loadN (ds := (c_api_Doc v5)) F.ag_44 F.sz_44 rfl rfl rfl ?_
    obtain ⟨r6, er6, h⟩ := bnd h
    refine s_call2 (ρ := []) (br := false) (H2 := [(some (AObj.cells true (c_api_Doc v4))), (some (AObj.cells true (c_api_Doc v5)))]) (d := (sc (.bool r6))) F.ca_36 rfl rfl (ac (LendT.aggL (ac .sc (ac .sc (ac .sc (ac .sc (ac .sc (ac .imm an))))))) (ac (LendT.aggL (ac .sc (ac .sc (ac .sc (ac .sc (ac .sc (ac .imm an))))))) an)) an (by decide) rfl (tree_Same_2.meets _ v4 v5 r6 er6) (.inl rfl) rfl rfl ?_
    refine s_not rfl (AWops.nil ?_)
    rcases itH h with ⟨c7, h⟩ | ⟨c7, h⟩
    ·refine AW.cond_no rfl (by rw [c7] <;> rfl) (AW.skip (AW.region ?_))
     refine s_binI (v := (.int .i64 (IntKind.i64.wrap (x2 + 1)))) rfl rfl rfl ?_
     refine s_move (d := (sc (.int .i64 (IntKind.i64.wrap (x2 + 1))))) rfl (AWops.nil ?_)
     exact ⟨_, ⟨32, (upd 32 (upd 32 (upd 32 (upd 32 (upd 32 topF 1 (D.one (C.p false (.sl a1.length (a1.flatMap e_api_Doc))))) 2 (D.one (C.clo 36 []))) 15 (D.one (C.p false (.sl a0.length (a0.flatMap e_api_Doc))))) 16 (sc (.int .i64 (a0.length : Int)))) 17 (sc (.int .i64 (IntKind.i64.wrap (x2 + 1))))), []⟩, by omega, (Weak.gen (kk := 0) [] [] hx rfl (by decide) (by decide) rfl rfl rfl (le_upd (le_upd (le_upd (le_upd (le_upd (le_top _) (.t (.one .same))) (.t (.one (CLe.cloL an)))) (.t (.one .same))) (.t (.one .sc))) (.t (.one .sc))) an), by omega, IntKind.i64.wrap (x2 + 1), h, rfl⟩
    ·refine AW.cond_yes rfl (by rw [c7] <;> rfl) (AW.seq (AW.region ?_))
     refine s_assign (d := (sc (.bool false))) rfl (AWops.nil (AW.ret ?_))
     obtain rfl := Option.some.inj h
     exact ⟨_, rfl, (Weak.gen (kk := 0) [] [] rfl rfl (by decide) (by decide) rfl rfl rfl (le_upd (le_top _) (.t (.one .sc))) an)⟩
   ·refine AW.cond_no rfl c3 (AW.exit (AW.seq (AW.region ?_)))
    refine s_assign (d := (sc (.bool true))) rfl (AWops.nil (AW.ret ?_))
    obtain rfl := Option.some.inj h
    exact ⟨_, rfl, (Weak.gen (kk := 0) [] [] rfl rfl (by decide) (by decide) rfl rfl rfl (le_upd (le_top _) (.t (.one .sc))) an)⟩
def tree_Same.f (k : Nat) (a0 : api_Case) (a1 : api_Case) : Option Bool := (slices_EqualFunc_api_Inst_api_Inst_api_Inst_api_Inst_24.f k a0.Insts a1.Insts).bind fun r1 => (slices_EqualFunc_api_Doc_api_Doc_api_Doc_api_Doc.f k a0.Docs a1.Docs).bind fun r2 => if r1 = true then (if r2 = true then (if (a0.ID == a1.ID) = true then (if (a0.Model.toList == a1.Model.toList) = true then (some (a0.Clock == a1.Clock)) else (some false)) else (some false)) else (some false)) else (some false)
theorem tree_Same.meets (k : Nat) (a0 : api_Case) (a1 : api_Case) (r : Bool) (h : tree_Same.f k a0 a1 = some r) : Meets Try.prog 16 [(D.agg (c_api_Case a0)), (D.agg (c_api_Case a1))] [] (sc (.bool r)) [] := by
 unfold tree_Same.f at h
 refine Meets.of_body (n := 42) Try.func16 rfl rfl (nl rfl) fun x hx => ?_
 replace hx : x.k = 0 := hx
 show AW _ x _ _ ⟨42, fr0 [(D.agg (c_api_Case a0)), (D.agg (c_api_Case a1))], []⟩
 refine AW.seq (AW.region ?_)
 refine s_box (cs := (c_api_Case a0)) rfl (List.cons_ne_nil _ _) rfl ?_
 refine s_box (cs := (c_api_Case a1)) rfl (List.cons_ne_nil _ _) rfl ?_
 refine s_assign (d := (sc (.bool false))) rfl (AWops.nil (AW.seq (AW.region ?_)))
 refine s_fieldRef F.fo_25_2 (by decide) rfl ?_
 refine s_load1 (c' := (C.p false (.sl a0.Insts.length (a0.Insts.flatMap e_api_Inst)))) F.ag_22 rfl rfl ?_
 refine s_fieldRef F.fo_25_2 (by decide) rfl ?_
 refine s_load1 (c' := (C.p false (.sl a1.Insts.length (a1.Insts.flatMap e_api_Inst)))) F.ag_22 rfl rfl ?_
 obtain ⟨r1, er1, h⟩ := bnd h
 refine s_call2 (ρ := []) (br := false) (H2 := [(some (AObj.cells true (c_api_Case a0))), (some (AObj.cells true (c_api_Case a1)))]) (d := (sc (.bool r1))) F.ca_24 rfl rfl (ac (.one .imm) (ac (.one .imm) (ac (.one (LendC.cloL an)) an))) an (by decide) rfl (slices_EqualFunc_api_Inst_api_Inst_api_Inst_api_Inst_24.meets _ a0.Insts a1.Insts r1 er1) (.inl rfl) rfl rfl ?_
 refine s_assign (d := (sc (.bool r1))) rfl (AWops.nil (AW.seq (AW.region ?_)))
 refine s_fieldRef F.fo_25_3 (by decide) rfl ?_
 refine s_load1 (c' := (C.p false (.sl a0.Docs.length (a0.Docs.flatMap e_api_Doc)))) F.ag_23 rfl rfl ?_
 refine s_fieldRef F.fo_25_3 (by decide) rfl ?_
 refine s_load1 (c' := (C.p false (.sl a1.Docs.length (a1.Docs.flatMap e_api_Doc)))) F.ag_23 rfl rfl ?_
 obtain ⟨r2, er2, h⟩ := bnd h
 refine s_call2 (ρ := []) (br := false) (H2 := [(some (AObj.cells true (c_api_Case a0))), (some (AObj.cells true (c_api_Case a1)))]) (d := (sc (.bool r2))) F.ca_35 rfl rfl (ac (.one .imm) (ac (.one .imm) (ac (.one (LendC.cloL an)) an))) an (by decide) rfl (slices_EqualFunc_api_Doc_api_Doc_api_Doc_api_Doc.meets _ a0.Docs a1.Docs r2 er2) (.inl rfl) rfl rfl ?_
 refine s_assign (d := (sc (.bool r2))) rfl (AWops.nil (AW.seq (AW.region ?_)))
 refine s_move (d := (sc (.bool r1))) rfl ?_
 refine s_move (d := (sc (.bool r1))) rfl ?_
 rcases itH h with ⟨c3, h⟩ | ⟨c3, h⟩
 ·refine AWops.guard_yes rfl (nl rfl) rfl c3 ?_
  refine s_move (d := (sc (.bool r2))) rfl ?_
  refine s_pick_yes (d := (sc (.bool r2))) rfl c3 rfl ?_
  refine s_move (d := (sc (.bool r2))) rfl ?_
  rcases itH h with ⟨c4, h⟩ | ⟨c4, h⟩
  ·refine AWops.guard_yes rfl (nl rfl) rfl c4 ?_
   refine s_fieldRef F.fo_25_0 (by decide) rfl ?_
   refine AWops.guard_yes rfl (nl rfl) rfl c4 ?_
   refine s_load1 (c' := (C.p true (.v (.int .i64 a0.ID)))) F.ag_3 rfl rfl ?_
   refine AWops.guard_yes rfl (nl rfl) rfl c4 ?_
   refine s_fieldRef F.fo_25_0 (by decide) rfl ?_
   refine AWops.guard_yes rfl (nl rfl) rfl c4 ?_
   refine s_load1 (c' := (C.p true (.v (.int .i64 a1.ID)))) F.ag_3 rfl rfl ?_
   refine AWops.guard_yes rfl (nl rfl) rfl c4 ?_
   refine s_binI (v := (.bool (a0.ID == a1.ID))) rfl rfl rfl ?_
   refine s_pick_yes (d := (sc (.bool (a0.ID == a1.ID)))) rfl c4 rfl ?_
   refine s_move (d := (sc (.bool (a0.ID == a1.ID)))) rfl ?_
   rcases itH h with ⟨c5, h⟩ | ⟨c5, h⟩
   ·refine AWops.guard_yes rfl (nl rfl) rfl c5 ?_
    refine s_fieldRef F.fo_25_1 (by decide) rfl ?_
    refine AWops.guard_yes rfl (nl rfl) rfl c5 ?_
    refine s_load1 (c' := (C.p true (.v (.string a0.Model)))) F.ag_9 rfl rfl ?_
    refine AWops.guard_yes rfl (nl rfl) rfl c5 ?_
    refine s_fieldRef F.fo_25_1 (by decide) rfl ?_
    refine AWops.guard_yes rfl (nl rfl) rfl c5 ?_
    refine s_load1 (c' := (C.p true (.v (.string a1.Model)))) F.ag_9 rfl rfl ?_
    refine AWops.guard_yes rfl (nl rfl) rfl c5 ?_
    refine s_binS (v := (.bool (a0.Model.toList == a1.Model.toList))) rfl rfl rfl ?_
    refine s_pick_yes (d := (sc (.bool (a0.Model.toList == a1.Model.toList)))) rfl c5 rfl ?_
    refine s_move (d := (sc (.bool (a0.Model.toList == a1.Model.toList)))) rfl ?_
    rcases itH h with ⟨c6, h⟩ | ⟨c6, h⟩
    ·refine AWops.guard_yes rfl (nl rfl) rfl c6 ?_
     refine s_fieldRef F.fo_25_4 (by decide) rfl ?_
     refine AWops.guard_yes rfl (nl rfl) rfl c6 ?_
     refine s_load1 (c' := (C.p true (.v (.int .i64 a0.Clock)))) F.ag_3 rfl rfl ?_
     refine AWops.guard_yes rfl (nl rfl) rfl c6 ?_
     refine s_fieldRef F.fo_25_4 (by decide) rfl ?_
     refine AWops.guard_yes rfl (nl rfl) rfl c6 ?_
     refine s_load1 (c' := (C.p true (.v (.int .i64 a1.Clock)))) F.ag_3 rfl rfl ?_
     refine AWops.guard_yes rfl (nl rfl) rfl c6 ?_
     refine s_binI (v := (.bool (a0.Clock == a1.Clock))) rfl rfl rfl ?_
     refine s_pick_yes (d := (sc (.bool (a0.Clock == a1.Clock)))) rfl c6 rfl ?_
     refine s_assign (d := (sc (.bool (a0.Clock == a1.Clock)))) rfl (AWops.nil (AW.ret ?_))
     obtain rfl := Option.some.inj h
     exact ⟨_, rfl, (Weak.gen (kk := 0) [] [] rfl rfl (by decide) (by decide) rfl rfl rfl (le_upd (le_top _) (.t (.one .sc))) an)⟩
    ·iterate 5 refine AWops.guard_no rfl (nl rfl) rfl c6 ?_
     refine s_pick_no (d := (sc (.bool false))) rfl c6 rfl ?_
     refine s_assign (d := (sc (.bool false))) rfl (AWops.nil (AW.ret ?_))
     obtain rfl := Option.some.inj h
     exact ⟨_, rfl, (Weak.gen (kk := 0) [] [] rfl rfl (by decide) (by decide) rfl rfl rfl (le_upd (le_top _) (.t (.one .sc))) an)⟩
   ·iterate 5 refine AWops.guard_no rfl (nl rfl) rfl c5 ?_
    refine s_pick_no (d := (sc (.bool false))) rfl c5 rfl ?_
    refine s_move (d := (sc (.bool false))) rfl ?_
    iterate 5 refine AWops.guard_no rfl (nl rfl) rfl rfl ?_
    refine s_pick_no (d := (sc (.bool false))) rfl rfl rfl ?_
    refine s_assign (d := (sc (.bool false))) rfl (AWops.nil (AW.ret ?_))
    obtain rfl := Option.some.inj h
    exact ⟨_, rfl, (Weak.gen (kk := 0) [] [] rfl rfl (by decide) (by decide) rfl rfl rfl (le_upd (le_top _) (.t (.one .sc))) an)⟩
  ·iterate 5 refine AWops.guard_no rfl (nl rfl) rfl c4 ?_
   refine s_pick_no (d := (sc (.bool false))) rfl c4 rfl ?_
   refine s_move (d := (sc (.bool false))) rfl ?_
   iterate 5 refine AWops.guard_no rfl (nl rfl) rfl rfl ?_
   refine s_pick_no (d := (sc (.bool false))) rfl rfl rfl ?_
   refine s_move (d := (sc (.bool false))) rfl ?_
   iterate 5 refine AWops.guard_no rfl (nl rfl) rfl rfl ?_
   refine s_pick_no (d := (sc (.bool false))) rfl rfl rfl ?_
   refine s_assign (d := (sc (.bool false))) rfl (AWops.nil (AW.ret ?_))
   obtain rfl := Option.some.inj h
   exact ⟨_, rfl, (Weak.gen (kk := 0) [] [] rfl rfl (by decide) (by decide) rfl rfl rfl (le_upd (le_top _) (.t (.one .sc))) an)⟩
 ·refine AWops.guard_no rfl (nl rfl) rfl c3 ?_
  refine s_pick_no (d := (sc (.bool false))) rfl c3 rfl ?_
  refine s_move (d := (sc (.bool false))) rfl ?_
  iterate 5 refine AWops.guard_no rfl (nl rfl) rfl rfl ?_
  refine s_pick_no (d := (sc (.bool false))) rfl rfl rfl ?_
  refine s_move (d := (sc (.bool false))) rfl ?_
  iterate 5 refine AWops.guard_no rfl (nl rfl) rfl rfl ?_
  refine s_pick_no (d := (sc (.bool false))) rfl rfl rfl ?_
  refine s_move (d := (sc (.bool false))) rfl ?_
  iterate 5 refine AWops.guard_no rfl (nl rfl) rfl rfl ?_
  refine s_pick_no (d := (sc (.bool false))) rfl rfl rfl ?_
  refine s_assign (d := (sc (.bool false))) rfl (AWops.nil (AW.ret ?_))
  obtain rfl := Option.some.inj h
  exact ⟨_, rfl, (Weak.gen (kk := 0) [] [] rfl rfl (by decide) (by decide) rfl rfl rfl (le_upd (le_top _) (.t (.one .sc))) an)⟩
mutual
def dossierref12_SameTexts.l0 : Nat → Int → (List ByteArray) → (List ByteArray) → Option Bool
 | 0, _, _, _ => none
 | k + 1, x2, a0, a1 => if (decide (x2 < (a0.length : Int))) = true then ((rd a0 x2).bind fun v4 => (rd a1 x2).bind fun v5 => if (v4.toList == v5.toList) = true then (dossierref12_SameTexts.l0 k (IntKind.i64.wrap (x2 + 1)) a0 a1) else (some false)) else (some true)
end
def dossierref12_SameTexts.f (k : Nat) (a0 : List ByteArray) (a1 : List ByteArray) : Option Bool := if ((a0.length : Int) != (a1.length : Int)) = true then (some false) else (dossierref12_SameTexts.l0 k 0 a0 a1)
theorem dossierref12_SameTexts.meets (k : Nat) (a0 : List ByteArray) (a1 : List ByteArray) (r : Bool) (h : dossierref12_SameTexts.f k a0 a1 = some r) : Meets Try.prog 49 [(D.one (C.p false (.sl a0.length (a0.flatMap e_str)))), (D.one (C.p false (.sl a1.length (a1.flatMap e_str))))] [] (sc (.bool r)) [] := by
 unfold dossierref12_SameTexts.f at h
 refine Meets.of_body (n := 26) Try.func49 rfl rfl (nl rfl) fun x hx => ?_
 replace hx : x.k = 0 := hx
 show AW _ x _ _ ⟨26, fr0 [(D.one (C.p false (.sl a0.length (a0.flatMap e_str)))), (D.one (C.p false (.sl a1.length (a1.flatMap e_str))))], []⟩
 refine AW.seq (AW.region ?_)
 refine s_assign (d := (sc (.bool false))) rfl (AWops.nil (AW.seq (AW.seq (AW.region ?_))))
 refine s_move (d := (D.one (C.p false (.sl a0.length (a0.flatMap e_str))))) rfl ?_
 refine s_len (n := a0.length) F.u_42 rfl (.inr ⟨(fun _ _ h => by cases h), ⟨_, rfl⟩⟩) ?_
 refine s_move (d := (D.one (C.p false (.sl a1.length (a1.flatMap e_str))))) rfl ?_
 refine s_len (n := a1.length) F.u_42 rfl (.inr ⟨(fun _ _ h => by cases h), ⟨_, rfl⟩⟩) ?_
 refine s_binI (v := (.bool ((a0.length : Int) != (a1.length : Int)))) rfl rfl rfl (AWops.nil ?_)
 rcases itH h with ⟨c1, h⟩ | ⟨c1, h⟩
 ·refine AW.cond_yes rfl c1 (AW.seq (AW.region ?_))
  refine s_assign (d := (sc (.bool false))) rfl (AWops.nil (AW.ret ?_))
  obtain rfl := Option.some.inj h
  exact ⟨_, rfl, (Weak.gen (kk := 0) [] [] rfl rfl (by decide) (by decide) rfl rfl rfl (le_upd (le_top _) (.t (.one .sc))) an)⟩
 ·refine AW.cond_no rfl c1 (AW.skip (AW.seq (AW.seq (AW.region ?_))))
  refine s_move (d := (D.one (C.p false (.sl a0.length (a0.flatMap e_str))))) rfl ?_
  refine s_len (n := a0.length) F.u_42 rfl (.inr ⟨(fun _ _ h => by cases h), ⟨_, rfl⟩⟩) ?_
  refine s_move (d := (sc (.int .i64 0))) rfl (AWops.nil (AW.block ?_))
  refine AW.loopw (st0 := ⟨26, (upd 26 (upd 26 (upd 26 (upd 26 topF 0 (D.one (C.p false (.sl a0.length (a0.flatMap e_str))))) 1 (D.one (C.p false (.sl a1.length (a1.flatMap e_str))))) 12 (sc (.int .i64 (a0.length : Int)))) 13 (sc (.int .i64 0))), []⟩) (fun kv st => kv ≤ k ∧ ∃ (x2 : Int), dossierref12_SameTexts.l0 kv x2 a0 a1 = some r ∧ st = ⟨26, (upd 26 (upd 26 (upd 26 (upd 26 topF 0 (D.one (C.p false (.sl a0.length (a0.flatMap e_str))))) 1 (D.one (C.p false (.sl a1.length (a1.flatMap e_str))))) 12 (sc (.int .i64 (a0.length : Int)))) 13 (sc (.int .i64 x2))), []⟩) (k := k) (Weak.gen (kk := 0) [] [] hx rfl (by decide) (by decide) rfl rfl rfl (le_upd (le_upd (le_upd (le_upd (le_top _) (.t (.one .same))) (.t (.one .same))) (.t (.one .sc))) (.t (.one .sc))) an) ⟨Nat.le_refl _, 0, h, rfl⟩ ?_
  rintro ql0 st ⟨hkl0, x2, h, rfl⟩
  cases ql0 with
  | zero => exact absurd h (by simp [dossierref12_SameTexts.l0])
  | succ ql0 =>
   replace h := (dossierref12_SameTexts.l0.eq_2 _ _ _ _).symm.trans h
   refine AW.seq (AW.region ?_)
   refine s_binI (v := (.bool (decide (x2 < (a0.length : Int))))) rfl rfl rfl (AWops.nil (AW.seq ?_))
   rcases itH h with ⟨c3, h⟩ | ⟨c3, h⟩
   ·refine AW.cond_yes rfl c3 (AW.skip (AW.seq (AW.block (AW.seq (AW.region ?_)))))
    refine s_move (d := (sc (.int .i64 x2))) rfl ?_
    refine s_assign (d := (sc (.int .i64 x2))) rfl (AWops.nil (AW.seq ?_))
    refine AW.weak (st' := ⟨26, (upd 26 (upd 26 (upd 26 (upd 26 (upd 26 topF 0 (D.one (C.p false (.sl a0.length (a0.flatMap e_str))))) 1 (D.one (C.p false (.sl a1.length (a1.flatMap e_str))))) 5 (sc (.int .i64 x2))) 12 (sc (.int .i64 (a0.length : Int)))) 13 (sc (.int .i64 x2))), []⟩) (Weak.gen (kk := 0) [] [] hx rfl (by decide) (by decide) rfl rfl rfl (le_upd (le_upd (le_upd (le_upd (le_upd (le_top _) (.t (.one .same))) (.t (.one .same))) (.t (.one .sc))) (.t (.one .sc))) (.t (.one .sc))) an) ?_
    obtain ⟨v4, ev4, h⟩ := bnd h
    obtain ⟨pv4, qv4, gv4⟩ := rd_some ev4
    obtain ⟨v5, ev5, h⟩ := bnd h
    obtain ⟨pv5, qv5, gv5⟩ := rd_some ev5
    refine AW.draw (n := 26) (L := 0) [(0, ⟨some 16, (D.one (C.p false (.sl a0.length (a0.flatMap e_str)))), [(0, (D.one (C.p false (.sl a0.length (a0.flatMap e_str)))))], [], [], none⟩), (1, ⟨some 17, (sc (.int .i64 x2)), [(5, (sc (.int .i64 x2)))], [], [], none⟩), (2, ⟨some 18, (D.one (C.peek false [P.v (.string v4)])), [(16, (D.one (C.p false (.sl a0.length (a0.flatMap e_str))))), (17, (sc (.int .i64 x2)))], [], [], none⟩), (3, ⟨some 19, (sc (.string v4)), [(18, (D.one (C.peek false [P.v (.string v4)])))], [], [], none⟩), (4, ⟨some 20, (D.one (C.p false (.sl a1.length (a1.flatMap e_str)))), [(1, (D.one (C.p false (.sl a1.length (a1.flatMap e_str)))))], [], [], none⟩), (5, ⟨some 21, (sc (.int .i64 x2)), [(5, (sc (.int .i64 x2)))], [], [], none⟩), (6, ⟨some 22, (D.one (C.peek false [P.v (.string v5)])), [(20, (D.one (C.p false (.sl a1.length (a1.flatMap e_str))))), (21, (sc (.int .i64 x2)))], [], [], none⟩), (7, ⟨some 23, (sc (.string v5)), [(22, (D.one (C.peek false [P.v (.string v5)])))], [], [], none⟩), (8, ⟨some 24, (sc (.bool (!(v4.toList == v5.toList)))), [(19, (sc (.string v4))), (23, (sc (.string v5)))], [], [], none⟩)] [[], [], [0, 1], [0, 1, 2], [], [], [4, 5], [4, 5, 6], [0, 1, 2, 3, 4, 5, 6, 7]] (nl rfl) [0, 0, 1, 2, 0, 0, 1, 2, 3] rfl (TK := []) rfl AllK.nil' (fC ⟨(sC rfl AllS.nil'), AllH.nil'⟩ (fC ⟨(sC rfl AllS.nil'), AllH.nil'⟩ (fC ⟨(sC rfl (sC rfl AllS.nil')), AllH.nil'⟩ (fC ⟨(sC rfl AllS.nil'), AllH.nil'⟩ (fC ⟨(sC rfl AllS.nil'), AllH.nil'⟩ (fC ⟨(sC rfl AllS.nil'), AllH.nil'⟩ (fC ⟨(sC rfl (sC rfl AllS.nil')), AllH.nil'⟩ (fC ⟨(sC rfl AllS.nil'), AllH.nil'⟩ (fC ⟨(sC rfl (sC rfl AllS.nil')), AllH.nil'⟩ AllF.nil'))))))))) ?_ ?_
    ·refine (pC ?_ (pC ?_ (pC ?_ (pC ?_ (pC ?_ (pC ?_ (pC ?_ (pC ?_ (pC ?_ AllStep.nil')))))))))
     ·intro K rest fr hv htk k
      show AWops _ x _ _ K ⟨26, (upd 26 fr 0 (D.one (C.p false (.sl a0.length (a0.flatMap e_str))))), _⟩
      refine s_move (d := (D.one (C.p false (.sl a0.length (a0.flatMap e_str))))) rfl k
     ·intro K rest fr hv htk k
      show AWops _ x _ _ K ⟨26, (upd 26 fr 5 (sc (.int .i64 x2))), _⟩
      refine s_move (d := (sc (.int .i64 x2))) rfl k
     ·intro K rest fr hv htk k
      show AWops _ x _ _ K ⟨26, (upd 26 (upd 26 fr 17 (sc (.int .i64 x2))) 16 (D.one (C.p false (.sl a0.length (a0.flatMap e_str))))), []⟩
      refine s_indexImm (ps := [P.v (.string v4)]) F.u_42 F.sz_9 rfl rfl pv4 qv4 (flat_at e_str_len gv4 (e_str_eq v4)) k
     ·intro K rest fr hv htk k
      show AWops _ x _ _ K ⟨26, (upd 26 fr 18 (D.one (C.peek false [P.v (.string v4)]))), []⟩
      refine s_load1 (c' := (C.p true (.v (.string v4)))) F.ag_9 rfl rfl k
     ·intro K rest fr hv htk k
      show AWops _ x _ _ K ⟨26, (upd 26 fr 1 (D.one (C.p false (.sl a1.length (a1.flatMap e_str))))), _⟩
      refine s_move (d := (D.one (C.p false (.sl a1.length (a1.flatMap e_str))))) rfl k
     ·intro K rest fr hv htk k
      show AWops _ x _ _ K ⟨26, (upd 26 fr 5 (sc (.int .i64 x2))), _⟩
      refine s_move (d := (sc (.int .i64 x2))) rfl k
     ·intro K rest fr hv htk k
      show AWops _ x _ _ K ⟨26, (upd 26 (upd 26 fr 21 (sc (.int .i64 x2))) 20 (D.one (C.p false (.sl a1.length (a1.flatMap e_str))))), []⟩
      refine s_indexImm (ps := [P.v (.string v5)]) F.u_42 F.sz_9 rfl rfl pv5 qv5 (flat_at e_str_len gv5 (e_str_eq v5)) k
     ·intro K rest fr hv htk k
      show AWops _ x _ _ K ⟨26, (upd 26 fr 22 (D.one (C.peek false [P.v (.string v5)]))), []⟩
      refine s_load1 (c' := (C.p true (.v (.string v5)))) F.ag_9 rfl rfl k
     ·intro K rest fr hv htk k
      show AWops _ x _ _ K ⟨26, (upd 26 (upd 26 fr 23 (sc (.string v5))) 19 (sc (.string v4))), []⟩
      refine s_binS (v := (.bool (!(v4.toList == v5.toList)))) rfl rfl rfl k
    ·refine AWops.weak (st' := ⟨26, (upd 26 (upd 26 (upd 26 (upd 26 (upd 26 topF 0 (D.one (C.p false (.sl a0.length (a0.flatMap e_str))))) 1 (D.one (C.p false (.sl a1.length (a1.flatMap e_str))))) 12 (sc (.int .i64 (a0.length : Int)))) 13 (sc (.int .i64 x2))) 24 (sc (.bool (!(v4.toList == v5.toList))))), []⟩) (Weak.gen (kk := 0) [] [] hx rfl (by decide) (by decide) rfl rfl rfl (le_upd (le_upd (le_upd (le_upd (le_upd (le_top _) (.t (.one .same))) (.t (.one .same))) (.t (.one .sc))) (.t (.one .sc))) (.t (.one .sc))) an) (AWops.nil ?_)
     rcases itH h with ⟨c6, h⟩ | ⟨c6, h⟩
     ·refine AW.cond_no rfl (by rw [c6] <;> rfl) (AW.skip (AW.region ?_))
      refine s_binI (v := (.int .i64 (IntKind.i64.wrap (x2 + 1)))) rfl rfl rfl ?_
      refine s_move (d := (sc (.int .i64 (IntKind.i64.wrap (x2 + 1))))) rfl (AWops.nil ?_)
      exact ⟨_, ⟨26, (upd 26 (upd 26 (upd 26 (upd 26 topF 0 (D.one (C.p false (.sl a0.length (a0.flatMap e_str))))) 1 (D.one (C.p false (.sl a1.length (a1.flatMap e_str))))) 12 (sc (.int .i64 (a0.length : Int)))) 13 (sc (.int .i64 (IntKind.i64.wrap (x2 + 1))))), []⟩, by omega, (Weak.gen (kk := 0) [] [] hx rfl (by decide) (by decide) rfl rfl rfl (le_upd (le_upd (le_upd (le_upd (le_top _) (.t (.one .same))) (.t (.one .same))) (.t (.one .sc))) (.t (.one .sc))) an), by omega, IntKind.i64.wrap (x2 + 1), h, rfl⟩
     ·refine AW.cond_yes rfl (by rw [c6] <;> rfl) (AW.seq (AW.region ?_))
      refine s_assign (d := (sc (.bool false))) rfl (AWops.nil (AW.ret ?_))
      obtain rfl := Option.some.inj h
      exact ⟨_, rfl, (Weak.gen (kk := 0) [] [] rfl rfl (by decide) (by decide) rfl rfl rfl (le_upd (le_top _) (.t (.one .sc))) an)⟩
   ·refine AW.cond_no rfl c3 (AW.exit (AW.seq (AW.region ?_)))
    refine s_assign (d := (sc (.bool true))) rfl (AWops.nil (AW.ret ?_))
    obtain rfl := Option.some.inj h
    exact ⟨_, rfl, (Weak.gen (kk := 0) [] [] rfl rfl (by decide) (by decide) rfl rfl rfl (le_upd (le_top _) (.t (.one .sc))) an)⟩
mutual
def dossierref16_Same.l0 : Nat → Int → (List api_Doc) → (List api_Doc) → Option Bool
 | 0, _, _, _ => none
 | k + 1, x2, a0, a1 => if (decide (x2 < (a0.length : Int))) = true then ((rd a0 x2).bind fun v4 => (rd a1 x2).bind fun v5 => if (v4.Path.toList == v5.Path.toList) = true then ((rd a0 x2).bind fun v7 => (rd a1 x2).bind fun v8 => if ((v7.Value.Kind == v8.Value.Kind) && ((v7.Value.Int == v8.Value.Int) && ((v7.Value.Bool == v8.Value.Bool) && ((v7.Value.Text.toList == v8.Value.Text.toList) && true)))) = true then ((rd a0 x2).bind fun v10 => (rd a1 x2).bind fun v11 => (dossierref12_SameTexts.f k v10.Refs v11.Refs).bind fun r12 => if r12 = true then (dossierref16_Same.l0 k (IntKind.i64.wrap (x2 + 1)) a0 a1) else (some false)) else (some false)) else (some false)) else (some true)
end
def dossierref16_Same.f (k : Nat) (a0 : List api_Doc) (a1 : List api_Doc) : Option Bool := if ((a0.length : Int) != (a1.length : Int)) = true then (some false) else (dossierref16_Same.l0 k 0 a0 a1)
theorem dossierref16_Same.meets (k : Nat) (a0 : List api_Doc) (a1 : List api_Doc) (r : Bool) (h : dossierref16_Same.f k a0 a1 = some r) : Meets Try.prog 38 [(D.one (C.p false (.sl a0.length (a0.flatMap e_api_Doc)))), (D.one (C.p false (.sl a1.length (a1.flatMap e_api_Doc))))] [] (sc (.bool r)) [] := by
 unfold dossierref16_Same.f at h
 refine Meets.of_body (n := 55) Try.func38 rfl rfl (nl rfl) fun x hx => ?_
 replace hx : x.k = 0 := hx
 show AW _ x _ _ ⟨55, fr0 [(D.one (C.p false (.sl a0.length (a0.flatMap e_api_Doc)))), (D.one (C.p false (.sl a1.length (a1.flatMap e_api_Doc))))], []⟩
 refine AW.seq (AW.region ?_)
 refine s_assign (d := (sc (.bool false))) rfl (AWops.nil (AW.seq (AW.seq (AW.region ?_))))
 refine s_move (d := (D.one (C.p false (.sl a0.length (a0.flatMap e_api_Doc))))) rfl ?_
 refine s_len (n := a0.length) F.u_23 rfl (.inr ⟨(fun _ _ h => by cases h), ⟨_, rfl⟩⟩) ?_
 refine s_move (d := (D.one (C.p false (.sl a1.length (a1.flatMap e_api_Doc))))) rfl ?_
 refine s_len (n := a1.length) F.u_23 rfl (.inr ⟨(fun _ _ h => by cases h), ⟨_, rfl⟩⟩) ?_
 refine s_binI (v := (.bool ((a0.length : Int) != (a1.length : Int)))) rfl rfl rfl (AWops.nil ?_)
 rcases itH h with ⟨c1, h⟩ | ⟨c1, h⟩
 ·refine AW.cond_yes rfl c1 (AW.seq (AW.region ?_))
  refine s_assign (d := (sc (.bool false))) rfl (AWops.nil (AW.ret ?_))
  obtain rfl := Option.some.inj h
  exact ⟨_, rfl, (Weak.gen (kk := 0) [] [] rfl rfl (by decide) (by decide) rfl rfl rfl (le_upd (le_top _) (.t (.one .sc))) an)⟩
 ·refine AW.cond_no rfl c1 (AW.skip (AW.seq (AW.seq (AW.region ?_))))
  refine s_move (d := (D.one (C.p false (.sl a0.length (a0.flatMap e_api_Doc))))) rfl ?_
  refine s_len (n := a0.length) F.u_23 rfl (.inr ⟨(fun _ _ h => by cases h), ⟨_, rfl⟩⟩) ?_
  refine s_move (d := (sc (.int .i64 0))) rfl (AWops.nil (AW.block ?_))
  refine AW.loopw (st0 := ⟨55, (upd 55 (upd 55 (upd 55 (upd 55 topF 0 (D.one (C.p false (.sl a0.length (a0.flatMap e_api_Doc))))) 1 (D.one (C.p false (.sl a1.length (a1.flatMap e_api_Doc))))) 12 (sc (.int .i64 (a0.length : Int)))) 13 (sc (.int .i64 0))), []⟩) (fun kv st => kv ≤ k ∧ ∃ (x2 : Int), dossierref16_Same.l0 kv x2 a0 a1 = some r ∧ st = ⟨55, (upd 55 (upd 55 (upd 55 (upd 55 topF 0 (D.one (C.p false (.sl a0.length (a0.flatMap e_api_Doc))))) 1 (D.one (C.p false (.sl a1.length (a1.flatMap e_api_Doc))))) 12 (sc (.int .i64 (a0.length : Int)))) 13 (sc (.int .i64 x2))), []⟩) (k := k) (Weak.gen (kk := 0) [] [] hx rfl (by decide) (by decide) rfl rfl rfl (le_upd (le_upd (le_upd (le_upd (le_top _) (.t (.one .same))) (.t (.one .same))) (.t (.one .sc))) (.t (.one .sc))) an) ⟨Nat.le_refl _, 0, h, rfl⟩ ?_
  rintro ql0 st ⟨hkl0, x2, h, rfl⟩
  cases ql0 with
  | zero => exact absurd h (by simp [dossierref16_Same.l0])
  | succ ql0 =>
   replace h := (dossierref16_Same.l0.eq_2 _ _ _ _).symm.trans h
   refine AW.seq (AW.region ?_)
   refine s_binI (v := (.bool (decide (x2 < (a0.length : Int))))) rfl rfl rfl (AWops.nil (AW.seq ?_))
   rcases itH h with ⟨c3, h⟩ | ⟨c3, h⟩
   ·refine AW.cond_yes rfl c3 (AW.skip (AW.seq (AW.block (AW.seq (AW.region ?_)))))
    refine s_move (d := (sc (.int .i64 x2))) rfl ?_
    refine s_assign (d := (sc (.int .i64 x2))) rfl (AWops.nil (AW.seq ?_))
    refine AW.weak (st' := ⟨55, (upd 55 (upd 55 (upd 55 (upd 55 (upd 55 topF 0 (D.one (C.p false (.sl a0.length (a0.flatMap e_api_Doc))))) 1 (D.one (C.p false (.sl a1.length (a1.flatMap e_api_Doc))))) 5 (sc (.int .i64 x2))) 12 (sc (.int .i64 (a0.length : Int)))) 13 (sc (.int .i64 x2))), []⟩) (Weak.gen (kk := 0) [] [] hx rfl (by decide) (by decide) rfl rfl rfl (le_upd (le_upd (le_upd (le_upd (le_upd (le_top _) (.t (.one .same))) (.t (.one .same))) (.t (.one .sc))) (.t (.one .sc))) (.t (.one .sc))) an) ?_
    obtain ⟨v4, ev4, h⟩ := bnd h
    obtain ⟨pv4, qv4, gv4⟩ := rd_some ev4
    obtain ⟨v5, ev5, h⟩ := bnd h
    obtain ⟨pv5, qv5, gv5⟩ := rd_some ev5
    rcases itH h with ⟨c6, h⟩ | ⟨c6, h⟩
    ·obtain ⟨v7, ev7, h⟩ := bnd h
     obtain ⟨pv7, qv7, gv7⟩ := rd_some ev7
     obtain ⟨v8, ev8, h⟩ := bnd h
     obtain ⟨pv8, qv8, gv8⟩ := rd_some ev8
     rcases itH h with ⟨c9, h⟩ | ⟨c9, h⟩
     ·obtain ⟨v10, ev10, h⟩ := bnd h
      obtain ⟨pv10, qv10, gv10⟩ := rd_some ev10
      obtain ⟨v11, ev11, h⟩ := bnd h
      obtain ⟨pv11, qv11, gv11⟩ := rd_some ev11
      obtain ⟨r12, er12, h⟩ := bnd h
      refine AW.draw (n := 55) (L := 1) [(0, ⟨some 16, (D.one (C.p false (.sl a0.length (a0.flatMap e_api_Doc)))), [(0, (D.one (C.p false (.sl a0.length (a0.flatMap e_api_Doc)))))], [], [], none⟩), (1, ⟨some 17, (sc (.int .i64 x2)), [(5, (sc (.int .i64 x2)))], [], [], none⟩), (2, ⟨some 18, (D.one (C.peek false (p_api_Doc v4))), [(16, (D.one (C.p false (.sl a0.length (a0.flatMap e_api_Doc))))), (17, (sc (.int .i64 x2)))], [], [], none⟩), (3, ⟨some 19, (D.one (C.peek false (p_api_Doc v4))), [(18, (D.one (C.peek false (p_api_Doc v4))))], [], [], none⟩), (4, ⟨some 20, (sc (.string v4.Path)), [(19, (D.one (C.peek false (p_api_Doc v4))))], [], [], none⟩), (5, ⟨some 21, (D.one (C.p false (.sl a1.length (a1.flatMap e_api_Doc)))), [(1, (D.one (C.p false (.sl a1.length (a1.flatMap e_api_Doc)))))], [], [], none⟩), (6, ⟨some 22, (sc (.int .i64 x2)), [(5, (sc (.int .i64 x2)))], [], [], none⟩), (7, ⟨some 23, (D.one (C.peek false (p_api_Doc v5))), [(21, (D.one (C.p false (.sl a1.length (a1.flatMap e_api_Doc))))), (22, (sc (.int .i64 x2)))], [], [], none⟩), (8, ⟨some 24, (D.one (C.peek false (p_api_Doc v5))), [(23, (D.one (C.peek false (p_api_Doc v5))))], [], [], none⟩), (9, ⟨some 25, (sc (.string v5.Path)), [(24, (D.one (C.peek false (p_api_Doc v5))))], [], [], none⟩), (10, ⟨some 26, (sc (.bool (!(v4.Path.toList == v5.Path.toList)))), [(20, (sc (.string v4.Path))), (25, (sc (.string v5.Path)))], [], [], none⟩), (11, ⟨some 27, (sc (.bool (!(v4.Path.toList == v5.Path.toList)))), [(26, (sc (.bool (!(v4.Path.toList == v5.Path.toList)))))], [], [], none⟩), (12, ⟨some 28, (D.one (C.p false (.sl a0.length (a0.flatMap e_api_Doc)))), [(0, (D.one (C.p false (.sl a0.length (a0.flatMap e_api_Doc))))), (27, (sc (.bool (!(v4.Path.toList == v5.Path.toList)))))], [], [], none⟩), (13, ⟨some 29, (sc (.int .i64 x2)), [(5, (sc (.int .i64 x2))), (27, (sc (.bool (!(v4.Path.toList == v5.Path.toList)))))], [], [], none⟩), (14, ⟨some 30, (D.one (C.peek false (p_api_Doc v7))), [(27, (sc (.bool (!(v4.Path.toList == v5.Path.toList))))), (28, (D.one (C.p false (.sl a0.length (a0.flatMap e_api_Doc))))), (29, (sc (.int .i64 x2)))], [], [], none⟩), (15, ⟨some 31, (D.one (C.peek false [P.v (.int .i64 v7.Value.Kind), P.v (.int .i64 v7.Value.Int), P.v (.bool v7.Value.Bool), P.v (.string v7.Value.Text), P.sl v7.Refs.length (v7.Refs.flatMap e_str)])), [(27, (sc (.bool (!(v4.Path.toList == v5.Path.toList))))), (30, (D.one (C.peek false (p_api_Doc v7))))], [], [], none⟩), (16, ⟨some 32, (D.agg (c_api_Value v7.Value)), [(27, (sc (.bool (!(v4.Path.toList == v5.Path.toList))))), (31, (D.one (C.peek false [P.v (.int .i64 v7.Value.Kind), P.v (.int .i64 v7.Value.Int), P.v (.bool v7.Value.Bool), P.v (.string v7.Value.Text), P.sl v7.Refs.length (v7.Refs.flatMap e_str)])))], [], [], none⟩), (17, ⟨some 33, (D.one (C.p false (.sl a1.length (a1.flatMap e_api_Doc)))), [(1, (D.one (C.p false (.sl a1.length (a1.flatMap e_api_Doc))))), (27, (sc (.bool (!(v4.Path.toList == v5.Path.toList)))))], [], [], none⟩), (18, ⟨some 34, (sc (.int .i64 x2)), [(5, (sc (.int .i64 x2))), (27, (sc (.bool (!(v4.Path.toList == v5.Path.toList)))))], [], [], none⟩), (19, ⟨some 35, (D.one (C.peek false (p_api_Doc v8))), [(27, (sc (.bool (!(v4.Path.toList == v5.Path.toList))))), (33, (D.one (C.p false (.sl a1.length (a1.flatMap e_api_Doc))))), (34, (sc (.int .i64 x2)))], [], [], none⟩), (20, ⟨some 36, (D.one (C.peek false [P.v (.int .i64 v8.Value.Kind), P.v (.int .i64 v8.Value.Int), P.v (.bool v8.Value.Bool), P.v (.string v8.Value.Text), P.sl v8.Refs.length (v8.Refs.flatMap e_str)])), [(27, (sc (.bool (!(v4.Path.toList == v5.Path.toList))))), (35, (D.one (C.peek false (p_api_Doc v8))))], [], [], none⟩), (21, ⟨some 37, (D.agg (c_api_Value v8.Value)), [(27, (sc (.bool (!(v4.Path.toList == v5.Path.toList))))), (36, (D.one (C.peek false [P.v (.int .i64 v8.Value.Kind), P.v (.int .i64 v8.Value.Int), P.v (.bool v8.Value.Bool), P.v (.string v8.Value.Text), P.sl v8.Refs.length (v8.Refs.flatMap e_str)])))], [], [], none⟩), (22, ⟨some 38, (sc (.bool (!((v7.Value.Kind == v8.Value.Kind) && ((v7.Value.Int == v8.Value.Int) && ((v7.Value.Bool == v8.Value.Bool) && ((v7.Value.Text.toList == v8.Value.Text.toList) && true))))))), [(27, (sc (.bool (!(v4.Path.toList == v5.Path.toList))))), (32, (D.agg (c_api_Value v7.Value))), (37, (D.agg (c_api_Value v8.Value)))], [], [], none⟩), (23, ⟨some 39, (sc (.bool (!((v7.Value.Kind == v8.Value.Kind) && ((v7.Value.Int == v8.Value.Int) && ((v7.Value.Bool == v8.Value.Bool) && ((v7.Value.Text.toList == v8.Value.Text.toList) && true))))))), [(27, (sc (.bool (!(v4.Path.toList == v5.Path.toList))))), (38, (sc (.bool (!((v7.Value.Kind == v8.Value.Kind) && ((v7.Value.Int == v8.Value.Int) && ((v7.Value.Bool == v8.Value.Bool) && ((v7.Value.Text.toList == v8.Value.Text.toList) && true))))))))], [], [], none⟩), (24, ⟨some 40, (sc (.bool (!((v7.Value.Kind == v8.Value.Kind) && ((v7.Value.Int == v8.Value.Int) && ((v7.Value.Bool == v8.Value.Bool) && ((v7.Value.Text.toList == v8.Value.Text.toList) && true))))))), [(39, (sc (.bool (!((v7.Value.Kind == v8.Value.Kind) && ((v7.Value.Int == v8.Value.Int) && ((v7.Value.Bool == v8.Value.Bool) && ((v7.Value.Text.toList == v8.Value.Text.toList) && true))))))))], [], [], none⟩), (25, ⟨some 41, (D.one (C.p false (.sl a0.length (a0.flatMap e_api_Doc)))), [(0, (D.one (C.p false (.sl a0.length (a0.flatMap e_api_Doc))))), (40, (sc (.bool (!((v7.Value.Kind == v8.Value.Kind) && ((v7.Value.Int == v8.Value.Int) && ((v7.Value.Bool == v8.Value.Bool) && ((v7.Value.Text.toList == v8.Value.Text.toList) && true))))))))], [], [], none⟩), (26, ⟨some 42, (sc (.int .i64 x2)), [(5, (sc (.int .i64 x2))), (40, (sc (.bool (!((v7.Value.Kind == v8.Value.Kind) && ((v7.Value.Int == v8.Value.Int) && ((v7.Value.Bool == v8.Value.Bool) && ((v7.Value.Text.toList == v8.Value.Text.toList) && true))))))))], [], [], none⟩), (27, ⟨some 43, (D.one (C.peek false (p_api_Doc v10))), [(40, (sc (.bool (!((v7.Value.Kind == v8.Value.Kind) && ((v7.Value.Int == v8.Value.Int) && ((v7.Value.Bool == v8.Value.Bool) && ((v7.Value.Text.toList == v8.Value.Text.toList) && true)))))))), (41, (D.one (C.p false (.sl a0.length (a0.flatMap e_api_Doc))))), (42, (sc (.int .i64 x2)))], [], [], none⟩), (28, ⟨some 44, (D.one (C.peek false [P.sl v10.Refs.length (v10.Refs.flatMap e_str)])), [(40, (sc (.bool (!((v7.Value.Kind == v8.Value.Kind) && ((v7.Value.Int == v8.Value.Int) && ((v7.Value.Bool == v8.Value.Bool) && ((v7.Value.Text.toList == v8.Value.Text.toList) && true)))))))), (43, (D.one (C.peek false (p_api_Doc v10))))], [], [], none⟩), (29, ⟨some 45, (D.one (C.p false (.sl v10.Refs.length (v10.Refs.flatMap e_str)))), [(40, (sc (.bool (!((v7.Value.Kind == v8.Value.Kind) && ((v7.Value.Int == v8.Value.Int) && ((v7.Value.Bool == v8.Value.Bool) && ((v7.Value.Text.toList == v8.Value.Text.toList) && true)))))))), (44, (D.one (C.peek false [P.sl v10.Refs.length (v10.Refs.flatMap e_str)])))], [], [], none⟩), (30, ⟨some 46, (D.one (C.p false (.sl a1.length (a1.flatMap e_api_Doc)))), [(1, (D.one (C.p false (.sl a1.length (a1.flatMap e_api_Doc))))), (40, (sc (.bool (!((v7.Value.Kind == v8.Value.Kind) && ((v7.Value.Int == v8.Value.Int) && ((v7.Value.Bool == v8.Value.Bool) && ((v7.Value.Text.toList == v8.Value.Text.toList) && true))))))))], [], [], none⟩), (31, ⟨some 47, (sc (.int .i64 x2)), [(5, (sc (.int .i64 x2))), (40, (sc (.bool (!((v7.Value.Kind == v8.Value.Kind) && ((v7.Value.Int == v8.Value.Int) && ((v7.Value.Bool == v8.Value.Bool) && ((v7.Value.Text.toList == v8.Value.Text.toList) && true))))))))], [], [], none⟩), (32, ⟨some 48, (D.one (C.peek false (p_api_Doc v11))), [(40, (sc (.bool (!((v7.Value.Kind == v8.Value.Kind) && ((v7.Value.Int == v8.Value.Int) && ((v7.Value.Bool == v8.Value.Bool) && ((v7.Value.Text.toList == v8.Value.Text.toList) && true)))))))), (46, (D.one (C.p false (.sl a1.length (a1.flatMap e_api_Doc))))), (47, (sc (.int .i64 x2)))], [], [], none⟩), (33, ⟨some 49, (D.one (C.peek false [P.sl v11.Refs.length (v11.Refs.flatMap e_str)])), [(40, (sc (.bool (!((v7.Value.Kind == v8.Value.Kind) && ((v7.Value.Int == v8.Value.Int) && ((v7.Value.Bool == v8.Value.Bool) && ((v7.Value.Text.toList == v8.Value.Text.toList) && true)))))))), (48, (D.one (C.peek false (p_api_Doc v11))))], [], [], none⟩), (34, ⟨some 50, (D.one (C.p false (.sl v11.Refs.length (v11.Refs.flatMap e_str)))), [(40, (sc (.bool (!((v7.Value.Kind == v8.Value.Kind) && ((v7.Value.Int == v8.Value.Int) && ((v7.Value.Bool == v8.Value.Bool) && ((v7.Value.Text.toList == v8.Value.Text.toList) && true)))))))), (49, (D.one (C.peek false [P.sl v11.Refs.length (v11.Refs.flatMap e_str)])))], [], [], none⟩), (35, ⟨some 51, (sc (.bool r12)), [(40, (sc (.bool (!((v7.Value.Kind == v8.Value.Kind) && ((v7.Value.Int == v8.Value.Int) && ((v7.Value.Bool == v8.Value.Bool) && ((v7.Value.Text.toList == v8.Value.Text.toList) && true)))))))), (45, (D.one (C.p false (.sl v10.Refs.length (v10.Refs.flatMap e_str))))), (50, (D.one (C.p false (.sl v11.Refs.length (v11.Refs.flatMap e_str)))))], [], [], none⟩), (36, ⟨some 52, (sc (.bool (!r12))), [(40, (sc (.bool (!((v7.Value.Kind == v8.Value.Kind) && ((v7.Value.Int == v8.Value.Int) && ((v7.Value.Bool == v8.Value.Bool) && ((v7.Value.Text.toList == v8.Value.Text.toList) && true)))))))), (51, (sc (.bool r12)))], [], [], none⟩), (37, ⟨some 53, (sc (.bool (!r12))), [(40, (sc (.bool (!((v7.Value.Kind == v8.Value.Kind) && ((v7.Value.Int == v8.Value.Int) && ((v7.Value.Bool == v8.Value.Bool) && ((v7.Value.Text.toList == v8.Value.Text.toList) && true)))))))), (52, (sc (.bool (!r12))))], [], [], none⟩)] [[], [], [0, 1], [0, 1, 2], [0, 1, 2, 3], [], [], [5, 6], [5, 6, 7], [5, 6, 7, 8], [0, 1, 2, 3, 4, 5, 6, 7, 8, 9], [0, 1, 2, 3, 4, 5, 6, 7, 8, 9, 10], [0, 1, 2, 3, 4, 5, 6, 7, 8, 9, 10, 11], [0, 1, 2, 3, 4, 5, 6, 7, 8, 9, 10, 11], [0, 1, 2, 3, 4, 5, 6, 7, 8, 9, 10, 11, 12, 13], [0, 1, 2, 3, 4, 5, 6, 7, 8, 9, 10, 11, 12, 13, 14], [0, 1, 2, 3, 4, 5, 6, 7, 8, 9, 10, 11, 12, 13, 14, 15], [0, 1, 2, 3, 4, 5, 6, 7, 8, 9, 10, 11], [0, 1, 2, 3, 4, 5, 6, 7, 8, 9, 10, 11], [0, 1, 2, 3, 4, 5, 6, 7, 8, 9, 10, 11, 17, 18], [0, 1, 2, 3, 4, 5, 6, 7, 8, 9, 10, 11, 17, 18, 19], [0, 1, 2, 3, 4, 5, 6, 7, 8, 9, 10, 11, 17, 18, 19, 20], [0, 1, 2, 3, 4, 5, 6, 7, 8, 9, 10, 11, 12, 13, 14, 15, 16, 17, 18, 19, 20, 21], [0, 1, 2, 3, 4, 5, 6, 7, 8, 9, 10, 11, 12, 13, 14, 15, 16, 17, 18, 19, 20, 21, 22], [0, 1, 2, 3, 4, 5, 6, 7, 8, 9, 10, 11, 12, 13, 14, 15, 16, 17, 18, 19, 20, 21, 22, 23], [0, 1, 2, 3, 4, 5, 6, 7, 8, 9, 10, 11, 12, 13, 14, 15, 16, 17, 18, 19, 20, 21, 22, 23, 24], [0, 1, 2, 3, 4, 5, 6, 7, 8, 9, 10, 11, 12, 13, 14, 15, 16, 17, 18, 19, 20, 21, 22, 23, 24], [0, 1, 2, 3, 4, 5, 6, 7, 8, 9, 10, 11, 12, 13, 14, 15, 16, 17, 18, 19, 20, 21, 22, 23, 24, 25, 26], [0, 1, 2, 3, 4, 5, 6, 7, 8, 9, 10, 11, 12, 13, 14, 15, 16, 17, 18, 19, 20, 21, 22, 23, 24, 25, 26, 27], [0, 1, 2, 3, 4, 5, 6, 7, 8, 9, 10, 11, 12, 13, 14, 15, 16, 17, 18, 19, 20, 21, 22, 23, 24, 25, 26, 27, 28], [0, 1, 2, 3, 4, 5, 6, 7, 8, 9, 10, 11, 12, 13, 14, 15, 16, 17, 18, 19, 20, 21, 22, 23, 24], [0, 1, 2, 3, 4, 5, 6, 7, 8, 9, 10, 11, 12, 13, 14, 15, 16, 17, 18, 19, 20, 21, 22, 23, 24], [0, 1, 2, 3, 4, 5, 6, 7, 8, 9, 10, 11, 12, 13, 14, 15, 16, 17, 18, 19, 20, 21, 22, 23, 24, 30, 31], [0, 1, 2, 3, 4, 5, 6, 7, 8, 9, 10, 11, 12, 13, 14, 15, 16, 17, 18, 19, 20, 21, 22, 23, 24, 30, 31, 32], [0, 1, 2, 3, 4, 5, 6, 7, 8, 9, 10, 11, 12, 13, 14, 15, 16, 17, 18, 19, 20, 21, 22, 23, 24, 30, 31, 32, 33], [0, 1, 2, 3, 4, 5, 6, 7, 8, 9, 10, 11, 12, 13, 14, 15, 16, 17, 18, 19, 20, 21, 22, 23, 24, 25, 26, 27, 28, 29, 30, 31, 32, 33, 34], [0, 1, 2, 3, 4, 5, 6, 7, 8, 9, 10, 11, 12, 13, 14, 15, 16, 17, 18, 19, 20, 21, 22, 23, 24, 25, 26, 27, 28, 29, 30, 31, 32, 33, 34, 35], [0, 1, 2, 3, 4, 5, 6, 7, 8, 9, 10, 11, 12, 13, 14, 15, 16, 17, 18, 19, 20, 21, 22, 23, 24, 25, 26, 27, 28, 29, 30, 31, 32, 33, 34, 35, 36]] (nl rfl) [0, 0, 1, 2, 3, 0, 0, 1, 2, 3, 4, 5, 6, 6, 7, 8, 9, 6, 6, 7, 8, 9, 10, 11, 12, 13, 13, 14, 15, 16, 13, 13, 14, 15, 16, 17, 18, 19] rfl (TK := []) rfl AllK.nil' (fC ⟨(sC rfl AllS.nil'), AllH.nil'⟩ (fC ⟨(sC rfl AllS.nil'), AllH.nil'⟩ (fC ⟨(sC rfl (sC rfl AllS.nil')), AllH.nil'⟩ (fC ⟨(sC rfl AllS.nil'), AllH.nil'⟩ (fC ⟨(sC rfl AllS.nil'), AllH.nil'⟩ (fC ⟨(sC rfl AllS.nil'), AllH.nil'⟩ (fC ⟨(sC rfl AllS.nil'), AllH.nil'⟩ (fC ⟨(sC rfl (sC rfl AllS.nil')), AllH.nil'⟩ (fC ⟨(sC rfl AllS.nil'), AllH.nil'⟩ (fC ⟨(sC rfl AllS.nil'), AllH.nil'⟩ (fC ⟨(sC rfl (sC rfl AllS.nil')), AllH.nil'⟩ (fC ⟨(sC rfl AllS.nil'), AllH.nil'⟩ (fC ⟨(sC rfl (sC rfl AllS.nil')), AllH.nil'⟩ (fC ⟨(sC rfl (sC rfl AllS.nil')), AllH.nil'⟩ (fC ⟨(sC rfl (sC rfl (sC rfl AllS.nil'))), AllH.nil'⟩ (fC ⟨(sC rfl (sC rfl AllS.nil')), AllH.nil'⟩ (fC ⟨(sC rfl (sC rfl AllS.nil')), AllH.nil'⟩ (fC ⟨(sC rfl (sC rfl AllS.nil')), AllH.nil'⟩ (fC ⟨(sC rfl (sC rfl AllS.nil')), AllH.nil'⟩ (fC ⟨(sC rfl (sC rfl (sC rfl AllS.nil'))), AllH.nil'⟩ (fC ⟨(sC rfl (sC rfl AllS.nil')), AllH.nil'⟩ (fC ⟨(sC rfl (sC rfl AllS.nil')), AllH.nil'⟩ (fC ⟨(sC rfl (sC rfl (sC rfl AllS.nil'))), AllH.nil'⟩ (fC ⟨(sC rfl (sC rfl AllS.nil')), AllH.nil'⟩ (fC ⟨(sC rfl AllS.nil'), AllH.nil'⟩ (fC ⟨(sC rfl (sC rfl AllS.nil')), AllH.nil'⟩ (fC ⟨(sC rfl (sC rfl AllS.nil')), AllH.nil'⟩ (fC ⟨(sC rfl (sC rfl (sC rfl AllS.nil'))), AllH.nil'⟩ (fC ⟨(sC rfl (sC rfl AllS.nil')), AllH.nil'⟩ (fC ⟨(sC rfl (sC rfl AllS.nil')), AllH.nil'⟩ (fC ⟨(sC rfl (sC rfl AllS.nil')), AllH.nil'⟩ (fC ⟨(sC rfl (sC rfl AllS.nil')), AllH.nil'⟩ (fC ⟨(sC rfl (sC rfl (sC rfl AllS.nil'))), AllH.nil'⟩ (fC ⟨(sC rfl (sC rfl AllS.nil')), AllH.nil'⟩ (fC ⟨(sC rfl (sC rfl AllS.nil')), AllH.nil'⟩ (fC ⟨(sC rfl (sC rfl (sC rfl AllS.nil'))), AllH.nil'⟩ (fC ⟨(sC rfl (sC rfl AllS.nil')), AllH.nil'⟩ (fC ⟨(sC rfl (sC rfl AllS.nil')), AllH.nil'⟩ AllF.nil')))))))))))))))))))))))))))))))))))))) ?_ ?_
      ·refine (pC ?_ (pC ?_ (pC ?_ (pC ?_ (pC ?_ (pC ?_ (pC ?_ (pC ?_ (pC ?_ (pC ?_ (pC ?_ (pC ?_ (pC ?_ (pC ?_ (pC ?_ (pC ?_ (pC ?_ (pC ?_ (pC ?_ (pC ?_ (pC ?_ (pC ?_ (pC ?_ (pC ?_ (pC ?_ (pC ?_ (pC ?_ (pC ?_ (pC ?_ (pC ?_ (pC ?_ (pC ?_ (pC ?_ (pC ?_ (pC ?_ (pC ?_ (pC ?_ (pC ?_ AllStep.nil'))))))))))))))))))))))))))))))))))))))
       ·intro K rest fr hv htk k
        show AWops _ x _ _ K ⟨55, (upd 55 fr 0 (D.one (C.p false (.sl a0.length (a0.flatMap e_api_Doc))))), _⟩
        refine s_move (d := (D.one (C.p false (.sl a0.length (a0.flatMap e_api_Doc))))) rfl k
       ·intro K rest fr hv htk k
        show AWops _ x _ _ K ⟨55, (upd 55 fr 5 (sc (.int .i64 x2))), _⟩
        refine s_move (d := (sc (.int .i64 x2))) rfl k
       ·intro K rest fr hv htk k
        show AWops _ x _ _ K ⟨55, (upd 55 (upd 55 fr 17 (sc (.int .i64 x2))) 16 (D.one (C.p false (.sl a0.length (a0.flatMap e_api_Doc))))), [(hv 0)]⟩
        refine s_indexImm (ps := (p_api_Doc v4)) F.u_23 F.sz_44 rfl rfl pv4 qv4 (flat_at e_api_Doc_len gv4 (e_api_Doc_eq v4)) k
       ·intro K rest fr hv htk k
        show AWops _ x _ _ K ⟨55, (upd 55 fr 18 (D.one (C.peek false (p_api_Doc v4)))), [(hv 0)]⟩
        refine s_fieldPeek (qs := (p_api_Doc v4)) F.fo_44_0 (by decide) rfl rfl k
       ·intro K rest fr hv htk k
        show AWops _ x _ _ K ⟨55, (upd 55 fr 19 (D.one (C.peek false (p_api_Doc v4)))), [(hv 0)]⟩
        refine s_load1 (c' := (C.p true (.v (.string v4.Path)))) F.ag_9 rfl rfl k
       ·intro K rest fr hv htk k
        show AWops _ x _ _ K ⟨55, (upd 55 fr 1 (D.one (C.p false (.sl a1.length (a1.flatMap e_api_Doc))))), _⟩
        refine s_move (d := (D.one (C.p false (.sl a1.length (a1.flatMap e_api_Doc))))) rfl k
       ·intro K rest fr hv htk k
        show AWops _ x _ _ K ⟨55, (upd 55 fr 5 (sc (.int .i64 x2))), _⟩
        refine s_move (d := (sc (.int .i64 x2))) rfl k
       ·intro K rest fr hv htk k
        show AWops _ x _ _ K ⟨55, (upd 55 (upd 55 fr 22 (sc (.int .i64 x2))) 21 (D.one (C.p false (.sl a1.length (a1.flatMap e_api_Doc))))), [(hv 0)]⟩
        refine s_indexImm (ps := (p_api_Doc v5)) F.u_23 F.sz_44 rfl rfl pv5 qv5 (flat_at e_api_Doc_len gv5 (e_api_Doc_eq v5)) k
       ·intro K rest fr hv htk k
        show AWops _ x _ _ K ⟨55, (upd 55 fr 23 (D.one (C.peek false (p_api_Doc v5)))), [(hv 0)]⟩
        refine s_fieldPeek (qs := (p_api_Doc v5)) F.fo_44_0 (by decide) rfl rfl k
       ·intro K rest fr hv htk k
        show AWops _ x _ _ K ⟨55, (upd 55 fr 24 (D.one (C.peek false (p_api_Doc v5)))), [(hv 0)]⟩
        refine s_load1 (c' := (C.p true (.v (.string v5.Path)))) F.ag_9 rfl rfl k
       ·intro K rest fr hv htk k
        show AWops _ x _ _ K ⟨55, (upd 55 (upd 55 fr 25 (sc (.string v5.Path))) 20 (sc (.string v4.Path))), [(hv 0)]⟩
        refine s_binS (v := (.bool (!(v4.Path.toList == v5.Path.toList)))) rfl rfl rfl k
       ·intro K rest fr hv htk k
        show AWops _ x _ _ K ⟨55, (upd 55 fr 26 (sc (.bool (!(v4.Path.toList == v5.Path.toList))))), _⟩
        refine s_move (d := (sc (.bool (!(v4.Path.toList == v5.Path.toList))))) rfl k
       ·intro K rest fr hv htk k
        show AWops _ x _ _ K ⟨55, (upd 55 (upd 55 fr 27 (sc (.bool (!(v4.Path.toList == v5.Path.toList))))) 0 (D.one (C.p false (.sl a0.length (a0.flatMap e_api_Doc))))), _⟩
        refine AWops.guard_yes rfl (nl rfl) rfl (by rw [c6] <;> rfl) ?_
        refine s_move (d := (D.one (C.p false (.sl a0.length (a0.flatMap e_api_Doc))))) rfl k
       ·intro K rest fr hv htk k
        show AWops _ x _ _ K ⟨55, (upd 55 (upd 55 fr 27 (sc (.bool (!(v4.Path.toList == v5.Path.toList))))) 5 (sc (.int .i64 x2))), _⟩
        refine AWops.guard_yes rfl (nl rfl) rfl (by rw [c6] <;> rfl) ?_
        refine s_move (d := (sc (.int .i64 x2))) rfl k
       ·intro K rest fr hv htk k
        show AWops _ x _ _ K ⟨55, (upd 55 (upd 55 (upd 55 fr 29 (sc (.int .i64 x2))) 28 (D.one (C.p false (.sl a0.length (a0.flatMap e_api_Doc))))) 27 (sc (.bool (!(v4.Path.toList == v5.Path.toList))))), [(hv 0)]⟩
        refine AWops.guard_yes rfl (nl rfl) rfl (by rw [c6] <;> rfl) ?_
        refine s_indexImm (ps := (p_api_Doc v7)) F.u_23 F.sz_44 rfl rfl pv7 qv7 (flat_at e_api_Doc_len gv7 (e_api_Doc_eq v7)) k
       ·intro K rest fr hv htk k
        show AWops _ x _ _ K ⟨55, (upd 55 (upd 55 fr 30 (D.one (C.peek false (p_api_Doc v7)))) 27 (sc (.bool (!(v4.Path.toList == v5.Path.toList))))), [(hv 0)]⟩
        refine AWops.guard_yes rfl (nl rfl) rfl (by rw [c6] <;> rfl) ?_
        refine s_fieldPeek (qs := [P.v (.int .i64 v7.Value.Kind), P.v (.int .i64 v7.Value.Int), P.v (.bool v7.Value.Bool), P.v (.string v7.Value.Text), P.sl v7.Refs.length (v7.Refs.flatMap e_str)]) F.fo_44_1 (by decide) rfl rfl k
       ·intro K rest fr hv htk k
        show AWops _ x _ _ K ⟨55, (upd 55 (upd 55 fr 31 (D.one (C.peek false [P.v (.int .i64 v7.Value.Kind), P.v (.int .i64 v7.Value.Int), P.v (.bool v7.Value.Bool), P.v (.string v7.Value.Text), P.sl v7.Refs.length (v7.Refs.flatMap e_str)]))) 27 (sc (.bool (!(v4.Path.toList == v5.Path.toList))))), [(hv 0)]⟩
        refine AWops.guard_yes rfl (nl rfl) rfl (by rw [c6] <;> rfl) ?_
        refine s_loadN (ds := (c_api_Value v7.Value)) F.ag_41 F.sz_41 rfl rfl rfl k
       ·intro K rest fr hv htk k
        show AWops _ x _ _ K ⟨55, (upd 55 (upd 55 fr 27 (sc (.bool (!(v4.Path.toList == v5.Path.toList))))) 1 (D.one (C.p false (.sl a1.length (a1.flatMap e_api_Doc))))), _⟩
        refine AWops.guard_yes rfl (nl rfl) rfl (by rw [c6] <;> rfl) ?_
        refine s_move (d := (D.one (C.p false (.sl a1.length (a1.flatMap e_api_Doc))))) rfl k
       ·intro K rest fr hv htk k
        show AWops _ x _ _ K ⟨55, (upd 55 (upd 55 fr 27 (sc (.bool (!(v4.Path.toList == v5.Path.toList))))) 5 (sc (.int .i64 x2))), _⟩
        refine AWops.guard_yes rfl (nl rfl) rfl (by rw [c6] <;> rfl) ?_
        refine s_move (d := (sc (.int .i64 x2))) rfl k
       ·intro K rest fr hv htk k
        show AWops _ x _ _ K ⟨55, (upd 55 (upd 55 (upd 55 fr 34 (sc (.int .i64 x2))) 33 (D.one (C.p false (.sl a1.length (a1.flatMap e_api_Doc))))) 27 (sc (.bool (!(v4.Path.toList == v5.Path.toList))))), [(hv 0)]⟩
        refine AWops.guard_yes rfl (nl rfl) rfl (by rw [c6] <;> rfl) ?_
        refine s_indexImm (ps := (p_api_Doc v8)) F.u_23 F.sz_44 rfl rfl pv8 qv8 (flat_at e_api_Doc_len gv8 (e_api_Doc_eq v8)) k
       ·intro K rest fr hv htk k
        show AWops _ x _ _ K ⟨55, (upd 55 (upd 55 fr 35 (D.one (C.peek false (p_api_Doc v8)))) 27 (sc (.bool (!(v4.Path.toList == v5.Path.toList))))), [(hv 0)]⟩
        refine AWops.guard_yes rfl (nl rfl) rfl (by rw [c6] <;> rfl) ?_
        refine s_fieldPeek (qs := [P.v (.int .i64 v8.Value.Kind), P.v (.int .i64 v8.Value.Int), P.v (.bool v8.Value.Bool), P.v (.string v8.Value.Text), P.sl v8.Refs.length (v8.Refs.flatMap e_str)]) F.fo_44_1 (by decide) rfl rfl k
       ·intro K rest fr hv htk k
        show AWops _ x _ _ K ⟨55, (upd 55 (upd 55 fr 36 (D.one (C.peek false [P.v (.int .i64 v8.Value.Kind), P.v (.int .i64 v8.Value.Int), P.v (.bool v8.Value.Bool), P.v (.string v8.Value.Text), P.sl v8.Refs.length (v8.Refs.flatMap e_str)]))) 27 (sc (.bool (!(v4.Path.toList == v5.Path.toList))))), [(hv 0)]⟩
        refine AWops.guard_yes rfl (nl rfl) rfl (by rw [c6] <;> rfl) ?_
        refine s_loadN (ds := (c_api_Value v8.Value)) F.ag_41 F.sz_41 rfl rfl rfl k
       ·intro K rest fr hv htk k
        show AWops _ x _ _ K ⟨55, (upd 55 (upd 55 (upd 55 fr 37 (D.agg (c_api_Value v8.Value))) 32 (D.agg (c_api_Value v7.Value))) 27 (sc (.bool (!(v4.Path.toList == v5.Path.toList))))), [(hv 0)]⟩
        refine AWops.guard_yes rfl (nl rfl) rfl (by rw [c6] <;> rfl) ?_
        refine s_binA (b := ((v7.Value.Kind == v8.Value.Kind) && ((v7.Value.Int == v8.Value.Int) && ((v7.Value.Bool == v8.Value.Bool) && ((v7.Value.Text.toList == v8.Value.Text.toList) && true))))) F.ff_41 rfl rfl rfl (.inr rfl) k
       ·intro K rest fr hv htk k
        show AWops _ x _ _ K ⟨55, (upd 55 (upd 55 fr 38 (sc (.bool (!((v7.Value.Kind == v8.Value.Kind) && ((v7.Value.Int == v8.Value.Int) && ((v7.Value.Bool == v8.Value.Bool) && ((v7.Value.Text.toList == v8.Value.Text.toList) && true)))))))) 27 (sc (.bool (!(v4.Path.toList == v5.Path.toList))))), _⟩
        refine s_pick_no (d := (sc (.bool (!((v7.Value.Kind == v8.Value.Kind) && ((v7.Value.Int == v8.Value.Int) && ((v7.Value.Bool == v8.Value.Bool) && ((v7.Value.Text.toList == v8.Value.Text.toList) && true)))))))) rfl (by rw [c6] <;> rfl) rfl k
       ·intro K rest fr hv htk k
        show AWops _ x _ _ K ⟨55, (upd 55 fr 39 (sc (.bool (!((v7.Value.Kind == v8.Value.Kind) && ((v7.Value.Int == v8.Value.Int) && ((v7.Value.Bool == v8.Value.Bool) && ((v7.Value.Text.toList == v8.Value.Text.toList) && true)))))))), _⟩
        refine s_move (d := (sc (.bool (!((v7.Value.Kind == v8.Value.Kind) && ((v7.Value.Int == v8.Value.Int) && ((v7.Value.Bool == v8.Value.Bool) && ((v7.Value.Text.toList == v8.Value.Text.toList) && true)))))))) rfl k
       ·intro K rest fr hv htk k
        show AWops _ x _ _ K ⟨55, (upd 55 (upd 55 fr 40 (sc (.bool (!((v7.Value.Kind == v8.Value.Kind) && ((v7.Value.Int == v8.Value.Int) && ((v7.Value.Bool == v8.Value.Bool) && ((v7.Value.Text.toList == v8.Value.Text.toList) && true)))))))) 0 (D.one (C.p false (.sl a0.length (a0.flatMap e_api_Doc))))), _⟩
        refine AWops.guard_yes rfl (nl rfl) rfl (by rw [c9] <;> rfl) ?_
        refine s_move (d := (D.one (C.p false (.sl a0.length (a0.flatMap e_api_Doc))))) rfl k
       ·intro K rest fr hv htk k
        show AWops _ x _ _ K ⟨55, (upd 55 (upd 55 fr 40 (sc (.bool (!((v7.Value.Kind == v8.Value.Kind) && ((v7.Value.Int == v8.Value.Int) && ((v7.Value.Bool == v8.Value.Bool) && ((v7.Value.Text.toList == v8.Value.Text.toList) && true)))))))) 5 (sc (.int .i64 x2))), _⟩
        refine AWops.guard_yes rfl (nl rfl) rfl (by rw [c9] <;> rfl) ?_
        refine s_move (d := (sc (.int .i64 x2))) rfl k
       ·intro K rest fr hv htk k
        show AWops _ x _ _ K ⟨55, (upd 55 (upd 55 (upd 55 fr 42 (sc (.int .i64 x2))) 41 (D.one (C.p false (.sl a0.length (a0.flatMap e_api_Doc))))) 40 (sc (.bool (!((v7.Value.Kind == v8.Value.Kind) && ((v7.Value.Int == v8.Value.Int) && ((v7.Value.Bool == v8.Value.Bool) && ((v7.Value.Text.toList == v8.Value.Text.toList) && true)))))))), [(hv 0)]⟩
        refine AWops.guard_yes rfl (nl rfl) rfl (by rw [c9] <;> rfl) ?_
        refine s_indexImm (ps := (p_api_Doc v10)) F.u_23 F.sz_44 rfl rfl pv10 qv10 (flat_at e_api_Doc_len gv10 (e_api_Doc_eq v10)) k
       ·intro K rest fr hv htk k
        show AWops _ x _ _ K ⟨55, (upd 55 (upd 55 fr 43 (D.one (C.peek false (p_api_Doc v10)))) 40 (sc (.bool (!((v7.Value.Kind == v8.Value.Kind) && ((v7.Value.Int == v8.Value.Int) && ((v7.Value.Bool == v8.Value.Bool) && ((v7.Value.Text.toList == v8.Value.Text.toList) && true)))))))), [(hv 0)]⟩
        refine AWops.guard_yes rfl (nl rfl) rfl (by rw [c9] <;> rfl) ?_
        refine s_fieldPeek (qs := [P.sl v10.Refs.length (v10.Refs.flatMap e_str)]) F.fo_44_2 (by decide) rfl rfl k
       ·intro K rest fr hv htk k
        show AWops _ x _ _ K ⟨55, (upd 55 (upd 55 fr 44 (D.one (C.peek false [P.sl v10.Refs.length (v10.Refs.flatMap e_str)]))) 40 (sc (.bool (!((v7.Value.Kind == v8.Value.Kind) && ((v7.Value.Int == v8.Value.Int) && ((v7.Value.Bool == v8.Value.Bool) && ((v7.Value.Text.toList == v8.Value.Text.toList) && true)))))))), [(hv 0)]⟩
        refine AWops.guard_yes rfl (nl rfl) rfl (by rw [c9] <;> rfl) ?_
        refine s_load1 (c' := (C.p false (.sl v10.Refs.length (v10.Refs.flatMap e_str)))) F.ag_42 rfl rfl k
       ·intro K rest fr hv htk k
        show AWops _ x _ _ K ⟨55, (upd 55 (upd 55 fr 40 (sc (.bool (!((v7.Value.Kind == v8.Value.Kind) && ((v7.Value.Int == v8.Value.Int) && ((v7.Value.Bool == v8.Value.Bool) && ((v7.Value.Text.toList == v8.Value.Text.toList) && true)))))))) 1 (D.one (C.p false (.sl a1.length (a1.flatMap e_api_Doc))))), _⟩
        refine AWops.guard_yes rfl (nl rfl) rfl (by rw [c9] <;> rfl) ?_
        refine s_move (d := (D.one (C.p false (.sl a1.length (a1.flatMap e_api_Doc))))) rfl k
       ·intro K rest fr hv htk k
        show AWops _ x _ _ K ⟨55, (upd 55 (upd 55 fr 40 (sc (.bool (!((v7.Value.Kind == v8.Value.Kind) && ((v7.Value.Int == v8.Value.Int) && ((v7.Value.Bool == v8.Value.Bool) && ((v7.Value.Text.toList == v8.Value.Text.toList) && true)))))))) 5 (sc (.int .i64 x2))), _⟩
        refine AWops.guard_yes rfl (nl rfl) rfl (by rw [c9] <;> rfl) ?_
        refine s_move (d := (sc (.int .i64 x2))) rfl k
       ·intro K rest fr hv htk k
        show AWops _ x _ _ K ⟨55, (upd 55 (upd 55 (upd 55 fr 47 (sc (.int .i64 x2))) 46 (D.one (C.p false (.sl a1.length (a1.flatMap e_api_Doc))))) 40 (sc (.bool (!((v7.Value.Kind == v8.Value.Kind) && ((v7.Value.Int == v8.Value.Int) && ((v7.Value.Bool == v8.Value.Bool) && ((v7.Value.Text.toList == v8.Value.Text.toList) && true)))))))), [(hv 0)]⟩
        refine AWops.guard_yes rfl (nl rfl) rfl (by rw [c9] <;> rfl) ?_
        refine s_indexImm (ps := (p_api_Doc v11)) F.u_23 F.sz_44 rfl rfl pv11 qv11 (flat_at e_api_Doc_len gv11 (e_api_Doc_eq v11)) k
       ·intro K rest fr hv htk k
        show AWops _ x _ _ K ⟨55, (upd 55 (upd 55 fr 48 (D.one (C.peek false (p_api_Doc v11)))) 40 (sc (.bool (!((v7.Value.Kind == v8.Value.Kind) && ((v7.Value.Int == v8.Value.Int) && ((v7.Value.Bool == v8.Value.Bool) && ((v7.Value.Text.toList == v8.Value.Text.toList) && true)))))))), [(hv 0)]⟩
        refine AWops.guard_yes rfl (nl rfl) rfl (by rw [c9] <;> rfl) ?_
        refine s_fieldPeek (qs := [P.sl v11.Refs.length (v11.Refs.flatMap e_str)]) F.fo_44_2 (by decide) rfl rfl k
       ·intro K rest fr hv htk k
        show AWops _ x _ _ K ⟨55, (upd 55 (upd 55 fr 49 (D.one (C.peek false [P.sl v11.Refs.length (v11.Refs.flatMap e_str)]))) 40 (sc (.bool (!((v7.Value.Kind == v8.Value.Kind) && ((v7.Value.Int == v8.Value.Int) && ((v7.Value.Bool == v8.Value.Bool) && ((v7.Value.Text.toList == v8.Value.Text.toList) && true)))))))), [(hv 0)]⟩
        refine AWops.guard_yes rfl (nl rfl) rfl (by rw [c9] <;> rfl) ?_
        refine s_load1 (c' := (C.p false (.sl v11.Refs.length (v11.Refs.flatMap e_str)))) F.ag_42 rfl rfl k
       ·intro K rest fr hv htk k
        show AWops _ x _ _ K ⟨55, (upd 55 (upd 55 (upd 55 fr 50 (D.one (C.p false (.sl v11.Refs.length (v11.Refs.flatMap e_str))))) 45 (D.one (C.p false (.sl v10.Refs.length (v10.Refs.flatMap e_str))))) 40 (sc (.bool (!((v7.Value.Kind == v8.Value.Kind) && ((v7.Value.Int == v8.Value.Int) && ((v7.Value.Bool == v8.Value.Bool) && ((v7.Value.Text.toList == v8.Value.Text.toList) && true)))))))), [(hv 0)]⟩
        refine AWops.guard_yes rfl (nl rfl) rfl (by rw [c9] <;> rfl) ?_
        refine s_call2 (ρ := []) (br := false) (H2 := [(hv 0)]) (d := (sc (.bool r12))) F.ca_49 rfl rfl (ac (.one .imm) (ac (.one .imm) an)) an (by decide) rfl (dossierref12_SameTexts.meets _ v10.Refs v11.Refs r12 er12) (.inl rfl) rfl rfl k
       ·intro K rest fr hv htk k
        show AWops _ x _ _ K ⟨55, (upd 55 (upd 55 fr 51 (sc (.bool r12))) 40 (sc (.bool (!((v7.Value.Kind == v8.Value.Kind) && ((v7.Value.Int == v8.Value.Int) && ((v7.Value.Bool == v8.Value.Bool) && ((v7.Value.Text.toList == v8.Value.Text.toList) && true)))))))), [(hv 0)]⟩
        refine AWops.guard_yes rfl (nl rfl) rfl (by rw [c9] <;> rfl) ?_
        refine s_not rfl k
       ·intro K rest fr hv htk k
        show AWops _ x _ _ K ⟨55, (upd 55 (upd 55 fr 52 (sc (.bool (!r12)))) 40 (sc (.bool (!((v7.Value.Kind == v8.Value.Kind) && ((v7.Value.Int == v8.Value.Int) && ((v7.Value.Bool == v8.Value.Bool) && ((v7.Value.Text.toList == v8.Value.Text.toList) && true)))))))), _⟩
        refine s_pick_no (d := (sc (.bool (!r12)))) rfl (by rw [c9] <;> rfl) rfl k
      ·refine AWops.weak (st' := ⟨55, (upd 55 (upd 55 (upd 55 (upd 55 (upd 55 (upd 55 (upd 55 (upd 55 (upd 55 (upd 55 (upd 55 (upd 55 (upd 55 (upd 55 (upd 55 (upd 55 (upd 55 (upd 55 (upd 55 (upd 55 (upd 55 (upd 55 (upd 55 (upd 55 (upd 55 (upd 55 (upd 55 (upd 55 topF 0 (D.one (C.p false (.sl a0.length (a0.flatMap e_api_Doc))))) 1 (D.one (C.p false (.sl a1.length (a1.flatMap e_api_Doc))))) 12 (sc (.int .i64 (a0.length : Int)))) 13 (sc (.int .i64 x2))) 28 (D.one (C.p false (.sl a0.length (a0.flatMap e_api_Doc))))) 29 (sc (.int .i64 x2))) 30 (D.one (C.peek false (p_api_Doc v7)))) 31 (D.one (C.peek false [P.v (.int .i64 v7.Value.Kind), P.v (.int .i64 v7.Value.Int), P.v (.bool v7.Value.Bool), P.v (.string v7.Value.Text), P.sl v7.Refs.length (v7.Refs.flatMap e_str)]))) 32 (D.agg (c_api_Value v7.Value))) 33 (D.one (C.p false (.sl a1.length (a1.flatMap e_api_Doc))))) 34 (sc (.int .i64 x2))) 35 (D.one (C.peek false (p_api_Doc v8)))) 36 (D.one (C.peek false [P.v (.int .i64 v8.Value.Kind), P.v (.int .i64 v8.Value.Int), P.v (.bool v8.Value.Bool), P.v (.string v8.Value.Text), P.sl v8.Refs.length (v8.Refs.flatMap e_str)]))) 37 (D.agg (c_api_Value v8.Value))) 38 (sc (.bool (!((v7.Value.Kind == v8.Value.Kind) && ((v7.Value.Int == v8.Value.Int) && ((v7.Value.Bool == v8.Value.Bool) && ((v7.Value.Text.toList == v8.Value.Text.toList) && true)))))))) 41 (D.one (C.p false (.sl a0.length (a0.flatMap e_api_Doc))))) 42 (sc (.int .i64 x2))) 43 (D.one (C.peek false (p_api_Doc v10)))) 44 (D.one (C.peek false [P.sl v10.Refs.length (v10.Refs.flatMap e_str)]))) 45 (D.one (C.p false (.sl v10.Refs.length (v10.Refs.flatMap e_str))))) 46 (D.one (C.p false (.sl a1.length (a1.flatMap e_api_Doc))))) 47 (sc (.int .i64 x2))) 48 (D.one (C.peek false (p_api_Doc v11)))) 49 (D.one (C.peek false [P.sl v11.Refs.length (v11.Refs.flatMap e_str)]))) 50 (D.one (C.p false (.sl v11.Refs.length (v11.Refs.flatMap e_str))))) 51 (sc (.bool r12))) 52 (sc (.bool (!r12)))) 53 (sc (.bool (!r12)))), []⟩) (Weak.gen (kk := 0) [] [] hx rfl (by decide) (by decide) rfl rfl rfl (le_upd (le_upd (le_upd (le_upd (le_upd (le_upd (le_upd (le_upd (le_upd (le_upd (le_upd (le_upd (le_upd (le_upd (le_upd (le_upd (le_upd (le_upd (le_upd (le_upd (le_upd (le_upd (le_upd (le_upd (le_upd (le_upd (le_upd (le_upd (le_top _) (.t (.one .same))) (.t (.one .same))) (.t (.one .sc))) (.t (.one .sc))) (.t (.one .same))) (.t (.one .sc))) (.t (.one .peek))) (.t (.one .peek))) (.t (.agg (ac .sc (ac .sc (ac .sc (ac .sc an))))))) (.t (.one .same))) (.t (.one .sc))) (.t (.one .peek))) (.t (.one .peek))) (.t (.agg (ac .sc (ac .sc (ac .sc (ac .sc an))))))) (.t (.one .sc))) (.t (.one .same))) (.t (.one .sc))) (.t (.one .peek))) (.t (.one .peek))) (.t (.one .same))) (.t (.one .same))) (.t (.one .sc))) (.t (.one .peek))) (.t (.one .peek))) (.t (.one .same))) (.t (.one .sc))) (.t (.one .sc))) (.t (.one .sc))) an) (AWops.nil ?_)
       rcases itH h with ⟨c13, h⟩ | ⟨c13, h⟩
       ·refine AW.cond_no rfl (by rw [c13] <;> rfl) (AW.skip (AW.region ?_))
        refine s_binI (v := (.int .i64 (IntKind.i64.wrap (x2 + 1)))) rfl rfl rfl ?_
        refine s_move (d := (sc (.int .i64 (IntKind.i64.wrap (x2 + 1))))) rfl (AWops.nil ?_)
        exact ⟨_, ⟨55, (upd 55 (upd 55 (upd 55 (upd 55 topF 0 (D.one (C.p false (.sl a0.length (a0.flatMap e_api_Doc))))) 1 (D.one (C.p false (.sl a1.length (a1.flatMap e_api_Doc))))) 12 (sc (.int .i64 (a0.length : Int)))) 13 (sc (.int .i64 (IntKind.i64.wrap (x2 + 1))))), []⟩, by omega, (Weak.gen (kk := 0) [] [] hx rfl (by decide) (by decide) rfl rfl rfl (le_upd (le_upd (le_upd (le_upd (le_top _) (.t (.one .same))) (.t (.one .same))) (.t (.one .sc))) (.t (.one .sc))) an), by omega, IntKind.i64.wrap (x2 + 1), h, rfl⟩
       ·refine AW.cond_yes rfl (by rw [c13] <;> rfl) (AW.seq (AW.region ?_))
        refine s_assign (d := (sc (.bool false))) rfl (AWops.nil (AW.ret ?_))
        obtain rfl := Option.some.inj h
        exact ⟨_, rfl, (Weak.gen (kk := 0) [] [] rfl rfl (by decide) (by decide) rfl rfl rfl (le_upd (le_top _) (.t (.one .sc))) an)⟩
     ·refine AW.draw (n := 55) (L := 1) [(0, ⟨some 16, (D.one (C.p false (.sl a0.length (a0.flatMap e_api_Doc)))), [(0, (D.one (C.p false (.sl a0.length (a0.flatMap e_api_Doc)))))], [], [], none⟩), (1, ⟨some 17, (sc (.int .i64 x2)), [(5, (sc (.int .i64 x2)))], [], [], none⟩), (2, ⟨some 18, (D.one (C.peek false (p_api_Doc v4))), [(16, (D.one (C.p false (.sl a0.length (a0.flatMap e_api_Doc))))), (17, (sc (.int .i64 x2)))], [], [], none⟩), (3, ⟨some 19, (D.one (C.peek false (p_api_Doc v4))), [(18, (D.one (C.peek false (p_api_Doc v4))))], [], [], none⟩), (4, ⟨some 20, (sc (.string v4.Path)), [(19, (D.one (C.peek false (p_api_Doc v4))))], [], [], none⟩), (5, ⟨some 21, (D.one (C.p false (.sl a1.length (a1.flatMap e_api_Doc)))), [(1, (D.one (C.p false (.sl a1.length (a1.flatMap e_api_Doc)))))], [], [], none⟩), (6, ⟨some 22, (sc (.int .i64 x2)), [(5, (sc (.int .i64 x2)))], [], [], none⟩), (7, ⟨some 23, (D.one (C.peek false (p_api_Doc v5))), [(21, (D.one (C.p false (.sl a1.length (a1.flatMap e_api_Doc))))), (22, (sc (.int .i64 x2)))], [], [], none⟩), (8, ⟨some 24, (D.one (C.peek false (p_api_Doc v5))), [(23, (D.one (C.peek false (p_api_Doc v5))))], [], [], none⟩), (9, ⟨some 25, (sc (.string v5.Path)), [(24, (D.one (C.peek false (p_api_Doc v5))))], [], [], none⟩), (10, ⟨some 26, (sc (.bool (!(v4.Path.toList == v5.Path.toList)))), [(20, (sc (.string v4.Path))), (25, (sc (.string v5.Path)))], [], [], none⟩), (11, ⟨some 27, (sc (.bool (!(v4.Path.toList == v5.Path.toList)))), [(26, (sc (.bool (!(v4.Path.toList == v5.Path.toList)))))], [], [], none⟩), (12, ⟨some 28, (D.one (C.p false (.sl a0.length (a0.flatMap e_api_Doc)))), [(0, (D.one (C.p false (.sl a0.length (a0.flatMap e_api_Doc))))), (27, (sc (.bool (!(v4.Path.toList == v5.Path.toList)))))], [], [], none⟩), (13, ⟨some 29, (sc (.int .i64 x2)), [(5, (sc (.int .i64 x2))), (27, (sc (.bool (!(v4.Path.toList == v5.Path.toList)))))], [], [], none⟩), (14, ⟨some 30, (D.one (C.peek false (p_api_Doc v7))), [(27, (sc (.bool (!(v4.Path.toList == v5.Path.toList))))), (28, (D.one (C.p false (.sl a0.length (a0.flatMap e_api_Doc))))), (29, (sc (.int .i64 x2)))], [], [], none⟩), (15, ⟨some 31, (D.one (C.peek false [P.v (.int .i64 v7.Value.Kind), P.v (.int .i64 v7.Value.Int), P.v (.bool v7.Value.Bool), P.v (.string v7.Value.Text), P.sl v7.Refs.length (v7.Refs.flatMap e_str)])), [(27, (sc (.bool (!(v4.Path.toList == v5.Path.toList))))), (30, (D.one (C.peek false (p_api_Doc v7))))], [], [], none⟩), (16, ⟨some 32, (D.agg (c_api_Value v7.Value)), [(27, (sc (.bool (!(v4.Path.toList == v5.Path.toList))))), (31, (D.one (C.peek false [P.v (.int .i64 v7.Value.Kind), P.v (.int .i64 v7.Value.Int), P.v (.bool v7.Value.Bool), P.v (.string v7.Value.Text), P.sl v7.Refs.length (v7.Refs.flatMap e_str)])))], [], [], none⟩), (17, ⟨some 33, (D.one (C.p false (.sl a1.length (a1.flatMap e_api_Doc)))), [(1, (D.one (C.p false (.sl a1.length (a1.flatMap e_api_Doc))))), (27, (sc (.bool (!(v4.Path.toList == v5.Path.toList)))))], [], [], none⟩), (18, ⟨some 34, (sc (.int .i64 x2)), [(5, (sc (.int .i64 x2))), (27, (sc (.bool (!(v4.Path.toList == v5.Path.toList)))))], [], [], none⟩), (19, ⟨some 35, (D.one (C.peek false (p_api_Doc v8))), [(27, (sc (.bool (!(v4.Path.toList == v5.Path.toList))))), (33, (D.one (C.p false (.sl a1.length (a1.flatMap e_api_Doc))))), (34, (sc (.int .i64 x2)))], [], [], none⟩), (20, ⟨some 36, (D.one (C.peek false [P.v (.int .i64 v8.Value.Kind), P.v (.int .i64 v8.Value.Int), P.v (.bool v8.Value.Bool), P.v (.string v8.Value.Text), P.sl v8.Refs.length (v8.Refs.flatMap e_str)])), [(27, (sc (.bool (!(v4.Path.toList == v5.Path.toList))))), (35, (D.one (C.peek false (p_api_Doc v8))))], [], [], none⟩), (21, ⟨some 37, (D.agg (c_api_Value v8.Value)), [(27, (sc (.bool (!(v4.Path.toList == v5.Path.toList))))), (36, (D.one (C.peek false [P.v (.int .i64 v8.Value.Kind), P.v (.int .i64 v8.Value.Int), P.v (.bool v8.Value.Bool), P.v (.string v8.Value.Text), P.sl v8.Refs.length (v8.Refs.flatMap e_str)])))], [], [], none⟩), (22, ⟨some 38, (sc (.bool (!((v7.Value.Kind == v8.Value.Kind) && ((v7.Value.Int == v8.Value.Int) && ((v7.Value.Bool == v8.Value.Bool) && ((v7.Value.Text.toList == v8.Value.Text.toList) && true))))))), [(27, (sc (.bool (!(v4.Path.toList == v5.Path.toList))))), (32, (D.agg (c_api_Value v7.Value))), (37, (D.agg (c_api_Value v8.Value)))], [], [], none⟩), (23, ⟨some 39, (sc (.bool (!((v7.Value.Kind == v8.Value.Kind) && ((v7.Value.Int == v8.Value.Int) && ((v7.Value.Bool == v8.Value.Bool) && ((v7.Value.Text.toList == v8.Value.Text.toList) && true))))))), [(27, (sc (.bool (!(v4.Path.toList == v5.Path.toList))))), (38, (sc (.bool (!((v7.Value.Kind == v8.Value.Kind) && ((v7.Value.Int == v8.Value.Int) && ((v7.Value.Bool == v8.Value.Bool) && ((v7.Value.Text.toList == v8.Value.Text.toList) && true))))))))], [], [], none⟩), (24, ⟨some 40, (sc (.bool (!((v7.Value.Kind == v8.Value.Kind) && ((v7.Value.Int == v8.Value.Int) && ((v7.Value.Bool == v8.Value.Bool) && ((v7.Value.Text.toList == v8.Value.Text.toList) && true))))))), [(39, (sc (.bool (!((v7.Value.Kind == v8.Value.Kind) && ((v7.Value.Int == v8.Value.Int) && ((v7.Value.Bool == v8.Value.Bool) && ((v7.Value.Text.toList == v8.Value.Text.toList) && true))))))))], [], [], none⟩), (25, ⟨some 41, (D.tup []), [(0, (D.one (C.p false (.sl a0.length (a0.flatMap e_api_Doc))))), (40, (sc (.bool (!((v7.Value.Kind == v8.Value.Kind) && ((v7.Value.Int == v8.Value.Int) && ((v7.Value.Bool == v8.Value.Bool) && ((v7.Value.Text.toList == v8.Value.Text.toList) && true))))))))], [], [], none⟩), (26, ⟨some 42, (D.tup []), [(40, (sc (.bool (!((v7.Value.Kind == v8.Value.Kind) && ((v7.Value.Int == v8.Value.Int) && ((v7.Value.Bool == v8.Value.Bool) && ((v7.Value.Text.toList == v8.Value.Text.toList) && true))))))))], [], [], none⟩), (27, ⟨some 43, (D.tup []), [(40, (sc (.bool (!((v7.Value.Kind == v8.Value.Kind) && ((v7.Value.Int == v8.Value.Int) && ((v7.Value.Bool == v8.Value.Bool) && ((v7.Value.Text.toList == v8.Value.Text.toList) && true))))))))], [], [], none⟩), (28, ⟨some 44, (D.tup []), [(40, (sc (.bool (!((v7.Value.Kind == v8.Value.Kind) && ((v7.Value.Int == v8.Value.Int) && ((v7.Value.Bool == v8.Value.Bool) && ((v7.Value.Text.toList == v8.Value.Text.toList) && true))))))))], [], [], none⟩), (29, ⟨some 45, (D.tup []), [(40, (sc (.bool (!((v7.Value.Kind == v8.Value.Kind) && ((v7.Value.Int == v8.Value.Int) && ((v7.Value.Bool == v8.Value.Bool) && ((v7.Value.Text.toList == v8.Value.Text.toList) && true))))))))], [], [], none⟩), (30, ⟨some 46, (D.tup []), [(40, (sc (.bool (!((v7.Value.Kind == v8.Value.Kind) && ((v7.Value.Int == v8.Value.Int) && ((v7.Value.Bool == v8.Value.Bool) && ((v7.Value.Text.toList == v8.Value.Text.toList) && true))))))))], [], [], none⟩), (31, ⟨some 47, (D.tup []), [(40, (sc (.bool (!((v7.Value.Kind == v8.Value.Kind) && ((v7.Value.Int == v8.Value.Int) && ((v7.Value.Bool == v8.Value.Bool) && ((v7.Value.Text.toList == v8.Value.Text.toList) && true))))))))], [], [], none⟩), (32, ⟨some 48, (D.tup []), [(40, (sc (.bool (!((v7.Value.Kind == v8.Value.Kind) && ((v7.Value.Int == v8.Value.Int) && ((v7.Value.Bool == v8.Value.Bool) && ((v7.Value.Text.toList == v8.Value.Text.toList) && true))))))))], [], [], none⟩), (33, ⟨some 49, (D.tup []), [(40, (sc (.bool (!((v7.Value.Kind == v8.Value.Kind) && ((v7.Value.Int == v8.Value.Int) && ((v7.Value.Bool == v8.Value.Bool) && ((v7.Value.Text.toList == v8.Value.Text.toList) && true))))))))], [], [], none⟩), (34, ⟨some 50, (D.tup []), [(40, (sc (.bool (!((v7.Value.Kind == v8.Value.Kind) && ((v7.Value.Int == v8.Value.Int) && ((v7.Value.Bool == v8.Value.Bool) && ((v7.Value.Text.toList == v8.Value.Text.toList) && true))))))))], [], [], none⟩), (35, ⟨some 51, (D.tup []), [(40, (sc (.bool (!((v7.Value.Kind == v8.Value.Kind) && ((v7.Value.Int == v8.Value.Int) && ((v7.Value.Bool == v8.Value.Bool) && ((v7.Value.Text.toList == v8.Value.Text.toList) && true))))))))], [], [], none⟩), (36, ⟨some 52, (D.tup []), [(40, (sc (.bool (!((v7.Value.Kind == v8.Value.Kind) && ((v7.Value.Int == v8.Value.Int) && ((v7.Value.Bool == v8.Value.Bool) && ((v7.Value.Text.toList == v8.Value.Text.toList) && true))))))))], [], [], none⟩), (37, ⟨some 53, (sc (.bool true)), [(40, (sc (.bool (!((v7.Value.Kind == v8.Value.Kind) && ((v7.Value.Int == v8.Value.Int) && ((v7.Value.Bool == v8.Value.Bool) && ((v7.Value.Text.toList == v8.Value.Text.toList) && true))))))))], [], [], none⟩)] [[], [], [0, 1], [0, 1, 2], [0, 1, 2, 3], [], [], [5, 6], [5, 6, 7], [5, 6, 7, 8], [0, 1, 2, 3, 4, 5, 6, 7, 8, 9], [0, 1, 2, 3, 4, 5, 6, 7, 8, 9, 10], [0, 1, 2, 3, 4, 5, 6, 7, 8, 9, 10, 11], [0, 1, 2, 3, 4, 5, 6, 7, 8, 9, 10, 11], [0, 1, 2, 3, 4, 5, 6, 7, 8, 9, 10, 11, 12, 13], [0, 1, 2, 3, 4, 5, 6, 7, 8, 9, 10, 11, 12, 13, 14], [0, 1, 2, 3, 4, 5, 6, 7, 8, 9, 10, 11, 12, 13, 14, 15], [0, 1, 2, 3, 4, 5, 6, 7, 8, 9, 10, 11], [0, 1, 2, 3, 4, 5, 6, 7, 8, 9, 10, 11], [0, 1, 2, 3, 4, 5, 6, 7, 8, 9, 10, 11, 17, 18], [0, 1, 2, 3, 4, 5, 6, 7, 8, 9, 10, 11, 17, 18, 19], [0, 1, 2, 3, 4, 5, 6, 7, 8, 9, 10, 11, 17, 18, 19, 20], [0, 1, 2, 3, 4, 5, 6, 7, 8, 9, 10, 11, 12, 13, 14, 15, 16, 17, 18, 19, 20, 21], [0, 1, 2, 3, 4, 5, 6, 7, 8, 9, 10, 11, 12, 13, 14, 15, 16, 17, 18, 19, 20, 21, 22], [0, 1, 2, 3, 4, 5, 6, 7, 8, 9, 10, 11, 12, 13, 14, 15, 16, 17, 18, 19, 20, 21, 22, 23], [0, 1, 2, 3, 4, 5, 6, 7, 8, 9, 10, 11, 12, 13, 14, 15, 16, 17, 18, 19, 20, 21, 22, 23, 24], [0, 1, 2, 3, 4, 5, 6, 7, 8, 9, 10, 11, 12, 13, 14, 15, 16, 17, 18, 19, 20, 21, 22, 23, 24], [0, 1, 2, 3, 4, 5, 6, 7, 8, 9, 10, 11, 12, 13, 14, 15, 16, 17, 18, 19, 20, 21, 22, 23, 24, 25, 26], [0, 1, 2, 3, 4, 5, 6, 7, 8, 9, 10, 11, 12, 13, 14, 15, 16, 17, 18, 19, 20, 21, 22, 23, 24, 25, 26, 27], [0, 1, 2, 3, 4, 5, 6, 7, 8, 9, 10, 11, 12, 13, 14, 15, 16, 17, 18, 19, 20, 21, 22, 23, 24, 25, 26, 27, 28], [0, 1, 2, 3, 4, 5, 6, 7, 8, 9, 10, 11, 12, 13, 14, 15, 16, 17, 18, 19, 20, 21, 22, 23, 24], [0, 1, 2, 3, 4, 5, 6, 7, 8, 9, 10, 11, 12, 13, 14, 15, 16, 17, 18, 19, 20, 21, 22, 23, 24], [0, 1, 2, 3, 4, 5, 6, 7, 8, 9, 10, 11, 12, 13, 14, 15, 16, 17, 18, 19, 20, 21, 22, 23, 24, 30, 31], [0, 1, 2, 3, 4, 5, 6, 7, 8, 9, 10, 11, 12, 13, 14, 15, 16, 17, 18, 19, 20, 21, 22, 23, 24, 30, 31, 32], [0, 1, 2, 3, 4, 5, 6, 7, 8, 9, 10, 11, 12, 13, 14, 15, 16, 17, 18, 19, 20, 21, 22, 23, 24, 30, 31, 32, 33], [0, 1, 2, 3, 4, 5, 6, 7, 8, 9, 10, 11, 12, 13, 14, 15, 16, 17, 18, 19, 20, 21, 22, 23, 24, 25, 26, 27, 28, 29, 30, 31, 32, 33, 34], [0, 1, 2, 3, 4, 5, 6, 7, 8, 9, 10, 11, 12, 13, 14, 15, 16, 17, 18, 19, 20, 21, 22, 23, 24, 25, 26, 27, 28, 29, 30, 31, 32, 33, 34, 35], [0, 1, 2, 3, 4, 5, 6, 7, 8, 9, 10, 11, 12, 13, 14, 15, 16, 17, 18, 19, 20, 21, 22, 23, 24, 25, 26, 27, 28, 29, 30, 31, 32, 33, 34, 35, 36]] (nl rfl) [0, 0, 1, 2, 3, 0, 0, 1, 2, 3, 4, 5, 6, 6, 7, 8, 9, 6, 6, 7, 8, 9, 10, 11, 12, 13, 13, 14, 15, 16, 13, 13, 14, 15, 16, 17, 18, 19] rfl (TK := []) rfl AllK.nil' (fC ⟨(sC rfl AllS.nil'), AllH.nil'⟩ (fC ⟨(sC rfl AllS.nil'), AllH.nil'⟩ (fC ⟨(sC rfl (sC rfl AllS.nil')), AllH.nil'⟩ (fC ⟨(sC rfl AllS.nil'), AllH.nil'⟩ (fC ⟨(sC rfl AllS.nil'), AllH.nil'⟩ (fC ⟨(sC rfl AllS.nil'), AllH.nil'⟩ (fC ⟨(sC rfl AllS.nil'), AllH.nil'⟩ (fC ⟨(sC rfl (sC rfl AllS.nil')), AllH.nil'⟩ (fC ⟨(sC rfl AllS.nil'), AllH.nil'⟩ (fC ⟨(sC rfl AllS.nil'), AllH.nil'⟩ (fC ⟨(sC rfl (sC rfl AllS.nil')), AllH.nil'⟩ (fC ⟨(sC rfl AllS.nil'), AllH.nil'⟩ (fC ⟨(sC rfl (sC rfl AllS.nil')), AllH.nil'⟩ (fC ⟨(sC rfl (sC rfl AllS.nil')), AllH.nil'⟩ (fC ⟨(sC rfl (sC rfl (sC rfl AllS.nil'))), AllH.nil'⟩ (fC ⟨(sC rfl (sC rfl AllS.nil')), AllH.nil'⟩ (fC ⟨(sC rfl (sC rfl AllS.nil')), AllH.nil'⟩ (fC ⟨(sC rfl (sC rfl AllS.nil')), AllH.nil'⟩ (fC ⟨(sC rfl (sC rfl AllS.nil')), AllH.nil'⟩ (fC ⟨(sC rfl (sC rfl (sC rfl AllS.nil'))), AllH.nil'⟩ (fC ⟨(sC rfl (sC rfl AllS.nil')), AllH.nil'⟩ (fC ⟨(sC rfl (sC rfl AllS.nil')), AllH.nil'⟩ (fC ⟨(sC rfl (sC rfl (sC rfl AllS.nil'))), AllH.nil'⟩ (fC ⟨(sC rfl (sC rfl AllS.nil')), AllH.nil'⟩ (fC ⟨(sC rfl AllS.nil'), AllH.nil'⟩ (fC ⟨(sC rfl (sC rfl AllS.nil')), AllH.nil'⟩ (fC ⟨(sC rfl AllS.nil'), AllH.nil'⟩ (fC ⟨(sC rfl AllS.nil'), AllH.nil'⟩ (fC ⟨(sC rfl AllS.nil'), AllH.nil'⟩ (fC ⟨(sC rfl AllS.nil'), AllH.nil'⟩ (fC ⟨(sC rfl AllS.nil'), AllH.nil'⟩ (fC ⟨(sC rfl AllS.nil'), AllH.nil'⟩ (fC ⟨(sC rfl AllS.nil'), AllH.nil'⟩ (fC ⟨(sC rfl AllS.nil'), AllH.nil'⟩ (fC ⟨(sC rfl AllS.nil'), AllH.nil'⟩ (fC ⟨(sC rfl AllS.nil'), AllH.nil'⟩ (fC ⟨(sC rfl AllS.nil'), AllH.nil'⟩ (fC ⟨(sC rfl AllS.nil'), AllH.nil'⟩ AllF.nil')))))))))))))))))))))))))))))))))))))) ?_ ?_
      ·refine (pC ?_ (pC ?_ (pC ?_ (pC ?_ (pC ?_ (pC ?_ (pC ?_ (pC ?_ (pC ?_ (pC ?_ (pC ?_ (pC ?_ (pC ?_ (pC ?_ (pC ?_ (pC ?_ (pC ?_ (pC ?_ (pC ?_ (pC ?_ (pC ?_ (pC ?_ (pC ?_ (pC ?_ (pC ?_ (pC ?_ (pC ?_ (pC ?_ (pC ?_ (pC ?_ (pC ?_ (pC ?_ (pC ?_ (pC ?_ (pC ?_ (pC ?_ (pC ?_ (pC ?_ AllStep.nil'))))))))))))))))))))))))))))))))))))))
       ·intro K rest fr hv htk k
        show AWops _ x _ _ K ⟨55, (upd 55 fr 0 (D.one (C.p false (.sl a0.length (a0.flatMap e_api_Doc))))), _⟩
        refine s_move (d := (D.one (C.p false (.sl a0.length (a0.flatMap e_api_Doc))))) rfl k
       ·intro K rest fr hv htk k
        show AWops _ x _ _ K ⟨55, (upd 55 fr 5 (sc (.int .i64 x2))), _⟩
        refine s_move (d := (sc (.int .i64 x2))) rfl k
       ·intro K rest fr hv htk k
        show AWops _ x _ _ K ⟨55, (upd 55 (upd 55 fr 17 (sc (.int .i64 x2))) 16 (D.one (C.p false (.sl a0.length (a0.flatMap e_api_Doc))))), [(hv 0)]⟩
        refine s_indexImm (ps := (p_api_Doc v4)) F.u_23 F.sz_44 rfl rfl pv4 qv4 (flat_at e_api_Doc_len gv4 (e_api_Doc_eq v4)) k
       ·intro K rest fr hv htk k
        show AWops _ x _ _ K ⟨55, (upd 55 fr 18 (D.one (C.peek false (p_api_Doc v4)))), [(hv 0)]⟩
        refine s_fieldPeek (qs := (p_api_Doc v4)) F.fo_44_0 (by decide) rfl rfl k
       ·intro K rest fr hv htk k
        show AWops _ x _ _ K ⟨55, (upd 55 fr 19 (D.one (C.peek false (p_api_Doc v4)))), [(hv 0)]⟩
        refine s_load1 (c' := (C.p true (.v (.string v4.Path)))) F.ag_9 rfl rfl k
       ·intro K rest fr hv htk k
        show AWops _ x _ _ K ⟨55, (upd 55 fr 1 (D.one (C.p false (.sl a1.length (a1.flatMap e_api_Doc))))), _⟩
        refine s_move (d := (D.one (C.p false (.sl a1.length (a1.flatMap e_api_Doc))))) rfl k
       ·intro K rest fr hv htk k
        show AWops _ x _ _ K ⟨55, (upd 55 fr 5 (sc (.int .i64 x2))), _⟩
        refine s_move (d := (sc (.int .i64 x2))) rfl k
       ·intro K rest fr hv htk k
        show AWops _ x _ _ K ⟨55, (upd 55 (upd 55 fr 22 (sc (.int .i64 x2))) 21 (D.one (C.p false (.sl a1.length (a1.flatMap e_api_Doc))))), [(hv 0)]⟩
        refine s_indexImm (ps := (p_api_Doc v5)) F.u_23 F.sz_44 rfl rfl pv5 qv5 (flat_at e_api_Doc_len gv5 (e_api_Doc_eq v5)) k
       ·intro K rest fr hv htk k
        show AWops _ x _ _ K ⟨55, (upd 55 fr 23 (D.one (C.peek false (p_api_Doc v5)))), [(hv 0)]⟩
        refine s_fieldPeek (qs := (p_api_Doc v5)) F.fo_44_0 (by decide) rfl rfl k
       ·intro K rest fr hv htk k
        show AWops _ x _ _ K ⟨55, (upd 55 fr 24 (D.one (C.peek false (p_api_Doc v5)))), [(hv 0)]⟩
        refine s_load1 (c' := (C.p true (.v (.string v5.Path)))) F.ag_9 rfl rfl k
       ·intro K rest fr hv htk k
        show AWops _ x _ _ K ⟨55, (upd 55 (upd 55 fr 25 (sc (.string v5.Path))) 20 (sc (.string v4.Path))), [(hv 0)]⟩
        refine s_binS (v := (.bool (!(v4.Path.toList == v5.Path.toList)))) rfl rfl rfl k
       ·intro K rest fr hv htk k
        show AWops _ x _ _ K ⟨55, (upd 55 fr 26 (sc (.bool (!(v4.Path.toList == v5.Path.toList))))), _⟩
        refine s_move (d := (sc (.bool (!(v4.Path.toList == v5.Path.toList))))) rfl k
       ·intro K rest fr hv htk k
        show AWops _ x _ _ K ⟨55, (upd 55 (upd 55 fr 27 (sc (.bool (!(v4.Path.toList == v5.Path.toList))))) 0 (D.one (C.p false (.sl a0.length (a0.flatMap e_api_Doc))))), _⟩
        refine AWops.guard_yes rfl (nl rfl) rfl (by rw [c6] <;> rfl) ?_
        refine s_move (d := (D.one (C.p false (.sl a0.length (a0.flatMap e_api_Doc))))) rfl k
       ·intro K rest fr hv htk k
        show AWops _ x _ _ K ⟨55, (upd 55 (upd 55 fr 27 (sc (.bool (!(v4.Path.toList == v5.Path.toList))))) 5 (sc (.int .i64 x2))), _⟩
        refine AWops.guard_yes rfl (nl rfl) rfl (by rw [c6] <;> rfl) ?_
        refine s_move (d := (sc (.int .i64 x2))) rfl k
       ·intro K rest fr hv htk k
        show AWops _ x _ _ K ⟨55, (upd 55 (upd 55 (upd 55 fr 29 (sc (.int .i64 x2))) 28 (D.one (C.p false (.sl a0.length (a0.flatMap e_api_Doc))))) 27 (sc (.bool (!(v4.Path.toList == v5.Path.toList))))), [(hv 0)]⟩
        refine AWops.guard_yes rfl (nl rfl) rfl (by rw [c6] <;> rfl) ?_
        refine s_indexImm (ps := (p_api_Doc v7)) F.u_23 F.sz_44 rfl rfl pv7 qv7 (flat_at e_api_Doc_len gv7 (e_api_Doc_eq v7)) k
       ·intro K rest fr hv htk k
        show AWops _ x _ _ K ⟨55, (upd 55 (upd 55 fr 30 (D.one (C.peek false (p_api_Doc v7)))) 27 (sc (.bool (!(v4.Path.toList == v5.Path.toList))))), [(hv 0)]⟩
        refine AWops.guard_yes rfl (nl rfl) rfl (by rw [c6] <;> rfl) ?_
        refine s_fieldPeek (qs := [P.v (.int .i64 v7.Value.Kind), P.v (.int .i64 v7.Value.Int), P.v (.bool v7.Value.Bool), P.v (.string v7.Value.Text), P.sl v7.Refs.length (v7.Refs.flatMap e_str)]) F.fo_44_1 (by decide) rfl rfl k
       ·intro K rest fr hv htk k
        show AWops _ x _ _ K ⟨55, (upd 55 (upd 55 fr 31 (D.one (C.peek false [P.v (.int .i64 v7.Value.Kind), P.v (.int .i64 v7.Value.Int), P.v (.bool v7.Value.Bool), P.v (.string v7.Value.Text), P.sl v7.Refs.length (v7.Refs.flatMap e_str)]))) 27 (sc (.bool (!(v4.Path.toList == v5.Path.toList))))), [(hv 0)]⟩
        refine AWops.guard_yes rfl (nl rfl) rfl (by rw [c6] <;> rfl) ?_
        refine s_loadN (ds := (c_api_Value v7.Value)) F.ag_41 F.sz_41 rfl rfl rfl k
       ·intro K rest fr hv htk k
        show AWops _ x _ _ K ⟨55, (upd 55 (upd 55 fr 27 (sc (.bool (!(v4.Path.toList == v5.Path.toList))))) 1 (D.one (C.p false (.sl a1.length (a1.flatMap e_api_Doc))))), _⟩
        refine AWops.guard_yes rfl (nl rfl) rfl (by rw [c6] <;> rfl) ?_
        refine s_move (d := (D.one (C.p false (.sl a1.length (a1.flatMap e_api_Doc))))) rfl k
       ·intro K rest fr hv htk k
        show AWops _ x _ _ K ⟨55, (upd 55 (upd 55 fr 27 (sc (.bool (!(v4.Path.toList == v5.Path.toList))))) 5 (sc (.int .i64 x2))), _⟩
        refine AWops.guard_yes rfl (nl rfl) rfl (by rw [c6] <;> rfl) ?_
        refine s_move (d := (sc (.int .i64 x2))) rfl k
       ·intro K rest fr hv htk k
        show AWops _ x _ _ K ⟨55, (upd 55 (upd 55 (upd 55 fr 34 (sc (.int .i64 x2))) 33 (D.one (C.p false (.sl a1.length (a1.flatMap e_api_Doc))))) 27 (sc (.bool (!(v4.Path.toList == v5.Path.toList))))), [(hv 0)]⟩
        refine AWops.guard_yes rfl (nl rfl) rfl (by rw [c6] <;> rfl) ?_
        refine s_indexImm (ps := (p_api_Doc v8)) F.u_23 F.sz_44 rfl rfl pv8 qv8 (flat_at e_api_Doc_len gv8 (e_api_Doc_eq v8)) k
       ·intro K rest fr hv htk k
        show AWops _ x _ _ K ⟨55, (upd 55 (upd 55 fr 35 (D.one (C.peek false (p_api_Doc v8)))) 27 (sc (.bool (!(v4.Path.toList == v5.Path.toList))))), [(hv 0)]⟩
        refine AWops.guard_yes rfl (nl rfl) rfl (by rw [c6] <;> rfl) ?_
        refine s_fieldPeek (qs := [P.v (.int .i64 v8.Value.Kind), P.v (.int .i64 v8.Value.Int), P.v (.bool v8.Value.Bool), P.v (.string v8.Value.Text), P.sl v8.Refs.length (v8.Refs.flatMap e_str)]) F.fo_44_1 (by decide) rfl rfl k
       ·intro K rest fr hv htk k
        show AWops _ x _ _ K ⟨55, (upd 55 (upd 55 fr 36 (D.one (C.peek false [P.v (.int .i64 v8.Value.Kind), P.v (.int .i64 v8.Value.Int), P.v (.bool v8.Value.Bool), P.v (.string v8.Value.Text), P.sl v8.Refs.length (v8.Refs.flatMap e_str)]))) 27 (sc (.bool (!(v4.Path.toList == v5.Path.toList))))), [(hv 0)]⟩
        refine AWops.guard_yes rfl (nl rfl) rfl (by rw [c6] <;> rfl) ?_
        refine s_loadN (ds := (c_api_Value v8.Value)) F.ag_41 F.sz_41 rfl rfl rfl k
       ·intro K rest fr hv htk k
        show AWops _ x _ _ K ⟨55, (upd 55 (upd 55 (upd 55 fr 37 (D.agg (c_api_Value v8.Value))) 32 (D.agg (c_api_Value v7.Value))) 27 (sc (.bool (!(v4.Path.toList == v5.Path.toList))))), [(hv 0)]⟩
        refine AWops.guard_yes rfl (nl rfl) rfl (by rw [c6] <;> rfl) ?_
        refine s_binA (b := ((v7.Value.Kind == v8.Value.Kind) && ((v7.Value.Int == v8.Value.Int) && ((v7.Value.Bool == v8.Value.Bool) && ((v7.Value.Text.toList == v8.Value.Text.toList) && true))))) F.ff_41 rfl rfl rfl (.inr rfl) k
       ·intro K rest fr hv htk k
        show AWops _ x _ _ K ⟨55, (upd 55 (upd 55 fr 38 (sc (.bool (!((v7.Value.Kind == v8.Value.Kind) && ((v7.Value.Int == v8.Value.Int) && ((v7.Value.Bool == v8.Value.Bool) && ((v7.Value.Text.toList == v8.Value.Text.toList) && true)))))))) 27 (sc (.bool (!(v4.Path.toList == v5.Path.toList))))), _⟩
        refine s_pick_no (d := (sc (.bool (!((v7.Value.Kind == v8.Value.Kind) && ((v7.Value.Int == v8.Value.Int) && ((v7.Value.Bool == v8.Value.Bool) && ((v7.Value.Text.toList == v8.Value.Text.toList) && true)))))))) rfl (by rw [c6] <;> rfl) rfl k
       ·intro K rest fr hv htk k
        show AWops _ x _ _ K ⟨55, (upd 55 fr 39 (sc (.bool (!((v7.Value.Kind == v8.Value.Kind) && ((v7.Value.Int == v8.Value.Int) && ((v7.Value.Bool == v8.Value.Bool) && ((v7.Value.Text.toList == v8.Value.Text.toList) && true)))))))), _⟩
        refine s_move (d := (sc (.bool (!((v7.Value.Kind == v8.Value.Kind) && ((v7.Value.Int == v8.Value.Int) && ((v7.Value.Bool == v8.Value.Bool) && ((v7.Value.Text.toList == v8.Value.Text.toList) && true)))))))) rfl k
       ·intro K rest fr hv htk k
        show AWops _ x _ _ K ⟨55, (upd 55 (upd 55 fr 40 (sc (.bool (!((v7.Value.Kind == v8.Value.Kind) && ((v7.Value.Int == v8.Value.Int) && ((v7.Value.Bool == v8.Value.Bool) && ((v7.Value.Text.toList == v8.Value.Text.toList) && true)))))))) 0 (D.one (C.p false (.sl a0.length (a0.flatMap e_api_Doc))))), _⟩
        refine AWops.guard_no rfl (nl rfl) rfl (by rw [c9] <;> rfl) k
       ·intro K rest fr hv htk k
        show AWops _ x _ _ K ⟨55, (upd 55 fr 40 (sc (.bool (!((v7.Value.Kind == v8.Value.Kind) && ((v7.Value.Int == v8.Value.Int) && ((v7.Value.Bool == v8.Value.Bool) && ((v7.Value.Text.toList == v8.Value.Text.toList) && true)))))))), _⟩
        refine AWops.guard_no rfl (nl rfl) rfl (by rw [c9] <;> rfl) k
       ·intro K rest fr hv htk k
        show AWops _ x _ _ K ⟨55, (upd 55 fr 40 (sc (.bool (!((v7.Value.Kind == v8.Value.Kind) && ((v7.Value.Int == v8.Value.Int) && ((v7.Value.Bool == v8.Value.Bool) && ((v7.Value.Text.toList == v8.Value.Text.toList) && true)))))))), _⟩
        refine AWops.guard_no rfl (nl rfl) rfl (by rw [c9] <;> rfl) k
       ·intro K rest fr hv htk k
        show AWops _ x _ _ K ⟨55, (upd 55 fr 40 (sc (.bool (!((v7.Value.Kind == v8.Value.Kind) && ((v7.Value.Int == v8.Value.Int) && ((v7.Value.Bool == v8.Value.Bool) && ((v7.Value.Text.toList == v8.Value.Text.toList) && true)))))))), _⟩
        refine AWops.guard_no rfl (nl rfl) rfl (by rw [c9] <;> rfl) k
       ·intro K rest fr hv htk k
        show AWops _ x _ _ K ⟨55, (upd 55 fr 40 (sc (.bool (!((v7.Value.Kind == v8.Value.Kind) && ((v7.Value.Int == v8.Value.Int) && ((v7.Value.Bool == v8.Value.Bool) && ((v7.Value.Text.toList == v8.Value.Text.toList) && true)))))))), _⟩
        refine AWops.guard_no rfl (nl rfl) rfl (by rw [c9] <;> rfl) k
       ·intro K rest fr hv htk k
        show AWops _ x _ _ K ⟨55, (upd 55 fr 40 (sc (.bool (!((v7.Value.Kind == v8.Value.Kind) && ((v7.Value.Int == v8.Value.Int) && ((v7.Value.Bool == v8.Value.Bool) && ((v7.Value.Text.toList == v8.Value.Text.toList) && true)))))))), _⟩
        refine AWops.guard_no rfl (nl rfl) rfl (by rw [c9] <;> rfl) k
       ·intro K rest fr hv htk k
        show AWops _ x _ _ K ⟨55, (upd 55 fr 40 (sc (.bool (!((v7.Value.Kind == v8.Value.Kind) && ((v7.Value.Int == v8.Value.Int) && ((v7.Value.Bool == v8.Value.Bool) && ((v7.Value.Text.toList == v8.Value.Text.toList) && true)))))))), _⟩
        refine AWops.guard_no rfl (nl rfl) rfl (by rw [c9] <;> rfl) k
       ·intro K rest fr hv htk k
        show AWops _ x _ _ K ⟨55, (upd 55 fr 40 (sc (.bool (!((v7.Value.Kind == v8.Value.Kind) && ((v7.Value.Int == v8.Value.Int) && ((v7.Value.Bool == v8.Value.Bool) && ((v7.Value.Text.toList == v8.Value.Text.toList) && true)))))))), _⟩
        refine AWops.guard_no rfl (nl rfl) rfl (by rw [c9] <;> rfl) k
       ·intro K rest fr hv htk k
        show AWops _ x _ _ K ⟨55, (upd 55 fr 40 (sc (.bool (!((v7.Value.Kind == v8.Value.Kind) && ((v7.Value.Int == v8.Value.Int) && ((v7.Value.Bool == v8.Value.Bool) && ((v7.Value.Text.toList == v8.Value.Text.toList) && true)))))))), _⟩
        refine AWops.guard_no rfl (nl rfl) rfl (by rw [c9] <;> rfl) k
       ·intro K rest fr hv htk k
        show AWops _ x _ _ K ⟨55, (upd 55 fr 40 (sc (.bool (!((v7.Value.Kind == v8.Value.Kind) && ((v7.Value.Int == v8.Value.Int) && ((v7.Value.Bool == v8.Value.Bool) && ((v7.Value.Text.toList == v8.Value.Text.toList) && true)))))))), _⟩
        refine AWops.guard_no rfl (nl rfl) rfl (by rw [c9] <;> rfl) k
       ·intro K rest fr hv htk k
        show AWops _ x _ _ K ⟨55, (upd 55 fr 40 (sc (.bool (!((v7.Value.Kind == v8.Value.Kind) && ((v7.Value.Int == v8.Value.Int) && ((v7.Value.Bool == v8.Value.Bool) && ((v7.Value.Text.toList == v8.Value.Text.toList) && true)))))))), _⟩
        refine AWops.guard_no rfl (nl rfl) rfl (by rw [c9] <;> rfl) k
       ·intro K rest fr hv htk k
        show AWops _ x _ _ K ⟨55, (upd 55 fr 40 (sc (.bool (!((v7.Value.Kind == v8.Value.Kind) && ((v7.Value.Int == v8.Value.Int) && ((v7.Value.Bool == v8.Value.Bool) && ((v7.Value.Text.toList == v8.Value.Text.toList) && true)))))))), _⟩
        refine AWops.guard_no rfl (nl rfl) rfl (by rw [c9] <;> rfl) k
       ·intro K rest fr hv htk k
        show AWops _ x _ _ K ⟨55, (upd 55 fr 40 (sc (.bool (!((v7.Value.Kind == v8.Value.Kind) && ((v7.Value.Int == v8.Value.Int) && ((v7.Value.Bool == v8.Value.Bool) && ((v7.Value.Text.toList == v8.Value.Text.toList) && true)))))))), _⟩
        refine s_pick_yes (d := (sc (.bool true))) rfl (by rw [c9] <;> rfl) rfl k
      ·refine AWops.weak (st' := ⟨55, (upd 55 (upd 55 (upd 55 (upd 55 (upd 55 (upd 55 (upd 55 (upd 55 (upd 55 (upd 55 (upd 55 (upd 55 (upd 55 (upd 55 (upd 55 (upd 55 (upd 55 (upd 55 (upd 55 (upd 55 (upd 55 (upd 55 (upd 55 (upd 55 (upd 55 (upd 55 (upd 55 (upd 55 topF 0 (D.one (C.p false (.sl a0.length (a0.flatMap e_api_Doc))))) 1 (D.one (C.p false (.sl a1.length (a1.flatMap e_api_Doc))))) 12 (sc (.int .i64 (a0.length : Int)))) 13 (sc (.int .i64 x2))) 28 (D.one (C.p false (.sl a0.length (a0.flatMap e_api_Doc))))) 29 (sc (.int .i64 x2))) 30 (D.one (C.peek false (p_api_Doc v7)))) 31 (D.one (C.peek false [P.v (.int .i64 v7.Value.Kind), P.v (.int .i64 v7.Value.Int), P.v (.bool v7.Value.Bool), P.v (.string v7.Value.Text), P.sl v7.Refs.length (v7.Refs.flatMap e_str)]))) 32 (D.agg (c_api_Value v7.Value))) 33 (D.one (C.p false (.sl a1.length (a1.flatMap e_api_Doc))))) 34 (sc (.int .i64 x2))) 35 (D.one (C.peek false (p_api_Doc v8)))) 36 (D.one (C.peek false [P.v (.int .i64 v8.Value.Kind), P.v (.int .i64 v8.Value.Int), P.v (.bool v8.Value.Bool), P.v (.string v8.Value.Text), P.sl v8.Refs.length (v8.Refs.flatMap e_str)]))) 37 (D.agg (c_api_Value v8.Value))) 38 (sc (.bool (!((v7.Value.Kind == v8.Value.Kind) && ((v7.Value.Int == v8.Value.Int) && ((v7.Value.Bool == v8.Value.Bool) && ((v7.Value.Text.toList == v8.Value.Text.toList) && true)))))))) 41 (D.tup [])) 42 (D.tup [])) 43 (D.tup [])) 44 (D.tup [])) 45 (D.tup [])) 46 (D.tup [])) 47 (D.tup [])) 48 (D.tup [])) 49 (D.tup [])) 50 (D.tup [])) 51 (D.tup [])) 52 (D.tup [])) 53 (sc (.bool true))), []⟩) (Weak.gen (kk := 0) [] [] hx rfl (by decide) (by decide) rfl rfl rfl (le_upd (le_upd (le_upd (le_upd (le_upd (le_upd (le_upd (le_upd (le_upd (le_upd (le_upd (le_upd (le_upd (le_upd (le_upd (le_upd (le_upd (le_upd (le_upd (le_upd (le_upd (le_upd (le_upd (le_upd (le_upd (le_upd (le_upd (le_upd (le_top _) (.t (.one .same))) (.t (.one .same))) (.t (.one .sc))) (.t (.one .sc))) (.t (.one .same))) (.t (.one .sc))) (.t (.one .peek))) (.t (.one .peek))) (.t (.agg (ac .sc (ac .sc (ac .sc (ac .sc an))))))) (.t (.one .same))) (.t (.one .sc))) (.t (.one .peek))) (.t (.one .peek))) (.t (.agg (ac .sc (ac .sc (ac .sc (ac .sc an))))))) (.t (.one .sc))) (DLe.tup an)) (DLe.tup an)) (DLe.tup an)) (DLe.tup an)) (DLe.tup an)) (DLe.tup an)) (DLe.tup an)) (DLe.tup an)) (DLe.tup an)) (DLe.tup an)) (DLe.tup an)) (DLe.tup an)) (.t (.one .sc))) an) (AWops.nil ?_)
       refine AW.cond_yes rfl rfl (AW.seq (AW.region ?_))
       refine s_assign (d := (sc (.bool false))) rfl (AWops.nil (AW.ret ?_))
       obtain rfl := Option.some.inj h
       exact ⟨_, rfl, (Weak.gen (kk := 0) [] [] rfl rfl (by decide) (by decide) rfl rfl rfl (le_upd (le_top _) (.t (.one .sc))) an)⟩
    ·refine AW.draw (n := 55) (L := 1) [(0, ⟨some 16, (D.one (C.p false (.sl a0.length (a0.flatMap e_api_Doc)))), [(0, (D.one (C.p false (.sl a0.length (a0.flatMap e_api_Doc)))))], [], [], none⟩), (1, ⟨some 17, (sc (.int .i64 x2)), [(5, (sc (.int .i64 x2)))], [], [], none⟩), (2, ⟨some 18, (D.one (C.peek false (p_api_Doc v4))), [(16, (D.one (C.p false (.sl a0.length (a0.flatMap e_api_Doc))))), (17, (sc (.int .i64 x2)))], [], [], none⟩), (3, ⟨some 19, (D.one (C.peek false (p_api_Doc v4))), [(18, (D.one (C.peek false (p_api_Doc v4))))], [], [], none⟩), (4, ⟨some 20, (sc (.string v4.Path)), [(19, (D.one (C.peek false (p_api_Doc v4))))], [], [], none⟩), (5, ⟨some 21, (D.one (C.p false (.sl a1.length (a1.flatMap e_api_Doc)))), [(1, (D.one (C.p false (.sl a1.length (a1.flatMap e_api_Doc)))))], [], [], none⟩), (6, ⟨some 22, (sc (.int .i64 x2)), [(5, (sc (.int .i64 x2)))], [], [], none⟩), (7, ⟨some 23, (D.one (C.peek false (p_api_Doc v5))), [(21, (D.one (C.p false (.sl a1.length (a1.flatMap e_api_Doc))))), (22, (sc (.int .i64 x2)))], [], [], none⟩), (8, ⟨some 24, (D.one (C.peek false (p_api_Doc v5))), [(23, (D.one (C.peek false (p_api_Doc v5))))], [], [], none⟩), (9, ⟨some 25, (sc (.string v5.Path)), [(24, (D.one (C.peek false (p_api_Doc v5))))], [], [], none⟩), (10, ⟨some 26, (sc (.bool (!(v4.Path.toList == v5.Path.toList)))), [(20, (sc (.string v4.Path))), (25, (sc (.string v5.Path)))], [], [], none⟩), (11, ⟨some 27, (sc (.bool (!(v4.Path.toList == v5.Path.toList)))), [(26, (sc (.bool (!(v4.Path.toList == v5.Path.toList)))))], [], [], none⟩), (12, ⟨some 28, (D.tup []), [(0, (D.one (C.p false (.sl a0.length (a0.flatMap e_api_Doc))))), (27, (sc (.bool (!(v4.Path.toList == v5.Path.toList)))))], [], [], none⟩), (13, ⟨some 29, (D.tup []), [(27, (sc (.bool (!(v4.Path.toList == v5.Path.toList)))))], [], [], none⟩), (14, ⟨some 30, (D.tup []), [(27, (sc (.bool (!(v4.Path.toList == v5.Path.toList)))))], [], [], none⟩), (15, ⟨some 31, (D.tup []), [(27, (sc (.bool (!(v4.Path.toList == v5.Path.toList)))))], [], [], none⟩), (16, ⟨some 32, (D.tup []), [(27, (sc (.bool (!(v4.Path.toList == v5.Path.toList)))))], [], [], none⟩), (17, ⟨some 33, (D.tup []), [(27, (sc (.bool (!(v4.Path.toList == v5.Path.toList)))))], [], [], none⟩), (18, ⟨some 34, (D.tup []), [(27, (sc (.bool (!(v4.Path.toList == v5.Path.toList)))))], [], [], none⟩), (19, ⟨some 35, (D.tup []), [(27, (sc (.bool (!(v4.Path.toList == v5.Path.toList)))))], [], [], none⟩), (20, ⟨some 36, (D.tup []), [(27, (sc (.bool (!(v4.Path.toList == v5.Path.toList)))))], [], [], none⟩), (21, ⟨some 37, (D.tup []), [(27, (sc (.bool (!(v4.Path.toList == v5.Path.toList)))))], [], [], none⟩), (22, ⟨some 38, (D.tup []), [(27, (sc (.bool (!(v4.Path.toList == v5.Path.toList)))))], [], [], none⟩), (23, ⟨some 39, (sc (.bool true)), [(27, (sc (.bool (!(v4.Path.toList == v5.Path.toList)))))], [], [], none⟩), (24, ⟨some 40, (sc (.bool true)), [(39, (sc (.bool true)))], [], [], none⟩), (25, ⟨some 41, (D.tup []), [(40, (sc (.bool true)))], [], [], none⟩), (26, ⟨some 42, (D.tup []), [(40, (sc (.bool true)))], [], [], none⟩), (27, ⟨some 43, (D.tup []), [(40, (sc (.bool true)))], [], [], none⟩), (28, ⟨some 44, (D.tup []), [(40, (sc (.bool true)))], [], [], none⟩), (29, ⟨some 45, (D.tup []), [(40, (sc (.bool true)))], [], [], none⟩), (30, ⟨some 46, (D.tup []), [(40, (sc (.bool true)))], [], [], none⟩), (31, ⟨some 47, (D.tup []), [(40, (sc (.bool true)))], [], [], none⟩), (32, ⟨some 48, (D.tup []), [(40, (sc (.bool true)))], [], [], none⟩), (33, ⟨some 49, (D.tup []), [(40, (sc (.bool true)))], [], [], none⟩), (34, ⟨some 50, (D.tup []), [(40, (sc (.bool true)))], [], [], none⟩), (35, ⟨some 51, (D.tup []), [(40, (sc (.bool true)))], [], [], none⟩), (36, ⟨some 52, (D.tup []), [(40, (sc (.bool true)))], [], [], none⟩), (37, ⟨some 53, (sc (.bool true)), [(40, (sc (.bool true)))], [], [], none⟩)] [[], [], [0, 1], [0, 1, 2], [0, 1, 2, 3], [], [], [5, 6], [5, 6, 7], [5, 6, 7, 8], [0, 1, 2, 3, 4, 5, 6, 7, 8, 9], [0, 1, 2, 3, 4, 5, 6, 7, 8, 9, 10], [0, 1, 2, 3, 4, 5, 6, 7, 8, 9, 10, 11], [0, 1, 2, 3, 4, 5, 6, 7, 8, 9, 10, 11], [0, 1, 2, 3, 4, 5, 6, 7, 8, 9, 10, 11, 12, 13], [0, 1, 2, 3, 4, 5, 6, 7, 8, 9, 10, 11, 12, 13, 14], [0, 1, 2, 3, 4, 5, 6, 7, 8, 9, 10, 11, 12, 13, 14, 15], [0, 1, 2, 3, 4, 5, 6, 7, 8, 9, 10, 11], [0, 1, 2, 3, 4, 5, 6, 7, 8, 9, 10, 11], [0, 1, 2, 3, 4, 5, 6, 7, 8, 9, 10, 11, 17, 18], [0, 1, 2, 3, 4, 5, 6, 7, 8, 9, 10, 11, 17, 18, 19], [0, 1, 2, 3, 4, 5, 6, 7, 8, 9, 10, 11, 17, 18, 19, 20], [0, 1, 2, 3, 4, 5, 6, 7, 8, 9, 10, 11, 12, 13, 14, 15, 16, 17, 18, 19, 20, 21], [0, 1, 2, 3, 4, 5, 6, 7, 8, 9, 10, 11, 12, 13, 14, 15, 16, 17, 18, 19, 20, 21, 22], [0, 1, 2, 3, 4, 5, 6, 7, 8, 9, 10, 11, 12, 13, 14, 15, 16, 17, 18, 19, 20, 21, 22, 23], [0, 1, 2, 3, 4, 5, 6, 7, 8, 9, 10, 11, 12, 13, 14, 15, 16, 17, 18, 19, 20, 21, 22, 23, 24], [0, 1, 2, 3, 4, 5, 6, 7, 8, 9, 10, 11, 12, 13, 14, 15, 16, 17, 18, 19, 20, 21, 22, 23, 24], [0, 1, 2, 3, 4, 5, 6, 7, 8, 9, 10, 11, 12, 13, 14, 15, 16, 17, 18, 19, 20, 21, 22, 23, 24, 25, 26], [0, 1, 2, 3, 4, 5, 6, 7, 8, 9, 10, 11, 12, 13, 14, 15, 16, 17, 18, 19, 20, 21, 22, 23, 24, 25, 26, 27], [0, 1, 2, 3, 4, 5, 6, 7, 8, 9, 10, 11, 12, 13, 14, 15, 16, 17, 18, 19, 20, 21, 22, 23, 24, 25, 26, 27, 28], [0, 1, 2, 3, 4, 5, 6, 7, 8, 9, 10, 11, 12, 13, 14, 15, 16, 17, 18, 19, 20, 21, 22, 23, 24], [0, 1, 2, 3, 4, 5, 6, 7, 8, 9, 10, 11, 12, 13, 14, 15, 16, 17, 18, 19, 20, 21, 22, 23, 24], [0, 1, 2, 3, 4, 5, 6, 7, 8, 9, 10, 11, 12, 13, 14, 15, 16, 17, 18, 19, 20, 21, 22, 23, 24, 30, 31], [0, 1, 2, 3, 4, 5, 6, 7, 8, 9, 10, 11, 12, 13, 14, 15, 16, 17, 18, 19, 20, 21, 22, 23, 24, 30, 31, 32], [0, 1, 2, 3, 4, 5, 6, 7, 8, 9, 10, 11, 12, 13, 14, 15, 16, 17, 18, 19, 20, 21, 22, 23, 24, 30, 31, 32, 33], [0, 1, 2, 3, 4, 5, 6, 7, 8, 9, 10, 11, 12, 13, 14, 15, 16, 17, 18, 19, 20, 21, 22, 23, 24, 25, 26, 27, 28, 29, 30, 31, 32, 33, 34], [0, 1, 2, 3, 4, 5, 6, 7, 8, 9, 10, 11, 12, 13, 14, 15, 16, 17, 18, 19, 20, 21, 22, 23, 24, 25, 26, 27, 28, 29, 30, 31, 32, 33, 34, 35], [0, 1, 2, 3, 4, 5, 6, 7, 8, 9, 10, 11, 12, 13, 14, 15, 16, 17, 18, 19, 20, 21, 22, 23, 24, 25, 26, 27, 28, 29, 30, 31, 32, 33, 34, 35, 36]] (nl rfl) [0, 0, 1, 2, 3, 0, 0, 1, 2, 3, 4, 5, 6, 6, 7, 8, 9, 6, 6, 7, 8, 9, 10, 11, 12, 13, 13, 14, 15, 16, 13, 13, 14, 15, 16, 17, 18, 19] rfl (TK := []) rfl AllK.nil' (fC ⟨(sC rfl AllS.nil'), AllH.nil'⟩ (fC ⟨(sC rfl AllS.nil'), AllH.nil'⟩ (fC ⟨(sC rfl (sC rfl AllS.nil')), AllH.nil'⟩ (fC ⟨(sC rfl AllS.nil'), AllH.nil'⟩ (fC ⟨(sC rfl AllS.nil'), AllH.nil'⟩ (fC ⟨(sC rfl AllS.nil'), AllH.nil'⟩ (fC ⟨(sC rfl AllS.nil'), AllH.nil'⟩ (fC ⟨(sC rfl (sC rfl AllS.nil')), AllH.nil'⟩ (fC ⟨(sC rfl AllS.nil'), AllH.nil'⟩ (fC ⟨(sC rfl AllS.nil'), AllH.nil'⟩ (fC ⟨(sC rfl (sC rfl AllS.nil')), AllH.nil'⟩ (fC ⟨(sC rfl AllS.nil'), AllH.nil'⟩ (fC ⟨(sC rfl (sC rfl AllS.nil')), AllH.nil'⟩ (fC ⟨(sC rfl AllS.nil'), AllH.nil'⟩ (fC ⟨(sC rfl AllS.nil'), AllH.nil'⟩ (fC ⟨(sC rfl AllS.nil'), AllH.nil'⟩ (fC ⟨(sC rfl AllS.nil'), AllH.nil'⟩ (fC ⟨(sC rfl AllS.nil'), AllH.nil'⟩ (fC ⟨(sC rfl AllS.nil'), AllH.nil'⟩ (fC ⟨(sC rfl AllS.nil'), AllH.nil'⟩ (fC ⟨(sC rfl AllS.nil'), AllH.nil'⟩ (fC ⟨(sC rfl AllS.nil'), AllH.nil'⟩ (fC ⟨(sC rfl AllS.nil'), AllH.nil'⟩ (fC ⟨(sC rfl AllS.nil'), AllH.nil'⟩ (fC ⟨(sC rfl AllS.nil'), AllH.nil'⟩ (fC ⟨(sC rfl AllS.nil'), AllH.nil'⟩ (fC ⟨(sC rfl AllS.nil'), AllH.nil'⟩ (fC ⟨(sC rfl AllS.nil'), AllH.nil'⟩ (fC ⟨(sC rfl AllS.nil'), AllH.nil'⟩ (fC ⟨(sC rfl AllS.nil'), AllH.nil'⟩ (fC ⟨(sC rfl AllS.nil'), AllH.nil'⟩ (fC ⟨(sC rfl AllS.nil'), AllH.nil'⟩ (fC ⟨(sC rfl AllS.nil'), AllH.nil'⟩ (fC ⟨(sC rfl AllS.nil'), AllH.nil'⟩ (fC ⟨(sC rfl AllS.nil'), AllH.nil'⟩ (fC ⟨(sC rfl AllS.nil'), AllH.nil'⟩ (fC ⟨(sC rfl AllS.nil'), AllH.nil'⟩ (fC ⟨(sC rfl AllS.nil'), AllH.nil'⟩ AllF.nil')))))))))))))))))))))))))))))))))))))) ?_ ?_
     ·refine (pC ?_ (pC ?_ (pC ?_ (pC ?_ (pC ?_ (pC ?_ (pC ?_ (pC ?_ (pC ?_ (pC ?_ (pC ?_ (pC ?_ (pC ?_ (pC ?_ (pC ?_ (pC ?_ (pC ?_ (pC ?_ (pC ?_ (pC ?_ (pC ?_ (pC ?_ (pC ?_ (pC ?_ (pC ?_ (pC ?_ (pC ?_ (pC ?_ (pC ?_ (pC ?_ (pC ?_ (pC ?_ (pC ?_ (pC ?_ (pC ?_ (pC ?_ (pC ?_ (pC ?_ AllStep.nil'))))))))))))))))))))))))))))))))))))))
      ·intro K rest fr hv htk k
       show AWops _ x _ _ K ⟨55, (upd 55 fr 0 (D.one (C.p false (.sl a0.length (a0.flatMap e_api_Doc))))), _⟩
       refine s_move (d := (D.one (C.p false (.sl a0.length (a0.flatMap e_api_Doc))))) rfl k
      ·intro K rest fr hv htk k
       show AWops _ x _ _ K ⟨55, (upd 55 fr 5 (sc (.int .i64 x2))), _⟩
       refine s_move (d := (sc (.int .i64 x2))) rfl k
      ·intro K rest fr hv htk k
       show AWops _ x _ _ K ⟨55, (upd 55 (upd 55 fr 17 (sc (.int .i64 x2))) 16 (D.one (C.p false (.sl a0.length (a0.flatMap e_api_Doc))))), [(hv 0)]⟩
       refine s_indexImm (ps := (p_api_Doc v4)) F.u_23 F.sz_44 rfl rfl pv4 qv4 (flat_at e_api_Doc_len gv4 (e_api_Doc_eq v4)) k
      ·intro K rest fr hv htk k
       show AWops _ x _ _ K ⟨55, (upd 55 fr 18 (D.one (C.peek false (p_api_Doc v4)))), [(hv 0)]⟩
       refine s_fieldPeek (qs := (p_api_Doc v4)) F.fo_44_0 (by decide) rfl rfl k
      ·intro K rest fr hv htk k
       show AWops _ x _ _ K ⟨55, (upd 55 fr 19 (D.one (C.peek false (p_api_Doc v4)))), [(hv 0)]⟩
       refine s_load1 (c' := (C.p true (.v (.string v4.Path)))) F.ag_9 rfl rfl k
      ·intro K rest fr hv htk k
       show AWops _ x _ _ K ⟨55, (upd 55 fr 1 (D.one (C.p false (.sl a1.length (a1.flatMap e_api_Doc))))), _⟩
       refine s_move (d := (D.one (C.p false (.sl a1.length (a1.flatMap e_api_Doc))))) rfl k
      ·intro K rest fr hv htk k
       show AWops _ x _ _ K ⟨55, (upd 55 fr 5 (sc (.int .i64 x2))), _⟩
       refine s_move (d := (sc (.int .i64 x2))) rfl k
      ·intro K rest fr hv htk k
       show AWops _ x _ _ K ⟨55, (upd 55 (upd 55 fr 22 (sc (.int .i64 x2))) 21 (D.one (C.p false (.sl a1.length (a1.flatMap e_api_Doc))))), [(hv 0)]⟩
       refine s_indexImm (ps := (p_api_Doc v5)) F.u_23 F.sz_44 rfl rfl pv5 qv5 (flat_at e_api_Doc_len gv5 (e_api_Doc_eq v5)) k
      ·intro K rest fr hv htk k
       show AWops _ x _ _ K ⟨55, (upd 55 fr 23 (D.one (C.peek false (p_api_Doc v5)))), [(hv 0)]⟩
       refine s_fieldPeek (qs := (p_api_Doc v5)) F.fo_44_0 (by decide) rfl rfl k
      ·intro K rest fr hv htk k
       show AWops _ x _ _ K ⟨55, (upd 55 fr 24 (D.one (C.peek false (p_api_Doc v5)))), [(hv 0)]⟩
       refine s_load1 (c' := (C.p true (.v (.string v5.Path)))) F.ag_9 rfl rfl k
      ·intro K rest fr hv htk k
       show AWops _ x _ _ K ⟨55, (upd 55 (upd 55 fr 25 (sc (.string v5.Path))) 20 (sc (.string v4.Path))), [(hv 0)]⟩
       refine s_binS (v := (.bool (!(v4.Path.toList == v5.Path.toList)))) rfl rfl rfl k
      ·intro K rest fr hv htk k
       show AWops _ x _ _ K ⟨55, (upd 55 fr 26 (sc (.bool (!(v4.Path.toList == v5.Path.toList))))), _⟩
       refine s_move (d := (sc (.bool (!(v4.Path.toList == v5.Path.toList))))) rfl k
      ·intro K rest fr hv htk k
       show AWops _ x _ _ K ⟨55, (upd 55 (upd 55 fr 27 (sc (.bool (!(v4.Path.toList == v5.Path.toList))))) 0 (D.one (C.p false (.sl a0.length (a0.flatMap e_api_Doc))))), _⟩
       refine AWops.guard_no rfl (nl rfl) rfl (by rw [c6] <;> rfl) k
      ·intro K rest fr hv htk k
       show AWops _ x _ _ K ⟨55, (upd 55 fr 27 (sc (.bool (!(v4.Path.toList == v5.Path.toList))))), _⟩
       refine AWops.guard_no rfl (nl rfl) rfl (by rw [c6] <;> rfl) k
      ·intro K rest fr hv htk k
       show AWops _ x _ _ K ⟨55, (upd 55 fr 27 (sc (.bool (!(v4.Path.toList == v5.Path.toList))))), _⟩
       refine AWops.guard_no rfl (nl rfl) rfl (by rw [c6] <;> rfl) k
      ·intro K rest fr hv htk k
       show AWops _ x _ _ K ⟨55, (upd 55 fr 27 (sc (.bool (!(v4.Path.toList == v5.Path.toList))))), _⟩
       refine AWops.guard_no rfl (nl rfl) rfl (by rw [c6] <;> rfl) k
      ·intro K rest fr hv htk k
       show AWops _ x _ _ K ⟨55, (upd 55 fr 27 (sc (.bool (!(v4.Path.toList == v5.Path.toList))))), _⟩
       refine AWops.guard_no rfl (nl rfl) rfl (by rw [c6] <;> rfl) k
      ·intro K rest fr hv htk k
       show AWops _ x _ _ K ⟨55, (upd 55 fr 27 (sc (.bool (!(v4.Path.toList == v5.Path.toList))))), _⟩
       refine AWops.guard_no rfl (nl rfl) rfl (by rw [c6] <;> rfl) k
      ·intro K rest fr hv htk k
       show AWops _ x _ _ K ⟨55, (upd 55 fr 27 (sc (.bool (!(v4.Path.toList == v5.Path.toList))))), _⟩
       refine AWops.guard_no rfl (nl rfl) rfl (by rw [c6] <;> rfl) k
      ·intro K rest fr hv htk k
       show AWops _ x _ _ K ⟨55, (upd 55 fr 27 (sc (.bool (!(v4.Path.toList == v5.Path.toList))))), _⟩
       refine AWops.guard_no rfl (nl rfl) rfl (by rw [c6] <;> rfl) k
      ·intro K rest fr hv htk k
       show AWops _ x _ _ K ⟨55, (upd 55 fr 27 (sc (.bool (!(v4.Path.toList == v5.Path.toList))))), _⟩
       refine AWops.guard_no rfl (nl rfl) rfl (by rw [c6] <;> rfl) k
      ·intro K rest fr hv htk k
       show AWops _ x _ _ K ⟨55, (upd 55 fr 27 (sc (.bool (!(v4.Path.toList == v5.Path.toList))))), _⟩
       refine AWops.guard_no rfl (nl rfl) rfl (by rw [c6] <;> rfl) k
      ·intro K rest fr hv htk k
       show AWops _ x _ _ K ⟨55, (upd 55 fr 27 (sc (.bool (!(v4.Path.toList == v5.Path.toList))))), _⟩
       refine AWops.guard_no rfl (nl rfl) rfl (by rw [c6] <;> rfl) k
      ·intro K rest fr hv htk k
       show AWops _ x _ _ K ⟨55, (upd 55 fr 27 (sc (.bool (!(v4.Path.toList == v5.Path.toList))))), _⟩
       refine s_pick_yes (d := (sc (.bool true))) rfl (by rw [c6] <;> rfl) rfl k
      ·intro K rest fr hv htk k
       show AWops _ x _ _ K ⟨55, (upd 55 fr 39 (sc (.bool true))), _⟩
       refine s_move (d := (sc (.bool true))) rfl k
      ·intro K rest fr hv htk k
       show AWops _ x _ _ K ⟨55, (upd 55 fr 40 (sc (.bool true))), _⟩
       refine AWops.guard_no rfl (nl rfl) rfl rfl k
      ·intro K rest fr hv htk k
       show AWops _ x _ _ K ⟨55, (upd 55 fr 40 (sc (.bool true))), _⟩
       refine AWops.guard_no rfl (nl rfl) rfl rfl k
      ·intro K rest fr hv htk k
       show AWops _ x _ _ K ⟨55, (upd 55 fr 40 (sc (.bool true))), _⟩
       refine AWops.guard_no rfl (nl rfl) rfl rfl k
      ·intro K rest fr hv htk k
       show AWops _ x _ _ K ⟨55, (upd 55 fr 40 (sc (.bool true))), _⟩
       refine AWops.guard_no rfl (nl rfl) rfl rfl k
      ·intro K rest fr hv htk k
       show AWops _ x _ _ K ⟨55, (upd 55 fr 40 (sc (.bool true))), _⟩
       refine AWops.guard_no rfl (nl rfl) rfl rfl k
      ·intro K rest fr hv htk k
       show AWops _ x _ _ K ⟨55, (upd 55 fr 40 (sc (.bool true))), _⟩
       refine AWops.guard_no rfl (nl rfl) rfl rfl k
      ·intro K rest fr hv htk k
       show AWops _ x _ _ K ⟨55, (upd 55 fr 40 (sc (.bool true))), _⟩
       refine AWops.guard_no rfl (nl rfl) rfl rfl k
      ·intro K rest fr hv htk k
       show AWops _ x _ _ K ⟨55, (upd 55 fr 40 (sc (.bool true))), _⟩
       refine AWops.guard_no rfl (nl rfl) rfl rfl k
      ·intro K rest fr hv htk k
       show AWops _ x _ _ K ⟨55, (upd 55 fr 40 (sc (.bool true))), _⟩
       refine AWops.guard_no rfl (nl rfl) rfl rfl k
      ·intro K rest fr hv htk k
       show AWops _ x _ _ K ⟨55, (upd 55 fr 40 (sc (.bool true))), _⟩
       refine AWops.guard_no rfl (nl rfl) rfl rfl k
      ·intro K rest fr hv htk k
       show AWops _ x _ _ K ⟨55, (upd 55 fr 40 (sc (.bool true))), _⟩
       refine AWops.guard_no rfl (nl rfl) rfl rfl k
      ·intro K rest fr hv htk k
       show AWops _ x _ _ K ⟨55, (upd 55 fr 40 (sc (.bool true))), _⟩
       refine AWops.guard_no rfl (nl rfl) rfl rfl k
      ·intro K rest fr hv htk k
       show AWops _ x _ _ K ⟨55, (upd 55 fr 40 (sc (.bool true))), _⟩
       refine s_pick_yes (d := (sc (.bool true))) rfl rfl rfl k
     ·refine AWops.weak (st' := ⟨55, (upd 55 (upd 55 (upd 55 (upd 55 (upd 55 (upd 55 (upd 55 (upd 55 (upd 55 (upd 55 (upd 55 (upd 55 (upd 55 (upd 55 (upd 55 (upd 55 (upd 55 (upd 55 (upd 55 (upd 55 (upd 55 (upd 55 (upd 55 (upd 55 (upd 55 (upd 55 (upd 55 (upd 55 topF 0 (D.one (C.p false (.sl a0.length (a0.flatMap e_api_Doc))))) 1 (D.one (C.p false (.sl a1.length (a1.flatMap e_api_Doc))))) 12 (sc (.int .i64 (a0.length : Int)))) 13 (sc (.int .i64 x2))) 28 (D.tup [])) 29 (D.tup [])) 30 (D.tup [])) 31 (D.tup [])) 32 (D.tup [])) 33 (D.tup [])) 34 (D.tup [])) 35 (D.tup [])) 36 (D.tup [])) 37 (D.tup [])) 38 (D.tup [])) 41 (D.tup [])) 42 (D.tup [])) 43 (D.tup [])) 44 (D.tup [])) 45 (D.tup [])) 46 (D.tup [])) 47 (D.tup [])) 48 (D.tup [])) 49 (D.tup [])) 50 (D.tup [])) 51 (D.tup [])) 52 (D.tup [])) 53 (sc (.bool true))), []⟩) (Weak.gen (kk := 0) [] [] hx rfl (by decide) (by decide) rfl rfl rfl (le_upd (le_upd (le_upd (le_upd (le_upd (le_upd (le_upd (le_upd (le_upd (le_upd (le_upd (le_upd (le_upd (le_upd (le_upd (le_upd (le_upd (le_upd (le_upd (le_upd (le_upd (le_upd (le_upd (le_upd (le_upd (le_upd (le_upd (le_upd (le_top _) (.t (.one .same))) (.t (.one .same))) (.t (.one .sc))) (.t (.one .sc))) (DLe.tup an)) (DLe.tup an)) (DLe.tup an)) (DLe.tup an)) (DLe.tup an)) (DLe.tup an)) (DLe.tup an)) (DLe.tup an)) (DLe.tup an)) (DLe.tup an)) (DLe.tup an)) (DLe.tup an)) (DLe.tup an)) (DLe.tup an)) (DLe.tup an)) (DLe.tup an)) (DLe.tup an)) (DLe.tup an)) (DLe.tup an)) (DLe.tup an)) (DLe.tup an)) (DLe.tup an)) (DLe.tup an)) (.t (.one .sc))) an) (AWops.nil ?_)
      refine AW.cond_yes rfl rfl (AW.seq (AW.region ?_))
      refine s_assign (d := (sc (.bool false))) rfl (AWops.nil (AW.ret ?_))
      obtain rfl := Option.some.inj h
      exact ⟨_, rfl, (Weak.gen (kk := 0) [] [] rfl rfl (by decide) (by decide) rfl rfl rfl (le_upd (le_top _) (.t (.one .sc))) an)⟩
   ·refine AW.cond_no rfl c3 (AW.exit (AW.seq (AW.region ?_)))
    refine s_assign (d := (sc (.bool true))) rfl (AWops.nil (AW.ret ?_))
    obtain rfl := Option.some.inj h
    exact ⟨_, rfl, (Weak.gen (kk := 0) [] [] rfl rfl (by decide) (by decide) rfl rfl rfl (le_upd (le_top _) (.t (.one .sc))) an)⟩
mutual
def dossierref18_Same.l0 : Nat → Int → api_Case → api_Case → Option Bool
 | 0, _, _, _ => none
 | k + 1, x7, a0, a1 => if (decide (x7 < (a0.Insts.length : Int))) = true then ((rd a0.Insts x7).bind fun v9 => (rd a1.Insts x7).bind fun v10 => (dossierref18_SameInst.f k v9 v10).bind fun r11 => if r11 = true then (dossierref18_Same.l0 k (IntKind.i64.wrap (x7 + 1)) a0 a1) else (some false)) else (some true)
end
def dossierref18_Same.f (k : Nat) (a0 : api_Case) (a1 : api_Case) : Option Bool := if (a0.ID != a1.ID) = true then (some false) else (if (a0.Model.toList == a1.Model.toList) = true then (if (a0.Clock != a1.Clock) = true then (some false) else (if ((a0.Insts.length : Int) != (a1.Insts.length : Int)) = true then (some false) else ((dossierref16_Same.f k a0.Docs a1.Docs).bind fun r5 => if r5 = true then (dossierref18_Same.l0 k 0 a0 a1) else (some false)))) else (some false))
theorem dossierref18_Same.meets (k : Nat) (a0 : api_Case) (a1 : api_Case) (r : Bool) (h : dossierref18_Same.f k a0 a1 = some r) : Meets Try.prog 17 [(D.agg (c_api_Case a0)), (D.agg (c_api_Case a1))] [] (sc (.bool r)) [] := by
 unfold dossierref18_Same.f at h
 refine Meets.of_body (n := 61) Try.func17 rfl rfl (nl rfl) fun x hx => ?_
 replace hx : x.k = 0 := hx
 show AW _ x _ _ ⟨61, fr0 [(D.agg (c_api_Case a0)), (D.agg (c_api_Case a1))], []⟩
 refine AW.seq (AW.region ?_)
 refine s_box (cs := (c_api_Case a0)) rfl (List.cons_ne_nil _ _) rfl ?_
 refine s_box (cs := (c_api_Case a1)) rfl (List.cons_ne_nil _ _) rfl ?_
 refine s_assign (d := (sc (.bool false))) rfl (AWops.nil (AW.seq (AW.seq (AW.region ?_))))
 refine s_fieldRef F.fo_25_0 (by decide) rfl ?_
 refine s_load1 (c' := (C.p true (.v (.int .i64 a0.ID)))) F.ag_3 rfl rfl ?_
 refine s_fieldRef F.fo_25_0 (by decide) rfl ?_
 refine s_load1 (c' := (C.p true (.v (.int .i64 a1.ID)))) F.ag_3 rfl rfl ?_
 refine s_binI (v := (.bool (a0.ID != a1.ID))) rfl rfl rfl ?_
 refine s_move (d := (sc (.bool (a0.ID != a1.ID)))) rfl ?_
 rcases itH h with ⟨c1, h⟩ | ⟨c1, h⟩
 ·iterate 5 refine AWops.guard_no rfl (nl rfl) rfl c1 ?_
  refine s_pick_yes (d := (sc (.bool true))) rfl c1 rfl ?_
  refine s_move (d := (sc (.bool true))) rfl ?_
  iterate 5 refine AWops.guard_no rfl (nl rfl) rfl rfl ?_
  refine s_pick_yes (d := (sc (.bool true))) rfl rfl rfl ?_
  refine s_move (d := (sc (.bool true))) rfl ?_
  iterate 7 refine AWops.guard_no rfl (nl rfl) rfl rfl ?_
  refine s_pick_yes (d := (sc (.bool true))) rfl rfl rfl ?_
  refine s_move (d := (sc (.bool true))) rfl ?_
  iterate 6 refine AWops.guard_no rfl (nl rfl) rfl rfl ?_
  refine s_pick_yes (d := (sc (.bool true))) rfl rfl rfl (AWops.nil ?_)
  refine AW.cond_yes rfl rfl (AW.seq (AW.region ?_))
  refine s_assign (d := (sc (.bool false))) rfl (AWops.nil (AW.ret ?_))
  obtain rfl := Option.some.inj h
  exact ⟨_, rfl, (Weak.gen (kk := 0) [] [] rfl rfl (by decide) (by decide) rfl rfl rfl (le_upd (le_top _) (.t (.one .sc))) an)⟩
 ·refine AWops.guard_yes rfl (nl rfl) rfl c1 ?_
  refine s_fieldRef F.fo_25_1 (by decide) rfl ?_
  refine AWops.guard_yes rfl (nl rfl) rfl c1 ?_
  refine s_load1 (c' := (C.p true (.v (.string a0.Model)))) F.ag_9 rfl rfl ?_
  refine AWops.guard_yes rfl (nl rfl) rfl c1 ?_
  refine s_fieldRef F.fo_25_1 (by decide) rfl ?_
  refine AWops.guard_yes rfl (nl rfl) rfl c1 ?_
  refine s_load1 (c' := (C.p true (.v (.string a1.Model)))) F.ag_9 rfl rfl ?_
  refine AWops.guard_yes rfl (nl rfl) rfl c1 ?_
  refine s_binS (v := (.bool (!(a0.Model.toList == a1.Model.toList)))) rfl rfl rfl ?_
  refine s_pick_no (d := (sc (.bool (!(a0.Model.toList == a1.Model.toList))))) rfl c1 rfl ?_
  refine s_move (d := (sc (.bool (!(a0.Model.toList == a1.Model.toList))))) rfl ?_
  rcases itH h with ⟨c2, h⟩ | ⟨c2, h⟩
  ·refine AWops.guard_yes rfl (nl rfl) rfl (by rw [c2] <;> rfl) ?_
   refine s_fieldRef F.fo_25_4 (by decide) rfl ?_
   refine AWops.guard_yes rfl (nl rfl) rfl (by rw [c2] <;> rfl) ?_
   refine s_load1 (c' := (C.p true (.v (.int .i64 a0.Clock)))) F.ag_3 rfl rfl ?_
   refine AWops.guard_yes rfl (nl rfl) rfl (by rw [c2] <;> rfl) ?_
   refine s_fieldRef F.fo_25_4 (by decide) rfl ?_
   refine AWops.guard_yes rfl (nl rfl) rfl (by rw [c2] <;> rfl) ?_
   refine s_load1 (c' := (C.p true (.v (.int .i64 a1.Clock)))) F.ag_3 rfl rfl ?_
   refine AWops.guard_yes rfl (nl rfl) rfl (by rw [c2] <;> rfl) ?_
   refine s_binI (v := (.bool (a0.Clock != a1.Clock))) rfl rfl rfl ?_
   refine s_pick_no (d := (sc (.bool (a0.Clock != a1.Clock)))) rfl (by rw [c2] <;> rfl) rfl ?_
   refine s_move (d := (sc (.bool (a0.Clock != a1.Clock)))) rfl ?_
   rcases itH h with ⟨c3, h⟩ | ⟨c3, h⟩
   ·iterate 7 refine AWops.guard_no rfl (nl rfl) rfl c3 ?_
    refine s_pick_yes (d := (sc (.bool true))) rfl c3 rfl ?_
    refine s_move (d := (sc (.bool true))) rfl ?_
    iterate 6 refine AWops.guard_no rfl (nl rfl) rfl rfl ?_
    refine s_pick_yes (d := (sc (.bool true))) rfl rfl rfl (AWops.nil ?_)
    refine AW.cond_yes rfl rfl (AW.seq (AW.region ?_))
    refine s_assign (d := (sc (.bool false))) rfl (AWops.nil (AW.ret ?_))
    obtain rfl := Option.some.inj h
    exact ⟨_, rfl, (Weak.gen (kk := 0) [] [] rfl rfl (by decide) (by decide) rfl rfl rfl (le_upd (le_top _) (.t (.one .sc))) an)⟩
   ·refine AWops.guard_yes rfl (nl rfl) rfl c3 ?_
    refine s_fieldRef F.fo_25_2 (by decide) rfl ?_
    refine AWops.guard_yes rfl (nl rfl) rfl c3 ?_
    refine s_load1 (c' := (C.p false (.sl a0.Insts.length (a0.Insts.flatMap e_api_Inst)))) F.ag_22 rfl rfl ?_
    refine AWops.guard_yes rfl (nl rfl) rfl c3 ?_
    refine s_len (n := a0.Insts.length) F.u_22 rfl (.inr ⟨(fun _ _ h => by cases h), ⟨_, rfl⟩⟩) ?_
    refine AWops.guard_yes rfl (nl rfl) rfl c3 ?_
    refine s_fieldRef F.fo_25_2 (by decide) rfl ?_
    refine AWops.guard_yes rfl (nl rfl) rfl c3 ?_
    refine s_load1 (c' := (C.p false (.sl a1.Insts.length (a1.Insts.flatMap e_api_Inst)))) F.ag_22 rfl rfl ?_
    refine AWops.guard_yes rfl (nl rfl) rfl c3 ?_
    refine s_len (n := a1.Insts.length) F.u_22 rfl (.inr ⟨(fun _ _ h => by cases h), ⟨_, rfl⟩⟩) ?_
    refine AWops.guard_yes rfl (nl rfl) rfl c3 ?_
    refine s_binI (v := (.bool ((a0.Insts.length : Int) != (a1.Insts.length : Int)))) rfl rfl rfl ?_
    refine s_pick_no (d := (sc (.bool ((a0.Insts.length : Int) != (a1.Insts.length : Int))))) rfl c3 rfl ?_
    refine s_move (d := (sc (.bool ((a0.Insts.length : Int) != (a1.Insts.length : Int))))) rfl ?_
    rcases itH h with ⟨c4, h⟩ | ⟨c4, h⟩
    ·iterate 6 refine AWops.guard_no rfl (nl rfl) rfl c4 ?_
     refine s_pick_yes (d := (sc (.bool true))) rfl c4 rfl (AWops.nil ?_)
     refine AW.cond_yes rfl rfl (AW.seq (AW.region ?_))
     refine s_assign (d := (sc (.bool false))) rfl (AWops.nil (AW.ret ?_))
     obtain rfl := Option.some.inj h
     exact ⟨_, rfl, (Weak.gen (kk := 0) [] [] rfl rfl (by decide) (by decide) rfl rfl rfl (le_upd (le_top _) (.t (.one .sc))) an)⟩
    ·refine AWops.guard_yes rfl (nl rfl) rfl c4 ?_
     refine s_fieldRef F.fo_25_3 (by decide) rfl ?_
     refine AWops.guard_yes rfl (nl rfl) rfl c4 ?_
     refine s_load1 (c' := (C.p false (.sl a0.Docs.length (a0.Docs.flatMap e_api_Doc)))) F.ag_23 rfl rfl ?_
     refine AWops.guard_yes rfl (nl rfl) rfl c4 ?_
     refine s_fieldRef F.fo_25_3 (by decide) rfl ?_
     refine AWops.guard_yes rfl (nl rfl) rfl c4 ?_
     refine s_load1 (c' := (C.p false (.sl a1.Docs.length (a1.Docs.flatMap e_api_Doc)))) F.ag_23 rfl rfl ?_
     refine AWops.guard_yes rfl (nl rfl) rfl c4 ?_
     obtain ⟨r5, er5, h⟩ := bnd h
     refine s_call2 (ρ := []) (br := false) (H2 := [(some (AObj.cells true (c_api_Case a0))), (some (AObj.cells true (c_api_Case a1)))]) (d := (sc (.bool r5))) F.ca_38 rfl rfl (ac (.one .imm) (ac (.one .imm) an)) an (by decide) rfl (dossierref16_Same.meets _ a0.Docs a1.Docs r5 er5) (.inl rfl) rfl rfl ?_
     refine AWops.guard_yes rfl (nl rfl) rfl c4 ?_
     refine s_not rfl ?_
     refine s_pick_no (d := (sc (.bool (!r5)))) rfl c4 rfl (AWops.nil ?_)
     rcases itH h with ⟨c6, h⟩ | ⟨c6, h⟩
     ·refine AW.cond_no rfl (by rw [c6] <;> rfl) (AW.skip (AW.seq (AW.seq (AW.region ?_))))
      refine s_fieldRef F.fo_25_2 (by decide) rfl ?_
      refine s_load1 (c' := (C.p false (.sl a0.Insts.length (a0.Insts.flatMap e_api_Inst)))) F.ag_22 rfl rfl ?_
      refine s_len (n := a0.Insts.length) F.u_22 rfl (.inr ⟨(fun _ _ h => by cases h), ⟨_, rfl⟩⟩) ?_
      refine s_move (d := (sc (.int .i64 0))) rfl (AWops.nil (AW.block ?_))
      refine AW.loopw (st0 := ⟨61, (upd 61 (upd 61 (upd 61 (upd 61 topF 2 (D.one (C.ref 0 0))) 3 (D.one (C.ref 1 0))) 44 (sc (.int .i64 (a0.Insts.length : Int)))) 45 (sc (.int .i64 0))), [(some (AObj.cells true (c_api_Case a0))), (some (AObj.cells true (c_api_Case a1)))]⟩) (fun kv st => kv ≤ k ∧ ∃ (x7 : Int), dossierref18_Same.l0 kv x7 a0 a1 = some r ∧ st = ⟨61, (upd 61 (upd 61 (upd 61 (upd 61 topF 2 (D.one (C.ref 0 0))) 3 (D.one (C.ref 1 0))) 44 (sc (.int .i64 (a0.Insts.length : Int)))) 45 (sc (.int .i64 x7))), [(some (AObj.cells true (c_api_Case a0))), (some (AObj.cells true (c_api_Case a1)))]⟩) (k := k) (Weak.gen (kk := 0) [0, 1] [] hx rfl (by decide) (by decide) rfl rfl rfl (le_upd (le_upd (le_upd (le_upd (le_top _) (.t (.one (.ref rfl)))) (.t (.one (.ref rfl)))) (.t (.one .sc))) (.t (.one .sc))) (ac (.cells (fun h => h) (ac .sc (ac .sc (ac .same (ac .same (ac .sc an)))))) (ac (.cells (fun h => h) (ac .sc (ac .sc (ac .same (ac .same (ac .sc an)))))) an))) ⟨Nat.le_refl _, 0, h, rfl⟩ ?_
      rintro ql0 st ⟨hkl0, x7, h, rfl⟩
      cases ql0 with
      | zero => exact absurd h (by simp [dossierref18_Same.l0])
      | succ ql0 =>
       replace h := (dossierref18_Same.l0.eq_2 _ _ _ _).symm.trans h
       refine AW.seq (AW.region ?_)
       refine s_binI (v := (.bool (decide (x7 < (a0.Insts.length : Int))))) rfl rfl rfl (AWops.nil (AW.seq ?_))
       rcases itH h with ⟨c8, h⟩ | ⟨c8, h⟩
       ·refine AW.cond_yes rfl c8 (AW.skip (AW.seq (AW.block (AW.seq (AW.region ?_)))))
        refine s_move (d := (sc (.int .i64 x7))) rfl ?_
        refine s_assign (d := (sc (.int .i64 x7))) rfl (AWops.nil (AW.seq ?_))
        refine AW.weak (st' := ⟨61, (upd 61 (upd 61 (upd 61 (upd 61 (upd 61 topF 2 (D.one (C.ref 0 0))) 3 (D.one (C.ref 1 0))) 5 (sc (.int .i64 x7))) 44 (sc (.int .i64 (a0.Insts.length : Int)))) 45 (sc (.int .i64 x7))), [(some (AObj.cells true (c_api_Case a0))), (some (AObj.cells true (c_api_Case a1)))]⟩) (Weak.gen (kk := 0) [0, 1] [] hx rfl (by decide) (by decide) rfl rfl rfl (le_upd (le_upd (le_upd (le_upd (le_upd (le_top _) (.t (.one (.ref rfl)))) (.t (.one (.ref rfl)))) (.t (.one .sc))) (.t (.one .sc))) (.t (.one .sc))) (ac (.cells (fun h => h) (ac .sc (ac .sc (ac .same (ac .same (ac .sc an)))))) (ac (.cells (fun h => h) (ac .sc (ac .sc (ac .same (ac .same (ac .sc an)))))) an))) ?_
        obtain ⟨v9, ev9, h⟩ := bnd h
        obtain ⟨pv9, qv9, gv9⟩ := rd_some ev9
        obtain ⟨v10, ev10, h⟩ := bnd h
        obtain ⟨pv10, qv10, gv10⟩ := rd_some ev10
        obtain ⟨r11, er11, h⟩ := bnd h
        refine AW.draw (n := 61) (L := 3) [(0, ⟨some 48, (D.one (C.ref 0 2)), [(2, (D.one (C.ref 0 0)))], [], [], none⟩), (1, ⟨some 49, (D.one (C.p false (.sl a0.Insts.length (a0.Insts.flatMap e_api_Inst)))), [(48, (D.one (C.ref 0 2)))], [(0, (some (AObj.cells true (c_api_Case a0))))], [], none⟩), (2, ⟨some 50, (sc (.int .i64 x7)), [(5, (sc (.int .i64 x7)))], [], [], none⟩), (3, ⟨some 51, (D.one (C.peek false (p_api_Inst v9))), [(49, (D.one (C.p false (.sl a0.Insts.length (a0.Insts.flatMap e_api_Inst))))), (50, (sc (.int .i64 x7)))], [], [], none⟩), (4, ⟨some 52, (D.agg (c_api_Inst v9)), [(51, (D.one (C.peek false (p_api_Inst v9))))], [], [], none⟩), (5, ⟨some 53, (D.one (C.ref 1 2)), [(3, (D.one (C.ref 1 0)))], [], [], none⟩), (6, ⟨some 54, (D.one (C.p false (.sl a1.Insts.length (a1.Insts.flatMap e_api_Inst)))), [(53, (D.one (C.ref 1 2)))], [(1, (some (AObj.cells true (c_api_Case a1))))], [], none⟩), (7, ⟨some 55, (sc (.int .i64 x7)), [(5, (sc (.int .i64 x7)))], [], [], none⟩), (8, ⟨some 56, (D.one (C.peek false (p_api_Inst v10))), [(54, (D.one (C.p false (.sl a1.Insts.length (a1.Insts.flatMap e_api_Inst))))), (55, (sc (.int .i64 x7)))], [], [], none⟩), (9, ⟨some 57, (D.agg (c_api_Inst v10)), [(56, (D.one (C.peek false (p_api_Inst v10))))], [], [], none⟩), (10, ⟨some 58, (sc (.bool r11)), [(52, (D.agg (c_api_Inst v9))), (57, (D.agg (c_api_Inst v10)))], [], [], none⟩), (11, ⟨some 59, (sc (.bool (!r11))), [(58, (sc (.bool r11)))], [], [], none⟩)] [[], [0], [], [0, 1, 2], [0, 1, 2, 3], [], [5], [], [5, 6, 7], [5, 6, 7, 8], [0, 1, 2, 3, 4, 5, 6, 7, 8, 9], [0, 1, 2, 3, 4, 5, 6, 7, 8, 9, 10]] (nl rfl) [0, 1, 0, 2, 3, 0, 1, 0, 2, 3, 4, 5] rfl (TK := []) rfl AllK.nil' (fC ⟨(sC rfl AllS.nil'), AllH.nil'⟩ (fC ⟨(sC rfl AllS.nil'), (hC rfl AllH.nil')⟩ (fC ⟨(sC rfl AllS.nil'), AllH.nil'⟩ (fC ⟨(sC rfl (sC rfl AllS.nil')), AllH.nil'⟩ (fC ⟨(sC rfl AllS.nil'), AllH.nil'⟩ (fC ⟨(sC rfl AllS.nil'), AllH.nil'⟩ (fC ⟨(sC rfl AllS.nil'), (hC rfl AllH.nil')⟩ (fC ⟨(sC rfl AllS.nil'), AllH.nil'⟩ (fC ⟨(sC rfl (sC rfl AllS.nil')), AllH.nil'⟩ (fC ⟨(sC rfl AllS.nil'), AllH.nil'⟩ (fC ⟨(sC rfl (sC rfl AllS.nil')), AllH.nil'⟩ (fC ⟨(sC rfl AllS.nil'), AllH.nil'⟩ AllF.nil')))))))))))) ?_ ?_
        ·refine (pC ?_ (pC ?_ (pC ?_ (pC ?_ (pC ?_ (pC ?_ (pC ?_ (pC ?_ (pC ?_ (pC ?_ (pC ?_ (pC ?_ AllStep.nil'))))))))))))
         ·intro K rest fr hv htk k
          show AWops _ x _ _ K ⟨61, (upd 61 fr 2 (D.one (C.ref 0 0))), [(hv 0), (hv 1), (hv 2)]⟩
          refine s_fieldRef F.fo_25_2 (by decide) rfl k
         ·intro K rest fr hv htk k
          show AWops _ x _ _ K ⟨61, (upd 61 fr 48 (D.one (C.ref 0 2))), [(some (AObj.cells true (c_api_Case a0))), (hv 1), (hv 2)]⟩
          refine s_load1 (c' := (C.p false (.sl a0.Insts.length (a0.Insts.flatMap e_api_Inst)))) F.ag_22 rfl rfl k
         ·intro K rest fr hv htk k
          show AWops _ x _ _ K ⟨61, (upd 61 fr 5 (sc (.int .i64 x7))), _⟩
          refine s_move (d := (sc (.int .i64 x7))) rfl k
         ·intro K rest fr hv htk k
          show AWops _ x _ _ K ⟨61, (upd 61 (upd 61 fr 50 (sc (.int .i64 x7))) 49 (D.one (C.p false (.sl a0.Insts.length (a0.Insts.flatMap e_api_Inst))))), [(hv 0), (hv 1), (hv 2)]⟩
          refine s_indexImm (ps := (p_api_Inst v9)) F.u_22 F.sz_30 rfl rfl pv9 qv9 (flat_at e_api_Inst_len gv9 (e_api_Inst_eq v9)) k
         ·intro K rest fr hv htk k
          show AWops _ x _ _ K ⟨61, (upd 61 fr 51 (D.one (C.peek false (p_api_Inst v9)))), [(hv 0), (hv 1), (hv 2)]⟩
          refine s_loadN (ds := (c_api_Inst v9)) F.ag_30 F.sz_30 rfl rfl rfl k
         ·intro K rest fr hv htk k
          show AWops _ x _ _ K ⟨61, (upd 61 fr 3 (D.one (C.ref 1 0))), [(hv 0), (hv 1), (hv 2)]⟩
          refine s_fieldRef F.fo_25_2 (by decide) rfl k
         ·intro K rest fr hv htk k
          show AWops _ x _ _ K ⟨61, (upd 61 fr 53 (D.one (C.ref 1 2))), [(hv 0), (some (AObj.cells true (c_api_Case a1))), (hv 2)]⟩
          refine s_load1 (c' := (C.p false (.sl a1.Insts.length (a1.Insts.flatMap e_api_Inst)))) F.ag_22 rfl rfl k
         ·intro K rest fr hv htk k
          show AWops _ x _ _ K ⟨61, (upd 61 fr 5 (sc (.int .i64 x7))), _⟩
          refine s_move (d := (sc (.int .i64 x7))) rfl k
         ·intro K rest fr hv htk k
          show AWops _ x _ _ K ⟨61, (upd 61 (upd 61 fr 55 (sc (.int .i64 x7))) 54 (D.one (C.p false (.sl a1.Insts.length (a1.Insts.flatMap e_api_Inst))))), [(hv 0), (hv 1), (hv 2)]⟩
          refine s_indexImm (ps := (p_api_Inst v10)) F.u_22 F.sz_30 rfl rfl pv10 qv10 (flat_at e_api_Inst_len gv10 (e_api_Inst_eq v10)) k
         ·intro K rest fr hv htk k
          show AWops _ x _ _ K ⟨61, (upd 61 fr 56 (D.one (C.peek false (p_api_Inst v10)))), [(hv 0), (hv 1), (hv 2)]⟩
          refine s_loadN (ds := (c_api_Inst v10)) F.ag_30 F.sz_30 rfl rfl rfl k
         ·intro K rest fr hv htk k
          show AWops _ x _ _ K ⟨61, (upd 61 (upd 61 fr 57 (D.agg (c_api_Inst v10))) 52 (D.agg (c_api_Inst v9))), [(hv 0), (hv 1), (hv 2)]⟩
          refine s_call2 (ρ := []) (br := false) (H2 := [(hv 0), (hv 1), (hv 2)]) (d := (sc (.bool r11))) F.ca_13 rfl rfl (ac (LendT.aggL (ac .sc (ac .sc (ac .sc (ac .sc (ac .imm (ac .sc an))))))) (ac (LendT.aggL (ac .sc (ac .sc (ac .sc (ac .sc (ac .imm (ac .sc an))))))) an)) an (by decide) rfl (dossierref18_SameInst.meets _ v9 v10 r11 er11) (.inl rfl) rfl rfl k
         ·intro K rest fr hv htk k
          show AWops _ x _ _ K ⟨61, (upd 61 fr 58 (sc (.bool r11))), [(hv 0), (hv 1), (hv 2)]⟩
          refine s_not rfl k
        ·refine AWops.weak (st' := ⟨61, (upd 61 (upd 61 (upd 61 (upd 61 (upd 61 topF 2 (D.one (C.ref 0 0))) 3 (D.one (C.ref 1 0))) 44 (sc (.int .i64 (a0.Insts.length : Int)))) 45 (sc (.int .i64 x7))) 59 (sc (.bool (!r11)))), [(some (AObj.cells true (c_api_Case a0))), (some (AObj.cells true (c_api_Case a1)))]⟩) (Weak.gen (kk := 0) [0, 1] [] hx rfl (by decide) (by decide) rfl rfl rfl (le_upd (le_upd (le_upd (le_upd (le_upd (le_top _) (.t (.one (.ref rfl)))) (.t (.one (.ref rfl)))) (.t (.one .sc))) (.t (.one .sc))) (.t (.one .sc))) (ac (.cells (fun h => h) (ac .sc (ac .sc (ac .same (ac .same (ac .sc an)))))) (ac (.cells (fun h => h) (ac .sc (ac .sc (ac .same (ac .same (ac .sc an)))))) an))) (AWops.nil ?_)
         rcases itH h with ⟨c12, h⟩ | ⟨c12, h⟩
         ·refine AW.cond_no rfl (by rw [c12] <;> rfl) (AW.skip (AW.region ?_))
          refine s_binI (v := (.int .i64 (IntKind.i64.wrap (x7 + 1)))) rfl rfl rfl ?_
          refine s_move (d := (sc (.int .i64 (IntKind.i64.wrap (x7 + 1))))) rfl (AWops.nil ?_)
          exact ⟨_, ⟨61, (upd 61 (upd 61 (upd 61 (upd 61 topF 2 (D.one (C.ref 0 0))) 3 (D.one (C.ref 1 0))) 44 (sc (.int .i64 (a0.Insts.length : Int)))) 45 (sc (.int .i64 (IntKind.i64.wrap (x7 + 1))))), [(some (AObj.cells true (c_api_Case a0))), (some (AObj.cells true (c_api_Case a1)))]⟩, by omega, (Weak.gen (kk := 0) [0, 1] [] hx rfl (by decide) (by decide) rfl rfl rfl (le_upd (le_upd (le_upd (le_upd (le_top _) (.t (.one (.ref rfl)))) (.t (.one (.ref rfl)))) (.t (.one .sc))) (.t (.one .sc))) (ac (.cells (fun h => h) (ac .sc (ac .sc (ac .same (ac .same (ac .sc an)))))) (ac (.cells (fun h => h) (ac .sc (ac .sc (ac .same (ac .same (ac .sc an)))))) an))), by omega, IntKind.i64.wrap (x7 + 1), h, rfl⟩
         ·refine AW.cond_yes rfl (by rw [c12] <;> rfl) (AW.seq (AW.region ?_))
          refine s_assign (d := (sc (.bool false))) rfl (AWops.nil (AW.ret ?_))
          obtain rfl := Option.some.inj h
          exact ⟨_, rfl, (Weak.gen (kk := 0) [] [] rfl rfl (by decide) (by decide) rfl rfl rfl (le_upd (le_top _) (.t (.one .sc))) an)⟩
       ·refine AW.cond_no rfl c8 (AW.exit (AW.seq (AW.region ?_)))
        refine s_assign (d := (sc (.bool true))) rfl (AWops.nil (AW.ret ?_))
        obtain rfl := Option.some.inj h
        exact ⟨_, rfl, (Weak.gen (kk := 0) [] [] rfl rfl (by decide) (by decide) rfl rfl rfl (le_upd (le_top _) (.t (.one .sc))) an)⟩
     ·refine AW.cond_yes rfl (by rw [c6] <;> rfl) (AW.seq (AW.region ?_))
      refine s_assign (d := (sc (.bool false))) rfl (AWops.nil (AW.ret ?_))
      obtain rfl := Option.some.inj h
      exact ⟨_, rfl, (Weak.gen (kk := 0) [] [] rfl rfl (by decide) (by decide) rfl rfl rfl (le_upd (le_top _) (.t (.one .sc))) an)⟩
  ·iterate 5 refine AWops.guard_no rfl (nl rfl) rfl (by rw [c2] <;> rfl) ?_
   refine s_pick_yes (d := (sc (.bool true))) rfl (by rw [c2] <;> rfl) rfl ?_
   refine s_move (d := (sc (.bool true))) rfl ?_
   iterate 7 refine AWops.guard_no rfl (nl rfl) rfl rfl ?_
   refine s_pick_yes (d := (sc (.bool true))) rfl rfl rfl ?_
   refine s_move (d := (sc (.bool true))) rfl ?_
   iterate 6 refine AWops.guard_no rfl (nl rfl) rfl rfl ?_
   refine s_pick_yes (d := (sc (.bool true))) rfl rfl rfl (AWops.nil ?_)
   refine AW.cond_yes rfl rfl (AW.seq (AW.region ?_))
   refine s_assign (d := (sc (.bool false))) rfl (AWops.nil (AW.ret ?_))
   obtain rfl := Option.some.inj h
   exact ⟨_, rfl, (Weak.gen (kk := 0) [] [] rfl rfl (by decide) (by decide) rfl rfl rfl (le_upd (le_top _) (.t (.one .sc))) an)⟩
def slices_Clone_string_string.f (k : Nat) (a0 : List ByteArray) : Option (List ByteArray) := if (decide (([] : List ByteArray).length + a0.length ≤ 8796093022208)) = true then (some a0) else none
theorem slices_Clone_string_string.meets (k : Nat) (a0 : List ByteArray) (r : (List ByteArray)) (h : slices_Clone_string_string.f k a0 = some r) : Meets Try.prog 39 [(D.one (C.p false (.sl a0.length (a0.flatMap e_str))))] [] (D.one (C.own 0 0 r.length 1)) [(some (AObj.cells true (rowC e_str r)))] := by
 unfold slices_Clone_string_string.f at h
 refine Meets.of_body (n := 8) Try.func39 rfl rfl (nl rfl) fun x hx => ?_
 replace hx : x.k = 0 := hx
 show AW _ x _ _ ⟨8, fr0 [(D.one (C.p false (.sl a0.length (a0.flatMap e_str))))], []⟩
 refine AW.seq (AW.region ?_)
 refine s_assign (d := (sc (.slice none 0 0))) rfl (AWops.nil (AW.seq (AW.seq (AW.region ?_))))
 refine s_move (d := (D.one (C.p false (.sl a0.length (a0.flatMap e_str))))) rfl ?_
 refine s_eqNil (n := _) F.u_42 rfl (fun _ _ h => by cases h) rfl (.inl rfl) (fun b w => ?_)
 cases b with
 | false =>
  refine AWops.nil ?_
  refine AW.cond_no rfl rfl (AW.skip (AW.seq (AW.region ?_)))
  refine s_buildSlice (n := 0) (ps := []) (cs := rowC e_str ([] : List ByteArray)) F.u_42 F.sz_9 F.z_9 rfl rfl (by decide) (by decide) rfl rfl ?_
  refine s_move (d := (D.one (C.p false (.sl a0.length (a0.flatMap e_str))))) rfl ?_
  obtain ⟨c1, h⟩ := gdH h
  have dc1 := of_decide_eq_true c1
  refine t_append (xs := ([] : List ByteArray)) (ys := a0) (zs := a0) (H' := [none, (some (AObj.cells true (rowC e_str a0)))]) F.u_42 F.in_9 rfl e_str_len (.own rfl rfl) .imm F.u_42 (by omega) (by omega) rfl rfl ?_
  refine s_assign (d := (D.one (C.own 1 0 a0.length 1))) rfl (AWops.nil (AW.ret ?_))
  obtain rfl := Option.some.inj h
  exact ⟨_, rfl, (Weak.gen (kk := 0) [1] [] rfl rfl (by decide) (by decide) rfl rfl rfl (le_upd (le_top _) (.t (.one (.own rfl)))) (ac (.cells (fun h => h) (all2_row _)) an))⟩
 | true =>
  obtain rfl : a0 = [] := by cases a0 with | nil => rfl | cons _ _ => exact absurd (w (by simp)) (by decide)
  replace h : (some ([] : List ByteArray)) = some r := by simpa [bytesI] using h
  skip
  refine AWops.nil ?_
  refine AW.cond_yes rfl rfl (AW.seq (AW.region ?_))
  refine s_assign (d := (sc (.slice none 0 0))) rfl (AWops.nil (AW.ret ?_))
  obtain rfl := Option.some.inj h
  exact ⟨_, rfl, (Weak.trans (Weak.nil (sz := 1) (i := 0) rfl) (Weak.gen (kk := 0) [0] [] rfl rfl (by decide) (by decide) rfl rfl rfl (le_upd (le_top _) (.t (.one (CLe.ownN rfl (by simp))))) (ac (.cells (fun h => h) an) an)))⟩
mutual
def tree_Copy.l1 : Nat → (List api_Doc) → Int → api_Case → (List api_Inst) → Option api_Case
 | 0, _, _, _, _ => none
 | k + 1, x7, x8, a0, x1 => if (decide (x8 < (a0.Docs.length : Int))) = true then ((rd a0.Docs x8).bind fun v10 => (slices_Clone_string_string.f k v10.Refs).bind fun r11 => if (decide (x7.length + ([(⟨v10.Path, v10.Value, r11⟩ : api_Doc)] : List api_Doc).length ≤ 1759218604441)) = true then (tree_Copy.l1 k (x7 ++ ([(⟨v10.Path, v10.Value, r11⟩ : api_Doc)] : List api_Doc)) (IntKind.i64.wrap (x8 + 1)) a0 x1) else none) else (some (⟨a0.ID, a0.Model, x1, x7, a0.Clock⟩ : api_Case))
def tree_Copy.l0 : Nat → (List api_Inst) → Int → api_Case → Option api_Case
 | 0, _, _, _ => none
 | k + 1, x1, x2, a0 => if (decide (x2 < (a0.Insts.length : Int))) = true then ((rd a0.Insts x2).bind fun v4 => (tree_own.f k v4).bind fun r5 => if (decide (x1.length + ([r5] : List api_Inst).length ≤ 1759218604441)) = true then (tree_Copy.l0 k (x1 ++ ([r5] : List api_Inst)) (IntKind.i64.wrap (x2 + 1)) a0) else none) else (tree_Copy.l1 k ([] : List api_Doc) 0 a0 x1)
end
def tree_Copy.f (k : Nat) (a0 : api_Case) : Option api_Case := tree_Copy.l0 k ([] : List api_Inst) 0 a0
theorem tree_Copy.meets (k : Nat) (a0 : api_Case) (r : api_Case) (h : tree_Copy.f k a0 = some r) : Meets Try.prog 18 [(D.agg (c_api_Case a0))] [] (D.agg (c_api_Case r)) [] := by
 unfold tree_Copy.f at h
 refine Meets.of_body (n := 47) Try.func18 rfl rfl (nl rfl) fun x hx => ?_
 replace hx : x.k = 0 := hx
 show AW _ x _ _ ⟨47, fr0 [(D.agg (c_api_Case a0))], []⟩
 refine AW.seq (AW.region ?_)
 refine s_box (cs := (c_api_Case a0)) rfl (List.cons_ne_nil _ _) rfl ?_
 refine s_alloc (cs := [(C.p true (.v (.int .i64 0))), (C.p true (.v (.string (⟨#[]⟩ : ByteArray)))), (C.p true (.v (.slice none 0 0))), (C.p true (.v (.slice none 0 0))), (C.p true (.v (.int .i64 0)))]) F.z_25 rfl rfl (AWops.nil (AW.seq ?_))
 refine AW.weak (st' := ⟨47, (upd 47 (upd 47 topF 1 (D.one (C.ref 0 0))) 2 (D.one (C.ref 1 0))), [(some (AObj.cells true (c_api_Case a0))), (some (AObj.cells true [(C.p true (.v (.int .i64 0))), (C.p true (.v (.string (⟨#[]⟩ : ByteArray)))), (C.p true (.v (.slice none 0 0))), (C.p true (.v (.slice none 0 0))), (C.p true (.v (.int .i64 0)))]))]⟩) (Weak.gen (kk := 0) [0, 1] [] hx rfl (by decide) (by decide) rfl rfl rfl (le_upd (le_upd (le_top _) (.t (.one (.ref rfl)))) (.t (.one (.ref rfl)))) (ac (.cells (fun h => h) (ac .sc (ac .sc (ac .same (ac .same (ac .sc an)))))) (ac (.cells (fun h => h) (ac .sc (ac .sc (ac .sc (ac .sc (ac .sc an)))))) an))) ?_
 refine AW.draw (n := 47) (L := 2) [(0, ⟨some 9, (D.one (C.ref 0 2)), [(1, (D.one (C.ref 0 0)))], [], [], none⟩), (1, ⟨some 10, (D.one (C.p false (.sl a0.Insts.length (a0.Insts.flatMap e_api_Inst)))), [(9, (D.one (C.ref 0 2)))], [(0, (some (AObj.cells true (c_api_Case a0))))], [], none⟩), (2, ⟨some 11, (D.one (C.ref 0 3)), [(1, (D.one (C.ref 0 0)))], [], [], none⟩), (3, ⟨some 12, (D.one (C.p false (.sl a0.Docs.length (a0.Docs.flatMap e_api_Doc)))), [(11, (D.one (C.ref 0 3)))], [(0, (some (AObj.cells true (c_api_Case a0))))], [], none⟩), (4, ⟨some 3, (D.one (C.p false (.sl a0.Insts.length (a0.Insts.flatMap e_api_Inst)))), [(10, (D.one (C.p false (.sl a0.Insts.length (a0.Insts.flatMap e_api_Inst)))))], [], [], none⟩), (5, ⟨some 4, (D.one (C.p false (.sl a0.Docs.length (a0.Docs.flatMap e_api_Doc)))), [(12, (D.one (C.p false (.sl a0.Docs.length (a0.Docs.flatMap e_api_Doc)))))], [], [], none⟩)] [[], [0], [], [2], [0, 1], [0, 1, 2, 3, 4]] (nl rfl) [0, 1, 3, 4, 2, 5] rfl (TK := []) rfl AllK.nil' (fC ⟨(sC rfl AllS.nil'), AllH.nil'⟩ (fC ⟨(sC rfl AllS.nil'), (hC rfl AllH.nil')⟩ (fC ⟨(sC rfl AllS.nil'), AllH.nil'⟩ (fC ⟨(sC rfl AllS.nil'), (hC rfl AllH.nil')⟩ (fC ⟨(sC rfl AllS.nil'), AllH.nil'⟩ (fC ⟨(sC rfl AllS.nil'), AllH.nil'⟩ AllF.nil')))))) ?_ ?_
 ·refine (pC ?_ (pC ?_ (pC ?_ (pC ?_ (pC ?_ (pC ?_ AllStep.nil'))))))
  ·intro K rest fr hv htk k
   show AWops _ x _ _ K ⟨47, (upd 47 fr 1 (D.one (C.ref 0 0))), [(hv 0), (hv 1)]⟩
   refine s_fieldRef F.fo_25_2 (by decide) rfl k
  ·intro K rest fr hv htk k
   show AWops _ x _ _ K ⟨47, (upd 47 fr 9 (D.one (C.ref 0 2))), [(some (AObj.cells true (c_api_Case a0))), (hv 1)]⟩
   refine s_load1 (c' := (C.p false (.sl a0.Insts.length (a0.Insts.flatMap e_api_Inst)))) F.ag_22 rfl rfl k
  ·intro K rest fr hv htk k
   show AWops _ x _ _ K ⟨47, (upd 47 fr 1 (D.one (C.ref 0 0))), [(hv 0), (hv 1)]⟩
   refine s_fieldRef F.fo_25_3 (by decide) rfl k
  ·intro K rest fr hv htk k
   show AWops _ x _ _ K ⟨47, (upd 47 fr 11 (D.one (C.ref 0 3))), [(some (AObj.cells true (c_api_Case a0))), (hv 1)]⟩
   refine s_load1 (c' := (C.p false (.sl a0.Docs.length (a0.Docs.flatMap e_api_Doc)))) F.ag_23 rfl rfl k
  ·intro K rest fr hv htk k
   show AWops _ x _ _ K ⟨47, (upd 47 fr 10 (D.one (C.p false (.sl a0.Insts.length (a0.Insts.flatMap e_api_Inst))))), _⟩
   refine s_assign (d := (D.one (C.p false (.sl a0.Insts.length (a0.Insts.flatMap e_api_Inst))))) rfl k
  ·intro K rest fr hv htk k
   show AWops _ x _ _ K ⟨47, (upd 47 fr 12 (D.one (C.p false (.sl a0.Docs.length (a0.Docs.flatMap e_api_Doc))))), _⟩
   refine s_assign (d := (D.one (C.p false (.sl a0.Docs.length (a0.Docs.flatMap e_api_Doc))))) rfl k
 ·refine AWops.weak (st' := ⟨47, (upd 47 (upd 47 (upd 47 (upd 47 topF 1 (D.one (C.ref 0 0))) 2 (D.one (C.ref 1 0))) 3 (D.one (C.p false (.sl a0.Insts.length (a0.Insts.flatMap e_api_Inst))))) 4 (D.one (C.p false (.sl a0.Docs.length (a0.Docs.flatMap e_api_Doc))))), [(some (AObj.cells true (c_api_Case a0))), (some (AObj.cells true [(C.p true (.v (.int .i64 0))), (C.p true (.v (.string (⟨#[]⟩ : ByteArray)))), (C.p true (.v (.slice none 0 0))), (C.p true (.v (.slice none 0 0))), (C.p true (.v (.int .i64 0)))]))]⟩) (Weak.gen (kk := 0) [0, 1] [] hx rfl (by decide) (by decide) rfl rfl rfl (le_upd (le_upd (le_upd (le_upd (le_top _) (.t (.one (.ref rfl)))) (.t (.one (.ref rfl)))) (.t (.one .same))) (.t (.one .same))) (ac (.cells (fun h => h) (ac .sc (ac .sc (ac .same (ac .same (ac .sc an)))))) (ac (.cells (fun h => h) (ac .sc (ac .sc (ac .sc (ac .sc (ac .sc an)))))) an))) (AWops.nil (AW.seq (AW.region ?_)))
  refine s_fieldRef F.fo_25_2 (by decide) rfl ?_
  refine s_store (cs' := [(C.p true (.v (.int .i64 a0.ID))), (C.p true (.v (.string a0.Model))), (C.p true (.v (.slice none 0 0))), (C.p false (.sl a0.Docs.length (a0.Docs.flatMap e_api_Doc))), (C.p true (.v (.int .i64 a0.Clock)))]) rfl rfl rfl (List.cons_ne_nil _ _) rfl F.sz_22 (nl rfl) rfl ?_
  refine s_fieldRef F.fo_25_3 (by decide) rfl ?_
  refine s_store (cs' := [(C.p true (.v (.int .i64 a0.ID))), (C.p true (.v (.string a0.Model))), (C.p true (.v (.slice none 0 0))), (C.p true (.v (.slice none 0 0))), (C.p true (.v (.int .i64 a0.Clock)))]) rfl rfl rfl (List.cons_ne_nil _ _) rfl F.sz_23 (nl rfl) rfl (AWops.nil (AW.seq (AW.seq (AW.region ?_))))
  refine s_move (d := (D.one (C.p false (.sl a0.Insts.length (a0.Insts.flatMap e_api_Inst))))) rfl ?_
  refine s_len (n := a0.Insts.length) F.u_22 rfl (.inr ⟨(fun _ _ h => by cases h), ⟨_, rfl⟩⟩) ?_
  refine s_move (d := (sc (.int .i64 0))) rfl (AWops.nil (AW.block ?_))
  refine AW.loopw (st0 := ⟨47, (upd 47 (upd 47 (upd 47 (upd 47 (upd 47 (upd 47 topF 1 (D.one (C.ref 0 0))) 2 (D.one (C.ref 1 0))) 4 (D.one (C.p false (.sl a0.Docs.length (a0.Docs.flatMap e_api_Doc))))) 15 (D.one (C.p false (.sl a0.Insts.length (a0.Insts.flatMap e_api_Inst))))) 16 (sc (.int .i64 (a0.Insts.length : Int)))) 17 (sc (.int .i64 0))), [(some (AObj.cells true [(C.p true (.v (.int .i64 a0.ID))), (C.p true (.v (.string a0.Model))), (C.own 2 0 ([] : List api_Inst).length 6), (C.p true (.v (.slice none 0 0))), (C.p true (.v (.int .i64 a0.Clock)))])), (some (AObj.cells true [(C.p true (.v (.int .i64 0))), (C.p true (.v (.string (⟨#[]⟩ : ByteArray)))), (C.p true (.v (.slice none 0 0))), (C.p true (.v (.slice none 0 0))), (C.p true (.v (.int .i64 0)))])), (some (AObj.cells true (rowC e_api_Inst ([] : List api_Inst))))]⟩) (fun kv st => kv ≤ k ∧ ∃ (x1 : List api_Inst) (x2 : Int), tree_Copy.l0 kv x1 x2 a0 = some r ∧ st = ⟨47, (upd 47 (upd 47 (upd 47 (upd 47 (upd 47 (upd 47 topF 1 (D.one (C.ref 0 0))) 2 (D.one (C.ref 1 0))) 4 (D.one (C.p false (.sl a0.Docs.length (a0.Docs.flatMap e_api_Doc))))) 15 (D.one (C.p false (.sl a0.Insts.length (a0.Insts.flatMap e_api_Inst))))) 16 (sc (.int .i64 (a0.Insts.length : Int)))) 17 (sc (.int .i64 x2))), [(some (AObj.cells true [(C.p true (.v (.int .i64 a0.ID))), (C.p true (.v (.string a0.Model))), (C.own 2 0 x1.length 6), (C.p true (.v (.slice none 0 0))), (C.p true (.v (.int .i64 a0.Clock)))])), (some (AObj.cells true [(C.p true (.v (.int .i64 0))), (C.p true (.v (.string (⟨#[]⟩ : ByteArray)))), (C.p true (.v (.slice none 0 0))), (C.p true (.v (.slice none 0 0))), (C.p true (.v (.int .i64 0)))])), (some (AObj.cells true (rowC e_api_Inst x1)))]⟩) (k := k) (Weak.trans (Weak.nilC (t := 0) (j := 2) (sz := 6) rfl rfl rfl) (Weak.gen (kk := 0) [0, 1, 2] [] hx rfl (by decide) (by decide) rfl rfl rfl (le_upd (le_upd (le_upd (le_upd (le_upd (le_upd (le_top _) (.t (.one (.ref rfl)))) (.t (.one (.ref rfl)))) (.t (.one .same))) (.t (.one .same))) (.t (.one .sc))) (.t (.one .sc))) (ac (.cells (fun h => h) (ac .sc (ac .sc (ac (.own rfl) (ac .sc (ac .sc an)))))) (ac (.cells (fun h => h) (ac .sc (ac .sc (ac .sc (ac .sc (ac .sc an)))))) (ac (.cells (fun h => h) an) an))))) ⟨Nat.le_refl _, ([] : List api_Inst), 0, h, rfl⟩ ?_
  rintro ql0 st ⟨hkl0, x1, x2, h, rfl⟩
  cases ql0 with
  | zero => exact absurd h (by simp [tree_Copy.l0])
  | succ ql0 =>
   replace h := (tree_Copy.l0.eq_2 _ _ _ _).symm.trans h
   refine AW.seq (AW.region ?_)
   refine s_binI (v := (.bool (decide (x2 < (a0.Insts.length : Int))))) rfl rfl rfl (AWops.nil (AW.seq ?_))
   rcases itH h with ⟨c3, h⟩ | ⟨c3, h⟩
   ·refine AW.cond_yes rfl c3 (AW.skip (AW.seq (AW.block (AW.seq (AW.region ?_)))))
    obtain ⟨v4, ev4, h⟩ := bnd h
    obtain ⟨pv4, qv4, gv4⟩ := rd_some ev4
    refine s_indexImm (ps := (p_api_Inst v4)) F.u_22 F.sz_30 rfl rfl pv4 qv4 (flat_at e_api_Inst_len gv4 (e_api_Inst_eq v4)) ?_
    refine s_loadN (ds := (c_api_Inst v4)) F.ag_30 F.sz_30 rfl rfl rfl ?_
    refine s_alloc (cs := [(C.p true (.v (.string (⟨#[]⟩ : ByteArray)))), (C.p true (.v (.string (⟨#[]⟩ : ByteArray)))), (C.p true (.v (.int .i64 0))), (C.p true (.v (.int .i64 0))), (C.p true (.v (.slice none 0 0))), (C.p true (.v (.int .i64 0)))]) F.z_30 rfl rfl ?_
    refine s_store (cs' := (c_api_Inst v4)) rfl rfl rfl (List.cons_ne_nil _ _) rfl F.sz_30 (nl rfl) rfl (AWops.nil ?_)
    refine AW.weak (st' := ⟨47, (upd 47 (upd 47 (upd 47 (upd 47 (upd 47 (upd 47 (upd 47 topF 1 (D.one (C.ref 0 0))) 2 (D.one (C.ref 1 0))) 4 (D.one (C.p false (.sl a0.Docs.length (a0.Docs.flatMap e_api_Doc))))) 6 (D.one (C.ref 2 0))) 15 (D.one (C.p false (.sl a0.Insts.length (a0.Insts.flatMap e_api_Inst))))) 16 (sc (.int .i64 (a0.Insts.length : Int)))) 17 (sc (.int .i64 x2))), [(some (AObj.cells true [(C.p true (.v (.int .i64 a0.ID))), (C.p true (.v (.string a0.Model))), (C.own 3 0 x1.length 6), (C.p true (.v (.slice none 0 0))), (C.p true (.v (.int .i64 a0.Clock)))])), (some (AObj.cells true [(C.p true (.v (.int .i64 0))), (C.p true (.v (.string (⟨#[]⟩ : ByteArray)))), (C.p true (.v (.slice none 0 0))), (C.p true (.v (.slice none 0 0))), (C.p true (.v (.int .i64 0)))])), (some (AObj.cells true (c_api_Inst v4))), (some (AObj.cells true (rowC e_api_Inst x1)))]⟩) (Weak.gen (kk := 0) [0, 1, 3, 2] [] hx rfl (by decide) (by decide) rfl rfl rfl (le_upd (le_upd (le_upd (le_upd (le_upd (le_upd (le_upd (le_top _) (.t (.one (.ref rfl)))) (.t (.one (.ref rfl)))) (.t (.one .same))) (.t (.one (.ref rfl)))) (.t (.one .same))) (.t (.one .sc))) (.t (.one .sc))) (ac (.cells (fun h => h) (ac .sc (ac .sc (ac (.own rfl) (ac .sc (ac .sc an)))))) (ac (.cells (fun h => h) (ac .sc (ac .sc (ac .sc (ac .sc (ac .sc an)))))) (ac (.cells (fun h => h) (ac .sc (ac .sc (ac .sc (ac .sc (ac .same (ac .sc an))))))) (ac (.cells (fun h => h) (all2_row _)) an))))) ?_
    obtain ⟨r5, er5, h⟩ := bnd h
    obtain ⟨c6, h⟩ := gdH h
    have dc6 := of_decide_eq_true c6
    refine AW.draw (n := 47) (L := 7) [(0, ⟨some 21, (D.one (C.ref 0 2)), [(1, (D.one (C.ref 0 0)))], [], [], none⟩), (1, ⟨some 22, (D.one (C.own 3 0 x1.length 6)), [(21, (D.one (C.ref 0 2)))], [(0, (some (AObj.cells true [(C.p true (.v (.int .i64 a0.ID))), (C.p true (.v (.string a0.Model))), (C.own 3 0 x1.length 6), (C.p true (.v (.slice none 0 0))), (C.p true (.v (.int .i64 a0.Clock)))])))], [], none⟩), (2, ⟨some 23, (D.agg (c_api_Inst v4)), [(6, (D.one (C.ref 2 0)))], [(2, (some (AObj.cells true (c_api_Inst v4))))], [], none⟩), (3, ⟨some 24, (D.agg (c_api_Inst r5)), [(23, (D.agg (c_api_Inst v4)))], [], [], none⟩), (4, ⟨some 25, (D.one (C.own 5 0 (([r5] : List api_Inst).length) 6)), [(24, (D.agg (c_api_Inst r5)))], [], [(5, (some (AObj.cells true (rowC e_api_Inst ([r5] : List api_Inst)))))], some 5⟩), (5, ⟨some 26, (D.one (C.own 6 0 ((x1 ++ ([r5] : List api_Inst)).length) 6)), [(22, (D.one (C.own 3 0 x1.length 6))), (25, (D.one (C.own 5 0 (([r5] : List api_Inst).length) 6)))], [(3, (some (AObj.cells true (rowC e_api_Inst x1)))), (5, (some (AObj.cells true (rowC e_api_Inst ([r5] : List api_Inst)))))], [(3, none), (6, (some (AObj.cells true (rowC e_api_Inst (x1 ++ ([r5] : List api_Inst))))))], some 6⟩), (6, ⟨some 27, (D.one (C.ref 0 2)), [(1, (D.one (C.ref 0 0)))], [], [], none⟩), (7, ⟨none, (D.one C.top), [(26, (D.one (C.own 6 0 ((x1 ++ ([r5] : List api_Inst)).length) 6))), (27, (D.one (C.ref 0 2)))], [(0, (some (AObj.cells true [(C.p true (.v (.int .i64 a0.ID))), (C.p true (.v (.string a0.Model))), (C.own 3 0 x1.length 6), (C.p true (.v (.slice none 0 0))), (C.p true (.v (.int .i64 a0.Clock)))])))], [(0, (some (AObj.cells true [(C.p true (.v (.int .i64 a0.ID))), (C.p true (.v (.string a0.Model))), (C.own 6 0 ((x1 ++ ([r5] : List api_Inst)).length) 6), (C.p true (.v (.slice none 0 0))), (C.p true (.v (.int .i64 a0.Clock)))])))], none⟩)] [[], [0], [], [2], [2, 3], [0, 1, 2, 3, 4], [0, 1, 2, 3, 4, 5], [0, 1, 2, 3, 4, 5, 6]] (nl rfl) [0, 1, 0, 1, 2, 3, 4, 5] rfl (TK := [(4, 5), (5, 6)]) rfl (AllK.cons' ⟨(tk_upd (tk_upd (tk_upd (tk_upd (tk_upd (tk_upd (tk_upd tk_top rfl) rfl) rfl) rfl) rfl) rfl) rfl), (tC rfl (tC rfl (tC rfl (tC (tkO_row _) AllT.nil')))), (fC (.inr rfl) (fC (.inr rfl) (fC (.inr rfl) (fC (.inr rfl) (fC (.inl rfl) (fC (.inl rfl) (fC (.inl rfl) (fC (.inl rfl) AllF.nil'))))))))⟩ (AllK.cons' ⟨(tk_upd (tk_upd (tk_upd (tk_upd (tk_upd (tk_upd (tk_upd tk_top rfl) rfl) rfl) rfl) rfl) rfl) rfl), (tC rfl (tC rfl (tC rfl (tC (tkO_row _) AllT.nil')))), (fC (.inr rfl) (fC (.inr rfl) (fC (.inr rfl) (fC (.inr rfl) (fC (.inr (by unfold tkFoot; simp only [List.all_cons, List.all_nil, tkO_row, Bool.and_true, Bool.true_and]; rfl)) (fC (.inl rfl) (fC (.inl rfl) (fC (.inl rfl) AllF.nil'))))))))⟩ AllK.nil')) (fC ⟨(sC rfl AllS.nil'), AllH.nil'⟩ (fC ⟨(sC rfl AllS.nil'), (hC rfl AllH.nil')⟩ (fC ⟨(sC rfl AllS.nil'), (hC rfl AllH.nil')⟩ (fC ⟨(sC rfl AllS.nil'), AllH.nil'⟩ (fC ⟨(sC rfl AllS.nil'), AllH.nil'⟩ (fC ⟨(sC rfl (sC rfl AllS.nil')), (hC rfl (hC rfl AllH.nil'))⟩ (fC ⟨(sC rfl AllS.nil'), AllH.nil'⟩ (fC ⟨(sC rfl (sC rfl AllS.nil')), (hC rfl AllH.nil')⟩ AllF.nil')))))))) ?_ ?_
    ·refine (pC ?_ (pC ?_ (pC ?_ (pC ?_ (pC ?_ (pC ?_ (pC ?_ (pC ?_ AllStep.nil'))))))))
     ·intro K rest fr hv htk k
      show AWops _ x _ _ K ⟨47, (upd 47 fr 1 (D.one (C.ref 0 0))), [(hv 0), (hv 1), (hv 2), (hv 3), (hv 4), (hv 5), (hv 6)]⟩
      refine s_fieldRef F.fo_25_2 (by decide) rfl k
     ·intro K rest fr hv htk k
      show AWops _ x _ _ K ⟨47, (upd 47 fr 21 (D.one (C.ref 0 2))), [(some (AObj.cells true [(C.p true (.v (.int .i64 a0.ID))), (C.p true (.v (.string a0.Model))), (C.own 3 0 x1.length 6), (C.p true (.v (.slice none 0 0))), (C.p true (.v (.int .i64 a0.Clock)))])), (hv 1), (hv 2), (hv 3), (hv 4), (hv 5), (hv 6)]⟩
      refine s_load1 (c' := (C.own 3 0 x1.length 6)) F.ag_22 rfl rfl k
     ·intro K rest fr hv htk k
      show AWops _ x _ _ K ⟨47, (upd 47 fr 6 (D.one (C.ref 2 0))), [(hv 0), (hv 1), (some (AObj.cells true (c_api_Inst v4))), (hv 3), (hv 4), (hv 5), (hv 6)]⟩
      refine s_loadN (ds := (c_api_Inst v4)) F.ag_30 F.sz_30 rfl rfl rfl k
     ·intro K rest fr hv htk k
      show AWops _ x _ _ K ⟨47, (upd 47 fr 23 (D.agg (c_api_Inst v4))), [(hv 0), (hv 1), (hv 2), (hv 3), (hv 4), (hv 5), (hv 6)]⟩
      refine s_call2 (ρ := []) (br := false) (H2 := [(hv 0), (hv 1), (hv 2), (hv 3), (hv 4), (hv 5), (hv 6)]) (d := (D.agg (c_api_Inst r5))) F.ca_22 rfl rfl (ac (LendT.aggL (ac .sc (ac .sc (ac .sc (ac .sc (ac .imm (ac .sc an))))))) an) an (by decide) rfl (tree_own.meets _ v4 r5 er5) (.inl rfl) rfl rfl k
     ·intro K rest fr hv htk k
      show AWops _ x _ _ K ⟨47, (upd 47 fr 24 (D.agg (c_api_Inst r5))), [(hv 0), (hv 1), (hv 2), (hv 3), (hv 4), (hv 5), (hv 6)]⟩
      refine s_buildSlice (n := 1) (ps := [(0, (D.agg (c_api_Inst r5)))]) (cs := rowC e_api_Inst ([r5] : List api_Inst)) F.u_22 F.sz_30 F.z_30 rfl rfl (by decide) (by decide) rfl rfl ?_
      refine AWops.weak (st' := ⟨47, (upd 47 (upd 47 fr 24 (D.agg (c_api_Inst r5))) 25 (D.one (C.own 5 0 (([r5] : List api_Inst).length) 6))), [(hv 0), (hv 1), (hv 2), (hv 3), (hv 4), (some (AObj.cells true (rowC e_api_Inst ([r5] : List api_Inst)))), (hv 6)]⟩) (Weak.gen (kk := 0) [0, 1, 2, 3, 4, 7, 6] [] hx rfl (by decide) (by decide) rfl rfl rfl (le_upd2 (le_ok (p := 5) (L := 7) rfl (htk 5 rfl).1) (.t (.one (.own rfl)))) (ac (ole_ok (p := 5) (L := 7) rfl ((htk 5 rfl).2 0)) (ac (ole_ok (p := 5) (L := 7) rfl ((htk 5 rfl).2 1)) (ac (ole_ok (p := 5) (L := 7) rfl ((htk 5 rfl).2 2)) (ac (ole_ok (p := 5) (L := 7) rfl ((htk 5 rfl).2 3)) (ac (ole_ok (p := 5) (L := 7) rfl ((htk 5 rfl).2 4)) (ac (.cells (fun h => h) (all2_row _)) (ac (ole_ok (p := 5) (L := 7) rfl ((htk 5 rfl).2 6)) an)))))))) k
     ·intro K rest fr hv htk k
      show AWops _ x _ _ K ⟨47, (upd 47 (upd 47 fr 25 (D.one (C.own 5 0 (([r5] : List api_Inst).length) 6))) 22 (D.one (C.own 3 0 x1.length 6))), [(hv 0), (hv 1), (hv 2), (some (AObj.cells true (rowC e_api_Inst x1))), (hv 4), (some (AObj.cells true (rowC e_api_Inst ([r5] : List api_Inst)))), (hv 6)]⟩
      refine t_append (xs := x1) (ys := ([r5] : List api_Inst)) (zs := x1 ++ ([r5] : List api_Inst)) (H' := [(hv 0), (hv 1), (hv 2), none, (hv 4), (some (AObj.cells true (rowC e_api_Inst ([r5] : List api_Inst)))), (hv 6), (some (AObj.cells true (rowC e_api_Inst (x1 ++ ([r5] : List api_Inst)))))]) F.u_22 F.in_30 rfl e_api_Inst_len (.own rfl rfl) (.own rfl rfl) F.u_22 (by omega) (by omega) rfl rfl ?_
      refine AWops.weak (st' := ⟨47, (upd 47 (upd 47 (upd 47 fr 25 (D.one (C.own 5 0 (([r5] : List api_Inst).length) 6))) 22 (D.one (C.own 3 0 x1.length 6))) 26 (D.one (C.own 6 0 ((x1 ++ ([r5] : List api_Inst)).length) 6))), [(hv 0), (hv 1), (hv 2), none, (hv 4), (some (AObj.cells true (rowC e_api_Inst ([r5] : List api_Inst)))), (some (AObj.cells true (rowC e_api_Inst (x1 ++ ([r5] : List api_Inst)))))]⟩) (Weak.gen (kk := 0) [0, 1, 2, 3, 4, 5, 7] [] hx rfl (by decide) (by decide) rfl rfl rfl (le_upd2 (le_ok (p := 6) (L := 7) rfl (htk 6 rfl).1) (.t (.one (.own rfl)))) (ac (ole_ok (p := 6) (L := 7) rfl ((htk 6 rfl).2 0)) (ac (ole_ok (p := 6) (L := 7) rfl ((htk 6 rfl).2 1)) (ac (ole_ok (p := 6) (L := 7) rfl ((htk 6 rfl).2 2)) (ac (.none _) (ac (ole_ok (p := 6) (L := 7) rfl ((htk 6 rfl).2 4)) (ac (.cells (fun h => h) (all2_row _)) (ac (.cells (fun h => h) (all2_row _)) an)))))))) k
     ·intro K rest fr hv htk k
      show AWops _ x _ _ K ⟨47, (upd 47 fr 1 (D.one (C.ref 0 0))), [(hv 0), (hv 1), (hv 2), (hv 3), (hv 4), (hv 5), (hv 6)]⟩
      refine s_fieldRef F.fo_25_2 (by decide) rfl k
     ·intro K rest fr hv htk k
      show AWops _ x _ _ K ⟨47, (upd 47 (upd 47 fr 27 (D.one (C.ref 0 2))) 26 (D.one (C.own 6 0 ((x1 ++ ([r5] : List api_Inst)).length) 6))), [(some (AObj.cells true [(C.p true (.v (.int .i64 a0.ID))), (C.p true (.v (.string a0.Model))), (C.own 3 0 x1.length 6), (C.p true (.v (.slice none 0 0))), (C.p true (.v (.int .i64 a0.Clock)))])), (hv 1), (hv 2), (hv 3), (hv 4), (hv 5), (hv 6)]⟩
      refine s_store (cs' := [(C.p true (.v (.int .i64 a0.ID))), (C.p true (.v (.string a0.Model))), (C.own 6 0 ((x1 ++ ([r5] : List api_Inst)).length) 6), (C.p true (.v (.slice none 0 0))), (C.p true (.v (.int .i64 a0.Clock)))]) rfl rfl rfl (List.cons_ne_nil _ _) rfl F.sz_22 (nl rfl) rfl k
    ·refine AWops.weak (st' := ⟨47, (upd 47 (upd 47 (upd 47 (upd 47 (upd 47 (upd 47 topF 1 (D.one (C.ref 0 0))) 2 (D.one (C.ref 1 0))) 4 (D.one (C.p false (.sl a0.Docs.length (a0.Docs.flatMap e_api_Doc))))) 15 (D.one (C.p false (.sl a0.Insts.length (a0.Insts.flatMap e_api_Inst))))) 16 (sc (.int .i64 (a0.Insts.length : Int)))) 17 (sc (.int .i64 x2))), [(some (AObj.cells true [(C.p true (.v (.int .i64 a0.ID))), (C.p true (.v (.string a0.Model))), (C.own 2 0 ((x1 ++ ([r5] : List api_Inst)).length) 6), (C.p true (.v (.slice none 0 0))), (C.p true (.v (.int .i64 a0.Clock)))])), (some (AObj.cells true [(C.p true (.v (.int .i64 0))), (C.p true (.v (.string (⟨#[]⟩ : ByteArray)))), (C.p true (.v (.slice none 0 0))), (C.p true (.v (.slice none 0 0))), (C.p true (.v (.int .i64 0)))])), (some (AObj.cells true (rowC e_api_Inst (x1 ++ ([r5] : List api_Inst)))))]⟩) (Weak.gen (kk := 0) [0, 1, 6] [] hx rfl (by decide) (by decide) rfl rfl rfl (le_upd (le_upd (le_upd (le_upd (le_upd (le_upd (le_top _) (.t (.one (.ref rfl)))) (.t (.one (.ref rfl)))) (.t (.one .same))) (.t (.one .same))) (.t (.one .sc))) (.t (.one .sc))) (ac (.cells (fun h => h) (ac .sc (ac .sc (ac (.own rfl) (ac .sc (ac .sc an)))))) (ac (.cells (fun h => h) (ac .sc (ac .sc (ac .sc (ac .sc (ac .sc an)))))) (ac (.cells (fun h => h) (all2_row _)) an)))) (AWops.nil (AW.region ?_))
     refine s_binI (v := (.int .i64 (IntKind.i64.wrap (x2 + 1)))) rfl rfl rfl ?_
     refine s_move (d := (sc (.int .i64 (IntKind.i64.wrap (x2 + 1))))) rfl (AWops.nil ?_)
     exact ⟨_, ⟨47, (upd 47 (upd 47 (upd 47 (upd 47 (upd 47 (upd 47 topF 1 (D.one (C.ref 0 0))) 2 (D.one (C.ref 1 0))) 4 (D.one (C.p false (.sl a0.Docs.length (a0.Docs.flatMap e_api_Doc))))) 15 (D.one (C.p false (.sl a0.Insts.length (a0.Insts.flatMap e_api_Inst))))) 16 (sc (.int .i64 (a0.Insts.length : Int)))) 17 (sc (.int .i64 (IntKind.i64.wrap (x2 + 1))))), [(some (AObj.cells true [(C.p true (.v (.int .i64 a0.ID))), (C.p true (.v (.string a0.Model))), (C.own 2 0 (x1 ++ ([r5] : List api_Inst)).length 6), (C.p true (.v (.slice none 0 0))), (C.p true (.v (.int .i64 a0.Clock)))])), (some (AObj.cells true [(C.p true (.v (.int .i64 0))), (C.p true (.v (.string (⟨#[]⟩ : ByteArray)))), (C.p true (.v (.slice none 0 0))), (C.p true (.v (.slice none 0 0))), (C.p true (.v (.int .i64 0)))])), (some (AObj.cells true (rowC e_api_Inst (x1 ++ ([r5] : List api_Inst)))))]⟩, by omega, (Weak.gen (kk := 0) [0, 1, 2] [] hx rfl (by decide) (by decide) rfl rfl rfl (le_upd (le_upd (le_upd (le_upd (le_upd (le_upd (le_top _) (.t (.one (.ref rfl)))) (.t (.one (.ref rfl)))) (.t (.one .same))) (.t (.one .same))) (.t (.one .sc))) (.t (.one .sc))) (ac (.cells (fun h => h) (ac .sc (ac .sc (ac (.own rfl) (ac .sc (ac .sc an)))))) (ac (.cells (fun h => h) (ac .sc (ac .sc (ac .sc (ac .sc (ac .sc an)))))) (ac (.cells (fun h => h) (all2_row _)) an)))), by omega, x1 ++ ([r5] : List api_Inst), IntKind.i64.wrap (x2 + 1), h, rfl⟩
   ·refine AW.cond_no rfl c3 (AW.exit (AW.seq (AW.seq (AW.region ?_))))
    refine s_move (d := (D.one (C.p false (.sl a0.Docs.length (a0.Docs.flatMap e_api_Doc))))) rfl ?_
    refine s_len (n := a0.Docs.length) F.u_23 rfl (.inr ⟨(fun _ _ h => by cases h), ⟨_, rfl⟩⟩) ?_
    refine s_move (d := (sc (.int .i64 0))) rfl (AWops.nil (AW.block ?_))
    refine AW.loopw (st0 := ⟨47, (upd 47 (upd 47 (upd 47 (upd 47 (upd 47 topF 1 (D.one (C.ref 0 0))) 2 (D.one (C.ref 1 0))) 29 (D.one (C.p false (.sl a0.Docs.length (a0.Docs.flatMap e_api_Doc))))) 30 (sc (.int .i64 (a0.Docs.length : Int)))) 31 (sc (.int .i64 0))), [(some (AObj.cells true [(C.p true (.v (.int .i64 a0.ID))), (C.p true (.v (.string a0.Model))), (C.own 2 0 x1.length 6), (C.own 3 0 ([] : List api_Doc).length 6), (C.p true (.v (.int .i64 a0.Clock)))])), (some (AObj.cells true [(C.p true (.v (.int .i64 0))), (C.p true (.v (.string (⟨#[]⟩ : ByteArray)))), (C.p true (.v (.slice none 0 0))), (C.p true (.v (.slice none 0 0))), (C.p true (.v (.int .i64 0)))])), (some (AObj.cells true (rowC e_api_Inst x1))), (some (AObj.cells true (rowC e_api_Doc ([] : List api_Doc))))]⟩) (fun kv st => kv ≤ ql0 ∧ ∃ (x7 : List api_Doc) (x8 : Int), tree_Copy.l1 kv x7 x8 a0 x1 = some r ∧ st = ⟨47, (upd 47 (upd 47 (upd 47 (upd 47 (upd 47 topF 1 (D.one (C.ref 0 0))) 2 (D.one (C.ref 1 0))) 29 (D.one (C.p false (.sl a0.Docs.length (a0.Docs.flatMap e_api_Doc))))) 30 (sc (.int .i64 (a0.Docs.length : Int)))) 31 (sc (.int .i64 x8))), [(some (AObj.cells true [(C.p true (.v (.int .i64 a0.ID))), (C.p true (.v (.string a0.Model))), (C.own 2 0 x1.length 6), (C.own 3 0 x7.length 6), (C.p true (.v (.int .i64 a0.Clock)))])), (some (AObj.cells true [(C.p true (.v (.int .i64 0))), (C.p true (.v (.string (⟨#[]⟩ : ByteArray)))), (C.p true (.v (.slice none 0 0))), (C.p true (.v (.slice none 0 0))), (C.p true (.v (.int .i64 0)))])), (some (AObj.cells true (rowC e_api_Inst x1))), (some (AObj.cells true (rowC e_api_Doc x7)))]⟩) (k := ql0) (Weak.trans (Weak.nilC (t := 0) (j := 3) (sz := 6) rfl rfl rfl) (Weak.gen (kk := 0) [0, 1, 2, 3] [] hx rfl (by decide) (by decide) rfl rfl rfl (le_upd (le_upd (le_upd (le_upd (le_upd (le_top _) (.t (.one (.ref rfl)))) (.t (.one (.ref rfl)))) (.t (.one .same))) (.t (.one .sc))) (.t (.one .sc))) (ac (.cells (fun h => h) (ac .sc (ac .sc (ac (.own rfl) (ac (.own rfl) (ac .sc an)))))) (ac (.cells (fun h => h) (ac .sc (ac .sc (ac .sc (ac .sc (ac .sc an)))))) (ac (.cells (fun h => h) (all2_row _)) (ac (.cells (fun h => h) an) an)))))) ⟨Nat.le_refl _, ([] : List api_Doc), 0, h, rfl⟩ ?_
    rintro ql1 st ⟨hkl1, x7, x8, h, rfl⟩
    cases ql1 with
    | zero => exact absurd h (by simp [tree_Copy.l1])
    | succ ql1 =>
     replace h := (tree_Copy.l1.eq_2 _ _ _ _ _).symm.trans h
     refine AW.seq (AW.region ?_)
     refine s_binI (v := (.bool (decide (x8 < (a0.Docs.length : Int))))) rfl rfl rfl (AWops.nil (AW.seq ?_))
     rcases itH h with ⟨c9, h⟩ | ⟨c9, h⟩
     ·refine AW.cond_yes rfl c9 (AW.skip (AW.seq (AW.block (AW.seq (AW.region ?_)))))
      obtain ⟨v10, ev10, h⟩ := bnd h
      obtain ⟨pv10, qv10, gv10⟩ := rd_some ev10
      refine s_indexImm (ps := (p_api_Doc v10)) F.u_23 F.sz_44 rfl rfl pv10 qv10 (flat_at e_api_Doc_len gv10 (e_api_Doc_eq v10)) ?_
      refine s_loadN (ds := (c_api_Doc v10)) F.ag_44 F.sz_44 rfl rfl rfl ?_
      refine s_alloc (cs := [(C.p true (.v (.string (⟨#[]⟩ : ByteArray)))), (C.p true (.v (.int .i64 0))), (C.p true (.v (.int .i64 0))), (C.p true (.v (.bool false))), (C.p true (.v (.string (⟨#[]⟩ : ByteArray)))), (C.p true (.v (.slice none 0 0)))]) F.z_44 rfl rfl ?_
      refine s_store (cs' := (c_api_Doc v10)) rfl rfl rfl (List.cons_ne_nil _ _) rfl F.sz_44 (nl rfl) rfl (AWops.nil (AW.seq (AW.region ?_)))
      refine s_fieldRef F.fo_44_2 (by decide) rfl ?_
      refine s_load1 (c' := (C.p false (.sl v10.Refs.length (v10.Refs.flatMap e_str)))) F.ag_42 rfl rfl ?_
      obtain ⟨r11, er11, h⟩ := bnd h
      refine s_call2 (ρ := []) (br := false) (H2 := [(some (AObj.cells true [(C.p true (.v (.int .i64 a0.ID))), (C.p true (.v (.string a0.Model))), (C.own 2 0 x1.length 6), (C.own 3 0 x7.length 6), (C.p true (.v (.int .i64 a0.Clock)))])), (some (AObj.cells true [(C.p true (.v (.int .i64 0))), (C.p true (.v (.string (⟨#[]⟩ : ByteArray)))), (C.p true (.v (.slice none 0 0))), (C.p true (.v (.slice none 0 0))), (C.p true (.v (.int .i64 0)))])), (some (AObj.cells true (rowC e_api_Inst x1))), (some (AObj.cells true (rowC e_api_Doc x7))), (some (AObj.cells true (c_api_Doc v10))), (some (AObj.cells true (rowC e_str r11)))]) (d := (D.one (C.own 5 0 r11.length 1))) F.ca_39 rfl rfl (ac (.one .imm) an) an (by decide) rfl (slices_Clone_string_string.meets _ v10.Refs r11 er11) (.inl rfl) (by first | rfl | (simp only [mergeH2, orF, Bool.false_or, Bool.or_false, Bool.true_or, Bool.or_true, mergeAt, mergeObj, renO, ren_row, List.drop_succ_cons, List.drop_zero, List.map_cons, List.map_nil, Option.map_some, Option.map_none, List.length_cons, List.length_nil, Nat.zero_add, List.append_assoc, List.cons_append, List.nil_append]; done) | (simp only [mergeH2, orF, Bool.false_or, Bool.or_false, Bool.true_or, Bool.or_true, mergeAt, mergeObj, renO, ren_row, List.drop_succ_cons, List.drop_zero, List.map_cons, List.map_nil, Option.map_some, Option.map_none, List.length_cons, List.length_nil, Nat.zero_add, List.append_assoc, List.cons_append, List.nil_append]; rfl)) rfl ?_
      refine s_fieldRef F.fo_44_2 (by decide) rfl ?_
      refine s_store (cs' := [(C.p true (.v (.string v10.Path))), (C.p true (.v (.int .i64 v10.Value.Kind))), (C.p true (.v (.int .i64 v10.Value.Int))), (C.p true (.v (.bool v10.Value.Bool))), (C.p true (.v (.string v10.Value.Text))), (C.own 5 0 r11.length 1)]) rfl rfl rfl (List.cons_ne_nil _ _) rfl F.sz_42 (nl rfl) rfl (AWops.nil (AW.region ?_))
      refine s_fieldRef F.fo_25_3 (by decide) rfl ?_
      refine s_load1 (c' := (C.own 3 0 x7.length 6)) F.ag_23 rfl rfl ?_
      refine s_loadN (ds := [(C.p true (.v (.string v10.Path))), (C.p true (.v (.int .i64 v10.Value.Kind))), (C.p true (.v (.int .i64 v10.Value.Int))), (C.p true (.v (.bool v10.Value.Bool))), (C.p true (.v (.string v10.Value.Text))), (C.own 5 0 r11.length 1)]) F.ag_44 F.sz_44 rfl rfl rfl ?_
      refine AWops.weak (st' := ⟨47, (upd 47 (upd 47 (upd 47 (upd 47 (upd 47 (upd 47 (upd 47 (upd 47 (upd 47 (upd 47 (upd 47 (upd 47 (upd 47 (upd 47 (upd 47 (upd 47 topF 1 (D.one (C.ref 0 0))) 2 (D.one (C.ref 1 0))) 8 (D.one (C.ref 2 0))) 29 (D.one (C.p false (.sl a0.Docs.length (a0.Docs.flatMap e_api_Doc))))) 30 (sc (.int .i64 (a0.Docs.length : Int)))) 31 (sc (.int .i64 x8))) 32 (sc (.bool (decide (x8 < (a0.Docs.length : Int)))))) 33 (D.one (C.peek false (p_api_Doc v10)))) 34 (D.agg (c_api_Doc v10))) 35 (D.one (C.ref 2 5))) 36 (D.one (C.p false (.sl v10.Refs.length (v10.Refs.flatMap e_str))))) 37 (D.one (C.p false (.sl r11.length (r11.flatMap e_str))))) 38 (D.one (C.ref 2 5))) 39 (D.one (C.ref 0 3))) 40 (D.one (C.own 3 0 x7.length 6))) 41 (D.agg [(C.p true (.v (.string v10.Path))), (C.p true (.v (.int .i64 v10.Value.Kind))), (C.p true (.v (.int .i64 v10.Value.Int))), (C.p true (.v (.bool v10.Value.Bool))), (C.p true (.v (.string v10.Value.Text))), (C.p false (.sl r11.length (r11.flatMap e_str)))])), [(some (AObj.cells true [(C.p true (.v (.int .i64 a0.ID))), (C.p true (.v (.string a0.Model))), (C.own 4 0 x1.length 6), (C.own 3 0 x7.length 6), (C.p true (.v (.int .i64 a0.Clock)))])), (some (AObj.cells true [(C.p true (.v (.int .i64 0))), (C.p true (.v (.string (⟨#[]⟩ : ByteArray)))), (C.p true (.v (.slice none 0 0))), (C.p true (.v (.slice none 0 0))), (C.p true (.v (.int .i64 0)))])), (some (AObj.cells true [(C.p true (.v (.string v10.Path))), (C.p true (.v (.int .i64 v10.Value.Kind))), (C.p true (.v (.int .i64 v10.Value.Int))), (C.p true (.v (.bool v10.Value.Bool))), (C.p true (.v (.string v10.Value.Text))), (C.p false (.sl r11.length (r11.flatMap e_str)))])), (some (AObj.cells true (rowC e_api_Doc x7))), (some (AObj.cells true (rowC e_api_Inst x1)))]⟩) (Weak.gen (kk := 0) [0, 1, 4, 3, 2] [5] hx rfl (by decide) (by decide) rfl rfl rfl (le_upd (le_upd (le_upd (le_upd (le_upd (le_upd (le_upd (le_upd (le_upd (le_upd (le_upd (le_upd (le_upd (le_upd (le_upd (le_upd (le_top _) (.t (.one (.ref rfl)))) (.t (.one (.ref rfl)))) (.t (.one (.ref rfl)))) (.t (.one .same))) (.t (.one .sc))) (.t (.one .sc))) (.t (.one .sc))) (.t (.one .peek))) (.t (.agg (ac .sc (ac .sc (ac .sc (ac .sc (ac .sc (ac .same an))))))))) (.t (.one (.ref rfl)))) (.t (.one .same))) (.t (.one (CLe.frz e_str_len rfl rfl rfl)))) (.t (.one (.ref rfl)))) (.t (.one (.ref rfl)))) (.t (.one (.own rfl)))) (.t (.agg (ac .sc (ac .sc (ac .sc (ac .sc (ac .sc (ac (CLe.frz e_str_len rfl rfl rfl) an))))))))) (ac (.cells (fun h => h) (ac .sc (ac .sc (ac (.own rfl) (ac (.own rfl) (ac .sc an)))))) (ac (.cells (fun h => h) (ac .sc (ac .sc (ac .sc (ac .sc (ac .sc an)))))) (ac (.cells (fun h => h) (ac .sc (ac .sc (ac .sc (ac .sc (ac .sc (ac (CLe.frz e_str_len rfl rfl rfl) an))))))) (ac (.cells (fun h => h) (all2_row _)) (ac (.cells (fun h => h) (all2_row _)) an)))))) ?_
      refine s_buildSlice (n := 1) (ps := [(0, (D.agg [(C.p true (.v (.string v10.Path))), (C.p true (.v (.int .i64 v10.Value.Kind))), (C.p true (.v (.int .i64 v10.Value.Int))), (C.p true (.v (.bool v10.Value.Bool))), (C.p true (.v (.string v10.Value.Text))), (C.p false (.sl r11.length (r11.flatMap e_str)))]))]) (cs := rowC e_api_Doc ([(⟨v10.Path, v10.Value, r11⟩ : api_Doc)] : List api_Doc)) F.u_23 F.sz_44 F.z_44 rfl rfl (by decide) (by decide) rfl rfl ?_
      obtain ⟨c12, h⟩ := gdH h
      have dc12 := of_decide_eq_true c12
      refine t_append (xs := x7) (ys := ([(⟨v10.Path, v10.Value, r11⟩ : api_Doc)] : List api_Doc)) (zs := x7 ++ ([(⟨v10.Path, v10.Value, r11⟩ : api_Doc)] : List api_Doc)) (H' := [(some (AObj.cells true [(C.p true (.v (.int .i64 a0.ID))), (C.p true (.v (.string a0.Model))), (C.own 4 0 x1.length 6), (C.own 3 0 x7.length 6), (C.p true (.v (.int .i64 a0.Clock)))])), (some (AObj.cells true [(C.p true (.v (.int .i64 0))), (C.p true (.v (.string (⟨#[]⟩ : ByteArray)))), (C.p true (.v (.slice none 0 0))), (C.p true (.v (.slice none 0 0))), (C.p true (.v (.int .i64 0)))])), (some (AObj.cells true [(C.p true (.v (.string v10.Path))), (C.p true (.v (.int .i64 v10.Value.Kind))), (C.p true (.v (.int .i64 v10.Value.Int))), (C.p true (.v (.bool v10.Value.Bool))), (C.p true (.v (.string v10.Value.Text))), (C.p false (.sl r11.length (r11.flatMap e_str)))])), none, (some (AObj.cells true (rowC e_api_Inst x1))), (some (AObj.cells true (rowC e_api_Doc ([(⟨v10.Path, v10.Value, r11⟩ : api_Doc)] : List api_Doc)))), (some (AObj.cells true (rowC e_api_Doc (x7 ++ ([(⟨v10.Path, v10.Value, r11⟩ : api_Doc)] : List api_Doc)))))]) F.u_23 F.in_44 rfl e_api_Doc_len (.own rfl rfl) (.own rfl rfl) F.u_23 (by omega) (by omega) rfl rfl ?_
      refine s_fieldRef F.fo_25_3 (by decide) rfl ?_
      refine s_store (cs' := [(C.p true (.v (.int .i64 a0.ID))), (C.p true (.v (.string a0.Model))), (C.own 4 0 x1.length 6), (C.own 6 0 ((x7 ++ ([(⟨v10.Path, v10.Value, r11⟩ : api_Doc)] : List api_Doc)).length) 6), (C.p true (.v (.int .i64 a0.Clock)))]) rfl rfl rfl (List.cons_ne_nil _ _) rfl F.sz_23 (nl rfl) rfl (AWops.nil (AW.region ?_))
      refine s_binI (v := (.int .i64 (IntKind.i64.wrap (x8 + 1)))) rfl rfl rfl ?_
      refine s_move (d := (sc (.int .i64 (IntKind.i64.wrap (x8 + 1))))) rfl (AWops.nil ?_)
      exact ⟨_, ⟨47, (upd 47 (upd 47 (upd 47 (upd 47 (upd 47 topF 1 (D.one (C.ref 0 0))) 2 (D.one (C.ref 1 0))) 29 (D.one (C.p false (.sl a0.Docs.length (a0.Docs.flatMap e_api_Doc))))) 30 (sc (.int .i64 (a0.Docs.length : Int)))) 31 (sc (.int .i64 (IntKind.i64.wrap (x8 + 1))))), [(some (AObj.cells true [(C.p true (.v (.int .i64 a0.ID))), (C.p true (.v (.string a0.Model))), (C.own 2 0 x1.length 6), (C.own 3 0 (x7 ++ ([(⟨v10.Path, v10.Value, r11⟩ : api_Doc)] : List api_Doc)).length 6), (C.p true (.v (.int .i64 a0.Clock)))])), (some (AObj.cells true [(C.p true (.v (.int .i64 0))), (C.p true (.v (.string (⟨#[]⟩ : ByteArray)))), (C.p true (.v (.slice none 0 0))), (C.p true (.v (.slice none 0 0))), (C.p true (.v (.int .i64 0)))])), (some (AObj.cells true (rowC e_api_Inst x1))), (some (AObj.cells true (rowC e_api_Doc (x7 ++ ([(⟨v10.Path, v10.Value, r11⟩ : api_Doc)] : List api_Doc)))))]⟩, by omega, (Weak.gen (kk := 0) [0, 1, 4, 6] [] hx rfl (by decide) (by decide) rfl rfl rfl (le_upd (le_upd (le_upd (le_upd (le_upd (le_top _) (.t (.one (.ref rfl)))) (.t (.one (.ref rfl)))) (.t (.one .same))) (.t (.one .sc))) (.t (.one .sc))) (ac (.cells (fun h => h) (ac .sc (ac .sc (ac (.own rfl) (ac (.own rfl) (ac .sc an)))))) (ac (.cells (fun h => h) (ac .sc (ac .sc (ac .sc (ac .sc (ac .sc an)))))) (ac (.cells (fun h => h) (all2_row _)) (ac (.cells (fun h => h) (all2_row _)) an))))), by omega, x7 ++ ([(⟨v10.Path, v10.Value, r11⟩ : api_Doc)] : List api_Doc), IntKind.i64.wrap (x8 + 1), h, rfl⟩
     ·refine AW.cond_no rfl c9 (AW.exit (AW.seq (AW.region ?_)))
      refine s_loadN (ds := [(C.p true (.v (.int .i64 a0.ID))), (C.p true (.v (.string a0.Model))), (C.own 2 0 x1.length 6), (C.own 3 0 x7.length 6), (C.p true (.v (.int .i64 a0.Clock)))]) F.ag_25 F.sz_25 rfl rfl rfl ?_
      refine s_store (cs' := [(C.p true (.v (.int .i64 a0.ID))), (C.p true (.v (.string a0.Model))), (C.own 2 0 x1.length 6), (C.own 3 0 x7.length 6), (C.p true (.v (.int .i64 a0.Clock)))]) rfl rfl rfl (List.cons_ne_nil _ _) rfl F.sz_25 (nl rfl) rfl (AWops.nil (AW.ret ?_))
      obtain rfl := Option.some.inj h
      exact ⟨_, rfl, (Weak.gen (kk := 0) [] [2, 3] rfl rfl (by decide) (by decide) rfl rfl rfl (le_upd (le_top _) (.t (.agg (ac .sc (ac .sc (ac (CLe.frz e_api_Inst_len rfl rfl rfl) (ac (CLe.frz e_api_Doc_len rfl rfl rfl) (ac .sc an)))))))) an)⟩
mutual
def chars_Text.l0 : Nat → (List Int) → Int → Int → Int → Option ByteArray
 | 0, _, _, _, _ => none
 | k + 1, x1, x2, x3, a0 => if (decide ((IntKind.i64.wrap (x2 - 1)) < 20)) = true then ((rd x1 (IntKind.i64.wrap (x2 - 1))).bind fun v5 => if ((IntKind.i64.wrap (Int.tdiv x3 10)) == 0) = true then (if (decide (a0 < 0)) = true then (if (decide ((IntKind.i64.wrap ((IntKind.i64.wrap (x2 - 1)) - 1)) < 20)) = true then ((rd (x1.set (IntKind.i64.wrap (x2 - 1)).toNat (IntKind.u8.wrap (IntKind.i64.wrap (48 + (if (IntKind.i64.wrap (0 - (Int.tmod x3 10))) > (Int.tmod x3 10) then (IntKind.i64.wrap (0 - (Int.tmod x3 10))) else (Int.tmod x3 10)))))) (IntKind.i64.wrap ((IntKind.i64.wrap (x2 - 1)) - 1))).bind fun v9 => if (decide (0 ≤ (IntKind.i64.wrap ((IntKind.i64.wrap (x2 - 1)) - 1)) ∧ (IntKind.i64.wrap ((IntKind.i64.wrap (x2 - 1)) - 1)) < 20 ∧ 20 ≤ ((x1.set (IntKind.i64.wrap (x2 - 1)).toNat (IntKind.u8.wrap (IntKind.i64.wrap (48 + (if (IntKind.i64.wrap (0 - (Int.tmod x3 10))) > (Int.tmod x3 10) then (IntKind.i64.wrap (0 - (Int.tmod x3 10))) else (Int.tmod x3 10)))))).set (IntKind.i64.wrap ((IntKind.i64.wrap (x2 - 1)) - 1)).toNat 45).length)) = true then (some (ofNums ((((x1.set (IntKind.i64.wrap (x2 - 1)).toNat (IntKind.u8.wrap (IntKind.i64.wrap (48 + (if (IntKind.i64.wrap (0 - (Int.tmod x3 10))) > (Int.tmod x3 10) then (IntKind.i64.wrap (0 - (Int.tmod x3 10))) else (Int.tmod x3 10)))))).set (IntKind.i64.wrap ((IntKind.i64.wrap (x2 - 1)) - 1)).toNat 45).drop (IntKind.i64.wrap ((IntKind.i64.wrap (x2 - 1)) - 1)).toNat).take (20 - (IntKind.i64.wrap ((IntKind.i64.wrap (x2 - 1)) - 1)).toNat)))) else none) else none) else (if (decide (0 ≤ (IntKind.i64.wrap (x2 - 1)) ∧ (IntKind.i64.wrap (x2 - 1)) < 20 ∧ 20 ≤ (x1.set (IntKind.i64.wrap (x2 - 1)).toNat (IntKind.u8.wrap (IntKind.i64.wrap (48 + (if (IntKind.i64.wrap (0 - (Int.tmod x3 10))) > (Int.tmod x3 10) then (IntKind.i64.wrap (0 - (Int.tmod x3 10))) else (Int.tmod x3 10)))))).length)) = true then (some (ofNums (((x1.set (IntKind.i64.wrap (x2 - 1)).toNat (IntKind.u8.wrap (IntKind.i64.wrap (48 + (if (IntKind.i64.wrap (0 - (Int.tmod x3 10))) > (Int.tmod x3 10) then (IntKind.i64.wrap (0 - (Int.tmod x3 10))) else (Int.tmod x3 10)))))).drop (IntKind.i64.wrap (x2 - 1)).toNat).take (20 - (IntKind.i64.wrap (x2 - 1)).toNat)))) else none)) else (chars_Text.l0 k (x1.set (IntKind.i64.wrap (x2 - 1)).toNat (IntKind.u8.wrap (IntKind.i64.wrap (48 + (if (IntKind.i64.wrap (0 - (Int.tmod x3 10))) > (Int.tmod x3 10) then (IntKind.i64.wrap (0 - (Int.tmod x3 10))) else (Int.tmod x3 10)))))) (IntKind.i64.wrap (x2 - 1)) (IntKind.i64.wrap (Int.tdiv x3 10)) a0)) else none
end
def chars_Text.f (k : Nat) (a0 : Int) : Option ByteArray := chars_Text.l0 k (List.replicate 20 (0 : Int)) 20 a0 a0
theorem chars_Text.meets (k : Nat) (a0 : Int) (r : ByteArray) (h : chars_Text.f k a0 = some r) : Meets Try.prog 40 [(sc (.int .i64 a0))] [] (sc (.string r)) [] := by
 unfold chars_Text.f at h
 refine Meets.of_body (n := 34) Try.func40 rfl rfl (nl rfl) fun x hx => ?_
 replace hx : x.k = 0 := hx
 show AW _ x _ _ ⟨34, fr0 [(sc (.int .i64 a0))], []⟩
 refine AW.seq (AW.region ?_)
 refine s_assign (d := (sc (.string (⟨#[]⟩ : ByteArray)))) rfl (AWops.nil (AW.seq (AW.region ?_)))
 refine s_alloc (cs := rowC e_u8 (List.replicate 20 (0 : Int))) F.z_66 rfl rfl (AWops.nil (AW.seq (AW.region ?_)))
 refine s_assign (d := (sc (.int .i64 20))) rfl (AWops.nil (AW.seq (AW.seq (AW.region ?_))))
 refine s_move (d := (sc (.int .i64 a0))) rfl ?_
 refine s_assign (d := (sc (.int .i64 a0))) rfl (AWops.nil (AW.block ?_))
 refine AW.loopw (st0 := ⟨34, (upd 34 (upd 34 (upd 34 (upd 34 topF 0 (sc (.int .i64 a0))) 3 (D.one (C.ref 0 0))) 4 (sc (.int .i64 20))) 5 (sc (.int .i64 a0))), [(some (AObj.cells true (rowC e_u8 (List.replicate 20 (0 : Int)))))]⟩) (fun kv st => kv ≤ k ∧ ∃ (x1 : List Int) (x2 : Int) (x3 : Int), chars_Text.l0 kv x1 x2 x3 a0 = some r ∧ st = ⟨34, (upd 34 (upd 34 (upd 34 (upd 34 topF 0 (sc (.int .i64 a0))) 3 (D.one (C.ref 0 0))) 4 (sc (.int .i64 x2))) 5 (sc (.int .i64 x3))), [(some (AObj.cells true (rowC e_u8 x1)))]⟩) (k := k) (Weak.gen (kk := 0) [0] [] hx rfl (by decide) (by decide) rfl rfl rfl (le_upd (le_upd (le_upd (le_upd (le_top _) (.t (.one .sc))) (.t (.one (.ref rfl)))) (.t (.one .sc))) (.t (.one .sc))) (ac (.cells (fun h => h) (all2_row _)) an)) ⟨Nat.le_refl _, (List.replicate 20 (0 : Int)), 20, a0, h, rfl⟩ ?_
 rintro ql0 st ⟨hkl0, x1, x2, x3, h, rfl⟩
 cases ql0 with
 | zero => exact absurd h (by simp [chars_Text.l0])
 | succ ql0 =>
  replace h := (chars_Text.l0.eq_2 _ _ _ _ _).symm.trans h
  refine AW.seq (AW.block (AW.seq (AW.region ?_)))
  refine s_move (d := (sc (.int .i64 x3))) rfl ?_
  refine s_binI (v := (.int .i64 (Int.tmod x3 10))) rfl rfl rfl ?_
  refine s_assign (d := (sc (.int .i64 (Int.tmod x3 10)))) rfl (AWops.nil (AW.seq (AW.region ?_)))
  refine s_move (d := (sc (.int .i64 x2))) rfl ?_
  refine s_binI (v := (.int .i64 (IntKind.i64.wrap (x2 - 1)))) rfl rfl rfl ?_
  refine s_assign (d := (sc (.int .i64 (IntKind.i64.wrap (x2 - 1))))) rfl (AWops.nil (AW.seq (AW.region ?_)))
  refine s_move (d := (sc (.int .i64 (IntKind.i64.wrap (x2 - 1))))) rfl ?_
  refine s_move (d := (sc (.int .i64 (Int.tmod x3 10)))) rfl ?_
  refine s_move (d := (sc (.int .i64 (Int.tmod x3 10)))) rfl ?_
  refine s_unI (v := (.int .i64 (IntKind.i64.wrap (0 - (Int.tmod x3 10))))) rfl rfl ?_
  refine s_max2 (r := (if (IntKind.i64.wrap (0 - (Int.tmod x3 10))) > (Int.tmod x3 10) then (IntKind.i64.wrap (0 - (Int.tmod x3 10))) else (Int.tmod x3 10))) rfl rfl rfl ?_
  refine s_binI (v := (.int .i64 (IntKind.i64.wrap (48 + (if (IntKind.i64.wrap (0 - (Int.tmod x3 10))) > (Int.tmod x3 10) then (IntKind.i64.wrap (0 - (Int.tmod x3 10))) else (Int.tmod x3 10)))))) rfl rfl rfl ?_
  refine s_convI F.u_3 F.u_5 rfl ?_
  obtain ⟨c4, h⟩ := gdH h
  obtain ⟨v5, ev5, h⟩ := bnd h
  obtain ⟨pv5, qv5, gv5⟩ := rd_some ev5
  refine s_indexArr (n := 20) (d := (D.one (C.ref 0 (0 + (IntKind.i64.wrap (x2 - 1)).toNat * 1)))) F.u_66 F.sz_5 rfl rfl pv5 (of_decide_eq_true c4) rfl ?_
  refine s_store (cs' := rowC e_u8 (x1.set (IntKind.i64.wrap (x2 - 1)).toNat (IntKind.u8.wrap (IntKind.i64.wrap (48 + (if (IntKind.i64.wrap (0 - (Int.tmod x3 10))) > (Int.tmod x3 10) then (IntKind.i64.wrap (0 - (Int.tmod x3 10))) else (Int.tmod x3 10))))))) rfl rfl rfl (List.cons_ne_nil _ _) rfl F.sz_5 (by rw [row_len e_u8_len]; have := (List.getElem?_eq_some_iff.mp gv5).1; show _ + 1 ≤ _; omega) (row_set (f := e_u8) (sz := 1) (o := 0) (ds := [P.v (.int .u8 (IntKind.u8.wrap (IntKind.i64.wrap (48 + (if (IntKind.i64.wrap (0 - (Int.tmod x3 10))) > (Int.tmod x3 10) then (IntKind.i64.wrap (0 - (Int.tmod x3 10))) else (Int.tmod x3 10))))))]) e_u8_len gv5 rfl (nl rfl) rfl) ?_
  refine AWops.nil (AW.seq (AW.region ?_))
  refine s_move (d := (sc (.int .i64 x3))) rfl ?_
  refine s_binI (v := (.int .i64 (IntKind.i64.wrap (Int.tdiv x3 10)))) rfl rfl rfl ?_
  refine s_binI (v := (.bool ((IntKind.i64.wrap (Int.tdiv x3 10)) == 0))) rfl rfl rfl (AWops.nil ?_)
  rcases itH h with ⟨c6, h⟩ | ⟨c6, h⟩
  ·refine AW.cond_yes rfl c6 (AW.exit (AW.seq (AW.seq (AW.region ?_))))
   refine s_move (d := (sc (.int .i64 a0))) rfl ?_
   refine s_binI (v := (.bool (decide (a0 < 0)))) rfl rfl rfl (AWops.nil ?_)
   rcases itH h with ⟨c7, h⟩ | ⟨c7, h⟩
   ·refine AW.cond_yes rfl c7 (AW.seq (AW.region ?_))
    refine s_move (d := (sc (.int .i64 (IntKind.i64.wrap (x2 - 1))))) rfl ?_
    refine s_binI (v := (.int .i64 (IntKind.i64.wrap ((IntKind.i64.wrap (x2 - 1)) - 1)))) rfl rfl rfl ?_
    refine s_assign (d := (sc (.int .i64 (IntKind.i64.wrap ((IntKind.i64.wrap (x2 - 1)) - 1))))) rfl (AWops.nil (AW.region ?_))
    refine s_move (d := (sc (.int .i64 (IntKind.i64.wrap ((IntKind.i64.wrap (x2 - 1)) - 1))))) rfl ?_
    obtain ⟨c8, h⟩ := gdH h
    obtain ⟨v9, ev9, h⟩ := bnd h
    obtain ⟨pv9, qv9, gv9⟩ := rd_some ev9
    refine s_indexArr (n := 20) (d := (D.one (C.ref 0 (0 + (IntKind.i64.wrap ((IntKind.i64.wrap (x2 - 1)) - 1)).toNat * 1)))) F.u_66 F.sz_5 rfl rfl pv9 (of_decide_eq_true c8) rfl ?_
    refine s_store (cs' := rowC e_u8 ((x1.set (IntKind.i64.wrap (x2 - 1)).toNat (IntKind.u8.wrap (IntKind.i64.wrap (48 + (if (IntKind.i64.wrap (0 - (Int.tmod x3 10))) > (Int.tmod x3 10) then (IntKind.i64.wrap (0 - (Int.tmod x3 10))) else (Int.tmod x3 10)))))).set (IntKind.i64.wrap ((IntKind.i64.wrap (x2 - 1)) - 1)).toNat 45)) rfl rfl rfl (List.cons_ne_nil _ _) rfl F.sz_5 (by rw [row_len e_u8_len]; have := (List.getElem?_eq_some_iff.mp gv9).1; show _ + 1 ≤ _; omega) (row_set (f := e_u8) (sz := 1) (o := 0) (ds := [P.v (.int .u8 45)]) e_u8_len gv9 rfl (nl rfl) rfl) ?_
    refine AWops.nil (AW.seq (AW.region ?_))
    refine s_move (d := (sc (.int .i64 (IntKind.i64.wrap ((IntKind.i64.wrap (x2 - 1)) - 1))))) rfl ?_
    obtain ⟨c10, h⟩ := gdH h
    have dc10 := of_decide_eq_true c10
    refine s_sliceArr (n := 20) (l := (IntKind.i64.wrap ((IntKind.i64.wrap (x2 - 1)) - 1)).toNat) (h := 20) F.u_66 F.sz_5 rfl rfl (by rw [row_len e_u8_len]; omega) (.yes rfl (by omega) rfl) .no (by omega) (Nat.le_refl _) (by omega) rfl ?_
    refine t_toStrO (xs := (x1.set (IntKind.i64.wrap (x2 - 1)).toNat (IntKind.u8.wrap (IntKind.i64.wrap (48 + (if (IntKind.i64.wrap (0 - (Int.tmod x3 10))) > (Int.tmod x3 10) then (IntKind.i64.wrap (0 - (Int.tmod x3 10))) else (Int.tmod x3 10)))))).set (IntKind.i64.wrap ((IntKind.i64.wrap (x2 - 1)) - 1)).toNat 45) (l := (IntKind.i64.wrap ((IntKind.i64.wrap (x2 - 1)) - 1)).toNat) (n := 20 - (IntKind.i64.wrap ((IntKind.i64.wrap (x2 - 1)) - 1)).toNat) F.u_67 F.u_5 F.u_9 rfl rfl (by omega) ?_
    refine s_assign (d := (sc (.string (ofNums ((((x1.set (IntKind.i64.wrap (x2 - 1)).toNat (IntKind.u8.wrap (IntKind.i64.wrap (48 + (if (IntKind.i64.wrap (0 - (Int.tmod x3 10))) > (Int.tmod x3 10) then (IntKind.i64.wrap (0 - (Int.tmod x3 10))) else (Int.tmod x3 10)))))).set (IntKind.i64.wrap ((IntKind.i64.wrap (x2 - 1)) - 1)).toNat 45).drop (IntKind.i64.wrap ((IntKind.i64.wrap (x2 - 1)) - 1)).toNat).take (20 - (IntKind.i64.wrap ((IntKind.i64.wrap (x2 - 1)) - 1)).toNat)))))) rfl (AWops.nil (AW.ret ?_))
    obtain rfl := Option.some.inj h
    exact ⟨_, rfl, (Weak.gen (kk := 0) [] [] rfl rfl (by decide) (by decide) rfl rfl rfl (le_upd (le_top _) (.t (.one .sc))) an)⟩
   ·refine AW.cond_no rfl c7 (AW.skip (AW.seq (AW.region ?_)))
    refine s_move (d := (sc (.int .i64 (IntKind.i64.wrap (x2 - 1))))) rfl ?_
    obtain ⟨c11, h⟩ := gdH h
    have dc11 := of_decide_eq_true c11
    refine s_sliceArr (n := 20) (l := (IntKind.i64.wrap (x2 - 1)).toNat) (h := 20) F.u_66 F.sz_5 rfl rfl (by rw [row_len e_u8_len]; omega) (.yes rfl (by omega) rfl) .no (by omega) (Nat.le_refl _) (by omega) rfl ?_
    refine t_toStrO (xs := x1.set (IntKind.i64.wrap (x2 - 1)).toNat (IntKind.u8.wrap (IntKind.i64.wrap (48 + (if (IntKind.i64.wrap (0 - (Int.tmod x3 10))) > (Int.tmod x3 10) then (IntKind.i64.wrap (0 - (Int.tmod x3 10))) else (Int.tmod x3 10)))))) (l := (IntKind.i64.wrap (x2 - 1)).toNat) (n := 20 - (IntKind.i64.wrap (x2 - 1)).toNat) F.u_67 F.u_5 F.u_9 rfl rfl (by omega) ?_
    refine s_assign (d := (sc (.string (ofNums (((x1.set (IntKind.i64.wrap (x2 - 1)).toNat (IntKind.u8.wrap (IntKind.i64.wrap (48 + (if (IntKind.i64.wrap (0 - (Int.tmod x3 10))) > (Int.tmod x3 10) then (IntKind.i64.wrap (0 - (Int.tmod x3 10))) else (Int.tmod x3 10)))))).drop (IntKind.i64.wrap (x2 - 1)).toNat).take (20 - (IntKind.i64.wrap (x2 - 1)).toNat)))))) rfl (AWops.nil (AW.ret ?_))
    obtain rfl := Option.some.inj h
    exact ⟨_, rfl, (Weak.gen (kk := 0) [] [] rfl rfl (by decide) (by decide) rfl rfl rfl (le_upd (le_top _) (.t (.one .sc))) an)⟩
  ·refine AW.cond_no rfl c6 (AW.skip (AW.region ?_))
   refine s_move (d := (sc (.int .i64 x3))) rfl ?_
   refine s_binI (v := (.int .i64 (IntKind.i64.wrap (Int.tdiv x3 10)))) rfl rfl rfl ?_
   refine s_assign (d := (sc (.int .i64 (IntKind.i64.wrap (Int.tdiv x3 10))))) rfl (AWops.nil ?_)
   exact ⟨_, ⟨34, (upd 34 (upd 34 (upd 34 (upd 34 topF 0 (sc (.int .i64 a0))) 3 (D.one (C.ref 0 0))) 4 (sc (.int .i64 (IntKind.i64.wrap (x2 - 1))))) 5 (sc (.int .i64 (IntKind.i64.wrap (Int.tdiv x3 10))))), [(some (AObj.cells true (rowC e_u8 (x1.set (IntKind.i64.wrap (x2 - 1)).toNat (IntKind.u8.wrap (IntKind.i64.wrap (48 + (if (IntKind.i64.wrap (0 - (Int.tmod x3 10))) > (Int.tmod x3 10) then (IntKind.i64.wrap (0 - (Int.tmod x3 10))) else (Int.tmod x3 10)))))))))]⟩, by omega, (Weak.gen (kk := 0) [0] [] hx rfl (by decide) (by decide) rfl rfl rfl (le_upd (le_upd (le_upd (le_upd (le_top _) (.t (.one .sc))) (.t (.one (.ref rfl)))) (.t (.one .sc))) (.t (.one .sc))) (ac (.cells (fun h => h) (all2_row _)) an)), by omega, x1.set (IntKind.i64.wrap (x2 - 1)).toNat (IntKind.u8.wrap (IntKind.i64.wrap (48 + (if (IntKind.i64.wrap (0 - (Int.tmod x3 10))) > (Int.tmod x3 10) then (IntKind.i64.wrap (0 - (Int.tmod x3 10))) else (Int.tmod x3 10))))), IntKind.i64.wrap (x2 - 1), IntKind.i64.wrap (Int.tdiv x3 10), h, rfl⟩
def tree_Path.f (k : Nat) (a0 : ByteArray) (a1 : ByteArray) (a2 : Int) : Option ByteArray := if (decide (a1.size + (⟨#[46]⟩ : ByteArray).size ≤ 9223372036854775807)) = true then ((chars_Text.f k a2).bind fun r2 => if (decide ((a1 ++ (⟨#[46]⟩ : ByteArray)).size + r2.size ≤ 9223372036854775807)) = true then (if (a0.toList == (⟨#[]⟩ : ByteArray).toList) = true then (some ((a1 ++ (⟨#[46]⟩ : ByteArray)) ++ r2)) else (if (decide (a0.size + (⟨#[47]⟩ : ByteArray).size ≤ 9223372036854775807)) = true then (if (decide ((a0 ++ (⟨#[47]⟩ : ByteArray)).size + ((a1 ++ (⟨#[46]⟩ : ByteArray)) ++ r2).size ≤ 9223372036854775807)) = true then (some ((a0 ++ (⟨#[47]⟩ : ByteArray)) ++ ((a1 ++ (⟨#[46]⟩ : ByteArray)) ++ r2))) else none) else none)) else none) else none
theorem tree_Path.meets (k : Nat) (a0 : ByteArray) (a1 : ByteArray) (a2 : Int) (r : ByteArray) (h : tree_Path.f k a0 a1 a2 = some r) : Meets Try.prog 19 [(sc (.string a0)), (sc (.string a1)), (sc (.int .i64 a2))] [] (sc (.string r)) [] := by
 unfold tree_Path.f at h
 refine Meets.of_body (n := 20) Try.func19 rfl rfl (nl rfl) fun x hx => ?_
 replace hx : x.k = 0 := hx
 show AW _ x _ _ ⟨20, fr0 [(sc (.string a0)), (sc (.string a1)), (sc (.int .i64 a2))], []⟩
 refine AW.seq (AW.region ?_)
 refine s_assign (d := (sc (.string (⟨#[]⟩ : ByteArray)))) rfl (AWops.nil (AW.seq (AW.region ?_)))
 refine s_move (d := (sc (.string a1))) rfl ?_
 obtain ⟨c1, h⟩ := gdH h
 refine s_binS (v := (.string (a1 ++ (⟨#[46]⟩ : ByteArray)))) rfl rfl (if_neg (by have := of_decide_eq_true c1; omega)) ?_
 refine s_move (d := (sc (.int .i64 a2))) rfl ?_
 obtain ⟨r2, er2, h⟩ := bnd h
 refine s_call2 (ρ := []) (br := false) (H2 := []) (d := (sc (.string r2))) F.ca_40 rfl rfl (ac (.one .sc) an) an (by decide) rfl (chars_Text.meets _ a2 r2 er2) (.inl rfl) rfl rfl ?_
 obtain ⟨c3, h⟩ := gdH h
 refine s_binS (v := (.string ((a1 ++ (⟨#[46]⟩ : ByteArray)) ++ r2))) rfl rfl (if_neg (by have := of_decide_eq_true c3; omega)) ?_
 refine s_assign (d := (sc (.string ((a1 ++ (⟨#[46]⟩ : ByteArray)) ++ r2)))) rfl (AWops.nil (AW.seq (AW.seq (AW.region ?_))))
 refine s_move (d := (sc (.string a0))) rfl ?_
 refine s_binS (v := (.bool (!(a0.toList == (⟨#[]⟩ : ByteArray).toList)))) rfl rfl rfl (AWops.nil ?_)
 rcases itH h with ⟨c4, h⟩ | ⟨c4, h⟩
 ·refine AW.cond_no rfl (by rw [c4] <;> rfl) (AW.skip (AW.seq (AW.region ?_)))
  refine s_move (d := (sc (.string ((a1 ++ (⟨#[46]⟩ : ByteArray)) ++ r2)))) rfl ?_
  refine s_assign (d := (sc (.string ((a1 ++ (⟨#[46]⟩ : ByteArray)) ++ r2)))) rfl (AWops.nil (AW.ret ?_))
  obtain rfl := Option.some.inj h
  exact ⟨_, rfl, (Weak.gen (kk := 0) [] [] rfl rfl (by decide) (by decide) rfl rfl rfl (le_upd (le_top _) (.t (.one .sc))) an)⟩
 ·refine AW.cond_yes rfl (by rw [c4] <;> rfl) (AW.region ?_)
  refine s_move (d := (sc (.string a0))) rfl ?_
  obtain ⟨c5, h⟩ := gdH h
  refine s_binS (v := (.string (a0 ++ (⟨#[47]⟩ : ByteArray)))) rfl rfl (if_neg (by have := of_decide_eq_true c5; omega)) ?_
  refine s_move (d := (sc (.string ((a1 ++ (⟨#[46]⟩ : ByteArray)) ++ r2)))) rfl ?_
  obtain ⟨c6, h⟩ := gdH h
  refine s_binS (v := (.string ((a0 ++ (⟨#[47]⟩ : ByteArray)) ++ ((a1 ++ (⟨#[46]⟩ : ByteArray)) ++ r2)))) rfl rfl (if_neg (by have := of_decide_eq_true c6; omega)) ?_
  refine s_assign (d := (sc (.string ((a0 ++ (⟨#[47]⟩ : ByteArray)) ++ ((a1 ++ (⟨#[46]⟩ : ByteArray)) ++ r2))))) rfl (AWops.nil (AW.seq (AW.region ?_)))
  refine s_move (d := (sc (.string ((a0 ++ (⟨#[47]⟩ : ByteArray)) ++ ((a1 ++ (⟨#[46]⟩ : ByteArray)) ++ r2))))) rfl ?_
  refine s_assign (d := (sc (.string ((a0 ++ (⟨#[47]⟩ : ByteArray)) ++ ((a1 ++ (⟨#[46]⟩ : ByteArray)) ++ r2))))) rfl (AWops.nil (AW.ret ?_))
  obtain rfl := Option.some.inj h
  exact ⟨_, rfl, (Weak.gen (kk := 0) [] [] rfl rfl (by decide) (by decide) rfl rfl rfl (le_upd (le_top _) (.t (.one .sc))) an)⟩
def dossierlaw18_awake.f (k : Nat) : Option Bool := (tree_Path.f k (⟨#[112, 46, 49]⟩ : ByteArray) (⟨#[116]⟩ : ByteArray) 2).bind fun r1 => if (r1.toList == (⟨#[112, 46, 49, 47, 116, 46, 50]⟩ : ByteArray).toList) = true then ((tree_Up.f k (⟨#[112, 46, 49, 47, 116, 46, 50]⟩ : ByteArray)).bind fun r3 => some (r3.toList == (⟨#[112, 46, 49]⟩ : ByteArray).toList)) else (some false)
theorem dossierlaw18_awake.meets (k : Nat) (r : Bool) (h : dossierlaw18_awake.f k = some r) : Meets Try.prog 5 [] [] (sc (.bool r)) [] := by
 unfold dossierlaw18_awake.f at h
 refine Meets.of_body (n := 7) Try.func5 rfl rfl (nl rfl) fun x hx => ?_
 replace hx : x.k = 0 := hx
 show AW _ x _ _ ⟨7, fr0 [], []⟩
 refine AW.seq (AW.region ?_)
 refine s_assign (d := (sc (.bool false))) rfl (AWops.nil (AW.seq (AW.region ?_)))
 obtain ⟨r1, er1, h⟩ := bnd h
 refine s_call2 (ρ := []) (br := false) (H2 := []) (d := (sc (.string r1))) F.ca_19 rfl rfl (ac (.one .sc) (ac (.one .sc) (ac (.one .sc) an))) an (by decide) rfl (tree_Path.meets _ (⟨#[112, 46, 49]⟩ : ByteArray) (⟨#[116]⟩ : ByteArray) 2 r1 er1) (.inl rfl) rfl rfl ?_
 refine s_binS (v := (.bool (r1.toList == (⟨#[112, 46, 49, 47, 116, 46, 50]⟩ : ByteArray).toList))) rfl rfl rfl ?_
 refine s_move (d := (sc (.bool (r1.toList == (⟨#[112, 46, 49, 47, 116, 46, 50]⟩ : ByteArray).toList)))) rfl ?_
 rcases itH h with ⟨c2, h⟩ | ⟨c2, h⟩
 ·refine AWops.guard_yes rfl (nl rfl) rfl c2 ?_
  obtain ⟨r3, er3, h⟩ := bnd h
  refine s_call2 (ρ := []) (br := false) (H2 := []) (d := (sc (.string r3))) F.ca_20 rfl rfl (ac (.one .sc) an) an (by decide) rfl (tree_Up.meets _ (⟨#[112, 46, 49, 47, 116, 46, 50]⟩ : ByteArray) r3 er3) (.inl rfl) rfl rfl ?_
  refine AWops.guard_yes rfl (nl rfl) rfl c2 ?_
  refine s_binS (v := (.bool (r3.toList == (⟨#[112, 46, 49]⟩ : ByteArray).toList))) rfl rfl rfl ?_
  refine s_pick_yes (d := (sc (.bool (r3.toList == (⟨#[112, 46, 49]⟩ : ByteArray).toList)))) rfl c2 rfl ?_
  refine s_assign (d := (sc (.bool (r3.toList == (⟨#[112, 46, 49]⟩ : ByteArray).toList)))) rfl (AWops.nil (AW.ret ?_))
  obtain rfl := Option.some.inj h
  exact ⟨_, rfl, (Weak.gen (kk := 0) [] [] rfl rfl (by decide) (by decide) rfl rfl rfl (le_upd (le_top _) (.t (.one .sc))) an)⟩
 ·refine AWops.guard_no rfl (nl rfl) rfl c2 ?_
  refine AWops.guard_no rfl (nl rfl) rfl c2 ?_
  refine s_pick_no (d := (sc (.bool false))) rfl c2 rfl ?_
  refine s_assign (d := (sc (.bool false))) rfl (AWops.nil (AW.ret ?_))
  obtain rfl := Option.some.inj h
  exact ⟨_, rfl, (Weak.gen (kk := 0) [] [] rfl rfl (by decide) (by decide) rfl rfl rfl (le_upd (le_top _) (.t (.one .sc))) an)⟩
end Go.Abs.GenG
