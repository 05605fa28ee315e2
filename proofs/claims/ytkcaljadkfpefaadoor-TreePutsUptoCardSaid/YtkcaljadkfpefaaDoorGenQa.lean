import Derived.Test.YtkcaljadkfpefaaDoorAbsZ
import Derived.Test.YtkcaljadkfpefaaDoorAbsIN
import Derived.Test.YtkcaljadkfpefaaDoorProg
set_option linter.unusedVariables false
set_option linter.unusedSimpArgs false
set_option maxRecDepth 100000
set_option maxHeartbeats 4000000
namespace Go.Abs.GenQ
open Go.Abs Go.Proofs
structure api_Inst where
 Path : ByteArray
 Item : ByteArray
 State : Int
 Before : Int
 Latches : List Int
 Due : Int
abbrev c_api_Inst (x : api_Inst) : List C := [(C.p true (.v (.string x.Path))), (C.p true (.v (.string x.Item))), (C.p true (.v (.int .i64 x.State))), (C.p true (.v (.int .i64 x.Before))), (C.p false (.sl x.Latches.length (x.Latches.flatMap e_i64))), (C.p true (.v (.int .i64 x.Due)))]
abbrev p_api_Inst (x : api_Inst) : List P := [P.v (.string x.Path), P.v (.string x.Item), P.v (.int .i64 x.State), P.v (.int .i64 x.Before), P.sl x.Latches.length (x.Latches.flatMap e_i64), P.v (.int .i64 x.Due)]
def e_api_Inst (x : api_Inst) : List P := e_str x.Path ++ e_str x.Item ++ e_i64 x.State ++ e_i64 x.Before ++ (e_sl e_i64) x.Latches ++ e_i64 x.Due
theorem e_api_Inst_eq (x : api_Inst) : e_api_Inst x = [P.v (.string x.Path), P.v (.string x.Item), P.v (.int .i64 x.State), P.v (.int .i64 x.Before), P.sl x.Latches.length (x.Latches.flatMap e_i64), P.v (.int .i64 x.Due)] := rfl
theorem e_api_Inst_len (x : api_Inst) : (e_api_Inst x).length = 6 := by rw [e_api_Inst_eq]; rfl
structure api_Value where
 Kind : Int
 Int : Int
 Bool : Bool
 Text : ByteArray
abbrev c_api_Value (x : api_Value) : List C := [(C.p true (.v (.int .i64 x.Kind))), (C.p true (.v (.int .i64 x.Int))), (C.p true (.v (.bool x.Bool))), (C.p true (.v (.string x.Text)))]
abbrev p_api_Value (x : api_Value) : List P := [P.v (.int .i64 x.Kind), P.v (.int .i64 x.Int), P.v (.bool x.Bool), P.v (.string x.Text)]
def e_api_Value (x : api_Value) : List P := e_i64 x.Kind ++ e_i64 x.Int ++ e_bool x.Bool ++ e_str x.Text
theorem e_api_Value_eq (x : api_Value) : e_api_Value x = [P.v (.int .i64 x.Kind), P.v (.int .i64 x.Int), P.v (.bool x.Bool), P.v (.string x.Text)] := rfl
theorem e_api_Value_fr (x : api_Value) : ((e_api_Value x).map mkC).all frC = true := rfl
theorem e_api_Value_len (x : api_Value) : (e_api_Value x).length = 4 := by rw [e_api_Value_eq]; rfl
structure api_Doc where
 Path : ByteArray
 Value : api_Value
 Refs : List ByteArray
abbrev c_api_Doc (x : api_Doc) : List C := [(C.p true (.v (.string x.Path))), (C.p true (.v (.int .i64 x.Value.Kind))), (C.p true (.v (.int .i64 x.Value.Int))), (C.p true (.v (.bool x.Value.Bool))), (C.p true (.v (.string x.Value.Text))), (C.p false (.sl x.Refs.length (x.Refs.flatMap e_str)))]
abbrev p_api_Doc (x : api_Doc) : List P := [P.v (.string x.Path), P.v (.int .i64 x.Value.Kind), P.v (.int .i64 x.Value.Int), P.v (.bool x.Value.Bool), P.v (.string x.Value.Text), P.sl x.Refs.length (x.Refs.flatMap e_str)]
def e_api_Doc (x : api_Doc) : List P := e_str x.Path ++ e_api_Value x.Value ++ (e_sl e_str) x.Refs
theorem e_api_Doc_eq (x : api_Doc) : e_api_Doc x = [P.v (.string x.Path), P.v (.int .i64 x.Value.Kind), P.v (.int .i64 x.Value.Int), P.v (.bool x.Value.Bool), P.v (.string x.Value.Text), P.sl x.Refs.length (x.Refs.flatMap e_str)] := by
 simp only [e_api_Doc, e_api_Value_eq]
 rfl
theorem e_api_Doc_len (x : api_Doc) : (e_api_Doc x).length = 6 := by rw [e_api_Doc_eq]; rfl
structure api_Case where
 ID : Int
 Model : ByteArray
 Insts : List api_Inst
 Docs : List api_Doc
 Clock : Int
abbrev c_api_Case (x : api_Case) : List C := [(C.p true (.v (.int .i64 x.ID))), (C.p true (.v (.string x.Model))), (C.p false (.sl x.Insts.length (x.Insts.flatMap e_api_Inst))), (C.p false (.sl x.Docs.length (x.Docs.flatMap e_api_Doc))), (C.p true (.v (.int .i64 x.Clock)))]
abbrev p_api_Case (x : api_Case) : List P := [P.v (.int .i64 x.ID), P.v (.string x.Model), P.sl x.Insts.length (x.Insts.flatMap e_api_Inst), P.sl x.Docs.length (x.Docs.flatMap e_api_Doc), P.v (.int .i64 x.Clock)]
def e_api_Case (x : api_Case) : List P := e_i64 x.ID ++ e_str x.Model ++ (e_sl e_api_Inst) x.Insts ++ (e_sl e_api_Doc) x.Docs ++ e_i64 x.Clock
theorem e_api_Case_eq (x : api_Case) : e_api_Case x = [P.v (.int .i64 x.ID), P.v (.string x.Model), P.sl x.Insts.length (x.Insts.flatMap e_api_Inst), P.sl x.Docs.length (x.Docs.flatMap e_api_Doc), P.v (.int .i64 x.Clock)] := rfl
theorem e_api_Case_len (x : api_Case) : (e_api_Case x).length = 5 := by rw [e_api_Case_eq]; rfl
abbrev o_api_Case_23 (fr : Bool) (c2 c3 : C) (x : api_Case) : Option AObj := some (AObj.cells fr [(C.p true (.v (.int .i64 x.ID))), (C.p true (.v (.string x.Model))), c2, c3, (C.p true (.v (.int .i64 x.Clock)))])
abbrev o_api_Case_2 (fr : Bool) (c2 : C) (x : api_Case) : Option AObj := some (AObj.cells fr [(C.p true (.v (.int .i64 x.ID))), (C.p true (.v (.string x.Model))), c2, (C.p false (.sl x.Docs.length (x.Docs.flatMap e_api_Doc))), (C.p true (.v (.int .i64 x.Clock)))])
namespace F
theorem fo_25_2 : fieldOf Tryd.prog 25 2 = some (2, 1, false) := by kernel_rfl
theorem z_28 : zeroOf Tryd.prog 28 = some (.agg #[(.string ⟨#[]⟩), (.string ⟨#[]⟩), (.int .i64 0), (.int .i64 0), (.slice none 0 0), (.int .i64 0)]) := by kernel_rfl
theorem fo_28_0 : fieldOf Tryd.prog 28 0 = some (0, 1, false) := by kernel_rfl
theorem fo_28_4 : fieldOf Tryd.prog 28 4 = some (4, 1, false) := by kernel_rfl
theorem u_26 : Tryd.prog.underlying 26 = some (.slice 3) := by kernel_rfl
theorem ag_26 : aggOf Tryd.prog 26 = some false := by kernel_rfl
theorem u_9 : Tryd.prog.underlying 9 = some (.string) := by kernel_rfl
theorem ag_9 : aggOf Tryd.prog 9 = some false := by kernel_rfl
theorem sz_28 : szOf Tryd.prog 28 = some 6 := by kernel_rfl
theorem ag_28 : aggOf Tryd.prog 28 = some true := by kernel_rfl
theorem u_22 : Tryd.prog.underlying 22 = some (.slice 28) := by kernel_rfl
theorem fo_25_3 : fieldOf Tryd.prog 25 3 = some (3, 1, false) := by kernel_rfl
theorem z_39 : zeroOf Tryd.prog 39 = some (.agg #[(.string ⟨#[]⟩), (.int .i64 0), (.int .i64 0), (.bool false), (.string ⟨#[]⟩), (.slice none 0 0)]) := by kernel_rfl
theorem fo_39_0 : fieldOf Tryd.prog 39 0 = some (0, 1, false) := by kernel_rfl
theorem fo_39_2 : fieldOf Tryd.prog 39 2 = some (5, 1, false) := by kernel_rfl
theorem u_37 : Tryd.prog.underlying 37 = some (.slice 9) := by kernel_rfl
theorem ag_37 : aggOf Tryd.prog 37 = some false := by kernel_rfl
theorem sz_39 : szOf Tryd.prog 39 = some 6 := by kernel_rfl
theorem ag_39 : aggOf Tryd.prog 39 = some true := by kernel_rfl
theorem u_23 : Tryd.prog.underlying 23 = some (.slice 39) := by kernel_rfl
theorem ag_23 : aggOf Tryd.prog 23 = some false := by kernel_rfl
theorem ag_22 : aggOf Tryd.prog 22 = some false := by kernel_rfl
theorem z_65 : zeroOf Tryd.prog 65 = some (.agg #[(.int .u8 0), (.int .u8 0), (.int .u8 0), (.int .u8 0), (.int .u8 0), (.int .u8 0), (.int .u8 0), (.int .u8 0), (.int .u8 0), (.int .u8 0), (.int .u8 0), (.int .u8 0), (.int .u8 0), (.int .u8 0), (.int .u8 0), (.int .u8 0), (.int .u8 0), (.int .u8 0), (.int .u8 0), (.int .u8 0)]) := by kernel_rfl
theorem u_3 : Tryd.prog.underlying 3 = some (.int .i64) := by kernel_rfl
theorem u_5 : Tryd.prog.underlying 5 = some (.int .u8) := by kernel_rfl
theorem sz_5 : szOf Tryd.prog 5 = some 1 := by kernel_rfl
theorem u_65 : Tryd.prog.underlying 65 = some (.array 20 5) := by kernel_rfl
theorem u_66 : Tryd.prog.underlying 66 = some (.slice 5) := by kernel_rfl
theorem ca_24 : callable Tryd.prog 24 = true := by kernel_rfl
theorem ca_42 : callable Tryd.prog 42 = true := by kernel_rfl
theorem ca_25 : callable Tryd.prog 25 = true := by kernel_rfl
theorem ca_11 : callable Tryd.prog 11 = true := by kernel_rfl
theorem ca_10 : callable Tryd.prog 10 = true := by kernel_rfl
theorem z_25 : zeroOf Tryd.prog 25 = some (.agg #[(.int .i64 0), (.string ⟨#[]⟩), (.slice none 0 0), (.slice none 0 0), (.int .i64 0)]) := by kernel_rfl
theorem sz_26 : szOf Tryd.prog 26 = some 1 := by kernel_rfl
theorem in_3 : infoQ Tryd.prog 3 = some (some (.int .i64 0), 1, 8) := by kernel_rfl
theorem sz_3 : szOf Tryd.prog 3 = some 1 := by kernel_rfl
theorem z_3 : zeroOf Tryd.prog 3 = some (.int .i64 0) := by kernel_rfl
theorem ca_12 : callable Tryd.prog 12 = true := by kernel_rfl
theorem in_28 : infoQ Tryd.prog 28 = some (some (.agg #[(.string ⟨#[]⟩), (.string ⟨#[]⟩), (.int .i64 0), (.int .i64 0), (.slice none 0 0), (.int .i64 0)]), 6, 80) := by kernel_rfl
theorem sz_22 : szOf Tryd.prog 22 = some 1 := by kernel_rfl
theorem sz_37 : szOf Tryd.prog 37 = some 1 := by kernel_rfl
theorem in_9 : infoQ Tryd.prog 9 = some (some (.string ⟨#[]⟩), 1, 16) := by kernel_rfl
theorem sz_9 : szOf Tryd.prog 9 = some 1 := by kernel_rfl
theorem z_9 : zeroOf Tryd.prog 9 = some (.string ⟨#[]⟩) := by kernel_rfl
theorem ca_13 : callable Tryd.prog 13 = true := by kernel_rfl
theorem in_39 : infoQ Tryd.prog 39 = some (some (.agg #[(.string ⟨#[]⟩), (.int .i64 0), (.int .i64 0), (.bool false), (.string ⟨#[]⟩), (.slice none 0 0)]), 6, 80) := by kernel_rfl
theorem sz_23 : szOf Tryd.prog 23 = some 1 := by kernel_rfl
theorem sz_25 : szOf Tryd.prog 25 = some 5 := by kernel_rfl
theorem ag_25 : aggOf Tryd.prog 25 = some true := by kernel_rfl
theorem ca_27 : callable Tryd.prog 27 = true := by kernel_rfl
theorem ca_15 : callable Tryd.prog 15 = true := by kernel_rfl
theorem ca_26 : callable Tryd.prog 26 = true := by kernel_rfl
theorem ca_14 : callable Tryd.prog 14 = true := by kernel_rfl
theorem ca_28 : callable Tryd.prog 28 = true := by kernel_rfl
theorem ca_17 : callable Tryd.prog 17 = true := by kernel_rfl
theorem ex_58 : ExtOK Tryd.prog 58 Extern.BytealgCount.count := ⟨_, Tryd.func58, by kernel_rfl, by kernel_rfl, by kernel_rfl, by kernel_rfl⟩
theorem ca_51 : callable Tryd.prog 51 = true := by kernel_rfl
theorem ex_65 : ExtOK Tryd.prog 65 Extern.BytealgIndexByte.indexByte := ⟨_, Tryd.func65, by kernel_rfl, by kernel_rfl, by kernel_rfl, by kernel_rfl⟩
theorem ca_61 : callable Tryd.prog 61 = true := by kernel_rfl
theorem ca_59 : callable Tryd.prog 59 = true := by kernel_rfl
theorem ca_52 : callable Tryd.prog 52 = true := by kernel_rfl
theorem ca_43 : callable Tryd.prog 43 = true := by kernel_rfl
theorem u_73 : Tryd.prog.underlying 73 = some (.int .u64) := by kernel_rfl
theorem ag_5 : aggOf Tryd.prog 5 = some false := by kernel_rfl
theorem ca_44 : callable Tryd.prog 44 = true := by kernel_rfl
theorem ex_53 : ExtOK Tryd.prog 53 Extern.BytealgCompare.compare := ⟨_, Tryd.func53, by kernel_rfl, by kernel_rfl, by kernel_rfl, by kernel_rfl⟩
theorem ca_45 : callable Tryd.prog 45 = true := by kernel_rfl
theorem ca_46 : callable Tryd.prog 46 = true := by kernel_rfl
theorem ag_3 : aggOf Tryd.prog 3 = some false := by kernel_rfl
theorem ca_33 : callable Tryd.prog 33 = true := by kernel_rfl
theorem ca_34 : callable Tryd.prog 34 = true := by kernel_rfl
theorem ca_35 : callable Tryd.prog 35 = true := by kernel_rfl
theorem ca_32 : callable Tryd.prog 32 = true := by kernel_rfl
theorem ca_31 : callable Tryd.prog 31 = true := by kernel_rfl
theorem ca_29 : callable Tryd.prog 29 = true := by kernel_rfl
theorem ca_30 : callable Tryd.prog 30 = true := by kernel_rfl
theorem ca_19 : callable Tryd.prog 19 = true := by kernel_rfl
theorem ca_18 : callable Tryd.prog 18 = true := by kernel_rfl
theorem ca_20 : callable Tryd.prog 20 = true := by kernel_rfl
theorem ca_16 : callable Tryd.prog 16 = true := by kernel_rfl
theorem ca_55 : callable Tryd.prog 55 = true := by kernel_rfl
theorem ca_49 : callable Tryd.prog 49 = true := by kernel_rfl
theorem ca_48 : callable Tryd.prog 48 = true := by kernel_rfl
theorem ca_40 : callable Tryd.prog 40 = true := by kernel_rfl
theorem ca_39 : callable Tryd.prog 39 = true := by kernel_rfl
theorem ca_38 : callable Tryd.prog 38 = true := by kernel_rfl
theorem ca_21 : callable Tryd.prog 21 = true := by kernel_rfl
theorem ca_6 : callable Tryd.prog 6 = true := by kernel_rfl
theorem fo_25_0 : fieldOf Tryd.prog 25 0 = some (0, 1, false) := by kernel_rfl
theorem fo_25_1 : fieldOf Tryd.prog 25 1 = some (1, 1, false) := by kernel_rfl
theorem fo_25_4 : fieldOf Tryd.prog 25 4 = some (4, 1, false) := by kernel_rfl
theorem fo_39_1 : fieldOf Tryd.prog 39 1 = some (1, 4, true) := by kernel_rfl
theorem ag_36 : aggOf Tryd.prog 36 = some true := by kernel_rfl
theorem sz_36 : szOf Tryd.prog 36 = some 4 := by kernel_rfl
theorem ff_36 : flatFs Tryd.prog 36 = some [(0, .int .i64), (1, .int .i64), (2, .bool), (3, .string)] := by kernel_rfl
theorem ca_41 : callable Tryd.prog 41 = true := by kernel_rfl
theorem fo_28_1 : fieldOf Tryd.prog 28 1 = some (1, 1, false) := by kernel_rfl
theorem fo_28_2 : fieldOf Tryd.prog 28 2 = some (2, 1, false) := by kernel_rfl
theorem fo_28_3 : fieldOf Tryd.prog 28 3 = some (3, 1, false) := by kernel_rfl
theorem fo_28_5 : fieldOf Tryd.prog 28 5 = some (5, 1, false) := by kernel_rfl
theorem ca_23 : callable Tryd.prog 23 = true := by kernel_rfl
theorem ca_22 : callable Tryd.prog 22 = true := by kernel_rfl
end F
mutual
def dossierplain_Case.l1 : Nat → Int → api_Case → Option Bool
 | 0, _, _ => none
 | k + 1, x6, a0 => if (decide (x6 < (a0.Docs.length : Int))) = true then ((rd a0.Docs x6).bind fun v8 => if (decide ((v8.Path.size : Int) > 400)) = true then (some false) else (if (decide ((v8.Refs.length : Int) > 40)) = true then (some false) else (dossierplain_Case.l1 k (IntKind.i64.wrap (x6 + 1)) a0))) else (if (decide ((a0.Insts.length : Int) ≤ 40)) = true then (some (decide ((a0.Docs.length : Int) ≤ 30))) else (some false))
def dossierplain_Case.l0 : Nat → Int → api_Case → Option Bool
 | 0, _, _ => none
 | k + 1, x1, a0 => if (decide (x1 < (a0.Insts.length : Int))) = true then ((rd a0.Insts x1).bind fun v3 => if (decide ((v3.Path.size : Int) > 400)) = true then (some false) else (if (decide ((v3.Latches.length : Int) > 40)) = true then (some false) else (dossierplain_Case.l0 k (IntKind.i64.wrap (x1 + 1)) a0))) else (dossierplain_Case.l1 k 0 a0)
end
def dossierplain_Case.f (k : Nat) (a0 : api_Case) : Option Bool := dossierplain_Case.l0 k 0 a0
theorem dossierplain_Case.meets (k : Nat) (a0 : api_Case) (r : Bool) (h : dossierplain_Case.f k a0 = some r) : Meets Tryd.prog 4 [(D.agg (c_api_Case a0))] [] (sb r) [] := by
 unfold dossierplain_Case.f at h
 refine Meets.of_body (n := 53) Tryd.func4 rfl rfl (nl rfl) fun x hx => ?_
 replace hx : x.k = 0 := hx
 show AW _ x _ _ ⟨53, fr0 [(D.agg (c_api_Case a0))], []⟩
 refine AW.seq (AW.region ?_)
 refine s_box (cs := (c_api_Case a0)) rfl (List.cons_ne_nil _ _) rfl (s_assign (d := (sb false)) rfl (AWops.nil (AW.seq (AW.seq (AW.region (s_fieldRef F.fo_25_2 (by decide) rfl (s_load1 (c' := (C.p false (.sl a0.Insts.length (a0.Insts.flatMap e_api_Inst)))) F.ag_22 rfl rfl (s_len (n := a0.Insts.length) F.u_22 rfl (.inr ⟨(fun _ _ h => by cases h), ⟨_, rfl⟩⟩) (s_move (d := (si 0)) rfl (AWops.nil (AW.block ?_)))))))))))
 refine AW.loopw (st0 := ⟨53, (upd 53 (upd 53 (upd 53 (upd 53 topF 1 (rf 0 0)) 8 (D.one (C.p false (.sl a0.Insts.length (a0.Insts.flatMap e_api_Inst))))) 9 (si (a0.Insts.length : Int))) 10 (si 0)), [(some (AObj.cells true (c_api_Case a0)))]⟩) (fun kv st => kv ≤ k ∧ ∃ (x1 : Int), dossierplain_Case.l0 kv x1 a0 = some r ∧ st = ⟨53, (upd 53 (upd 53 (upd 53 (upd 53 topF 1 (rf 0 0)) 8 (D.one (C.p false (.sl a0.Insts.length (a0.Insts.flatMap e_api_Inst))))) 9 (si (a0.Insts.length : Int))) 10 (si x1)), [(some (AObj.cells true (c_api_Case a0)))]⟩) (k := k) (wg 0 [0] [] hx (le_upd (le_upd (le_upd (le_upd (le_top _) (o1 (.ref rfl))) (o1 .same)) (o1 .sc)) (o1 .sc)) (ac (.cells (fun _ => rfl) (ac .sc (ac .sc (ac .same (ac .same (ac .sc an)))))) an)) ⟨Nat.le_refl _, 0, h, rfl⟩ ?_
 rintro ql0 st ⟨hkl0, x1, h, rfl⟩
 cases ql0 with
 | zero => exact absurd h (by simp [dossierplain_Case.l0])
 | succ ql0 =>
  replace h := (dossierplain_Case.l0.eq_2 _ _ _).symm.trans h
  refine AW.seq (AW.region ?_)
  refine s_binI (v := (.bool (decide (x1 < (a0.Insts.length : Int))))) rfl rfl rfl (AWops.nil (AW.seq ?_))
  rcases itH h with ⟨c2, h⟩ | ⟨c2, h⟩
  ·refine AW.cond_yes rfl c2 (AW.skip (AW.seq (AW.block (AW.seq (AW.region ?_)))))
   obtain ⟨v3, ev3, h⟩ := bnd h
   obtain ⟨pv3, qv3, gv3⟩ := rd_some ev3
   refine s_indexImm (ps := (p_api_Inst v3)) F.u_22 F.sz_28 rfl rfl pv3 qv3 (flat_at e_api_Inst_len gv3 (e_api_Inst_eq v3)) (s_loadN (ds := (c_api_Inst v3)) F.ag_28 F.sz_28 rfl rfl rfl (s_alloc (cs := [(ct (⟨#[]⟩ : ByteArray)), (ct (⟨#[]⟩ : ByteArray)), (ci 0), (ci 0), (C.p true (.v (.slice none 0 0))), (ci 0)]) F.z_28 rfl rfl (s_store (cs' := (c_api_Inst v3)) rfl rfl rfl (List.cons_ne_nil _ _) rfl F.sz_28 (nl rfl) rfl (AWops.nil (AW.seq (AW.region (s_fieldRef F.fo_28_0 (by decide) rfl (s_load1 (c' := (ct v3.Path)) F.ag_9 rfl rfl ?_))))))))
   refine s_len (n := v3.Path.size) F.u_9 rfl (.inl ⟨⟨_, _, rfl⟩, rfl⟩) (s_binI (v := (.bool (decide ((v3.Path.size : Int) > 400)))) rfl rfl rfl (s_move (d := (sb (decide ((v3.Path.size : Int) > 400)))) rfl ?_))
   rcases itH h with ⟨c4, h⟩ | ⟨c4, h⟩
   ·iterate 4 refine AWops.guard_no rfl (nl rfl) rfl c4 ?_
    refine s_pick_yes (d := (sb true)) rfl c4 rfl (AWops.nil ?_)
    refine AW.cond_yes rfl rfl (AW.seq (AW.region ?_))
    refine s_assign (d := (sb false)) rfl (AWops.nil (AW.ret ?_))
    obtain rfl := Option.some.inj h
    exact ⟨_, rfl, (wg 0 [] [] rfl (le_upd (le_top _) (o1 .sc)) an)⟩
   ·refine AWops.guard_yes rfl (nl rfl) rfl c4 ?_
    refine s_fieldRef F.fo_28_4 (by decide) rfl ?_
    refine AWops.guard_yes rfl (nl rfl) rfl c4 ?_
    refine s_load1 (c' := (C.p false (.sl v3.Latches.length (v3.Latches.flatMap e_i64)))) F.ag_26 rfl rfl ?_
    refine AWops.guard_yes rfl (nl rfl) rfl c4 ?_
    refine s_len (n := v3.Latches.length) F.u_26 rfl (.inr ⟨(fun _ _ h => by cases h), ⟨_, rfl⟩⟩) ?_
    refine AWops.guard_yes rfl (nl rfl) rfl c4 ?_
    refine s_binI (v := (.bool (decide ((v3.Latches.length : Int) > 40)))) rfl rfl rfl (s_pick_no (d := (sb (decide ((v3.Latches.length : Int) > 40)))) rfl c4 rfl (AWops.nil ?_))
    rcases itH h with ⟨c5, h⟩ | ⟨c5, h⟩
    ·refine AW.cond_yes rfl c5 (AW.seq (AW.region ?_))
     refine s_assign (d := (sb false)) rfl (AWops.nil (AW.ret ?_))
     obtain rfl := Option.some.inj h
     exact ⟨_, rfl, (wg 0 [] [] rfl (le_upd (le_top _) (o1 .sc)) an)⟩
    ·refine AW.cond_no rfl c5 (AW.skip (AW.region ?_))
     refine s_binI (v := (.int .i64 (IntKind.i64.wrap (x1 + 1)))) rfl rfl rfl (s_move (d := (si (IntKind.i64.wrap (x1 + 1)))) rfl (AWops.nil ?_))
     exact ⟨_, ⟨53, (upd 53 (upd 53 (upd 53 (upd 53 topF 1 (rf 0 0)) 8 (D.one (C.p false (.sl a0.Insts.length (a0.Insts.flatMap e_api_Inst))))) 9 (si (a0.Insts.length : Int))) 10 (si (IntKind.i64.wrap (x1 + 1)))), [(some (AObj.cells true (c_api_Case a0)))]⟩, by omega, (wg 0 [0] [] hx (le_upd (le_upd (le_upd (le_upd (le_top _) (o1 (.ref rfl))) (o1 .same)) (o1 .sc)) (o1 .sc)) (ac (.cells (fun _ => rfl) (ac .sc (ac .sc (ac .same (ac .same (ac .sc an)))))) an)), by omega, IntKind.i64.wrap (x1 + 1), h, rfl⟩
  ·refine AW.cond_no rfl c2 (AW.exit (AW.seq (AW.seq (AW.region ?_))))
   refine s_fieldRef F.fo_25_3 (by decide) rfl (s_load1 (c' := (C.p false (.sl a0.Docs.length (a0.Docs.flatMap e_api_Doc)))) F.ag_23 rfl rfl (s_len (n := a0.Docs.length) F.u_23 rfl (.inr ⟨(fun _ _ h => by cases h), ⟨_, rfl⟩⟩) (s_move (d := (si 0)) rfl (AWops.nil (AW.block ?_)))))
   refine AW.loopw (st0 := ⟨53, (upd 53 (upd 53 (upd 53 (upd 53 topF 1 (rf 0 0)) 26 (D.one (C.p false (.sl a0.Docs.length (a0.Docs.flatMap e_api_Doc))))) 27 (si (a0.Docs.length : Int))) 28 (si 0)), [(some (AObj.cells true (c_api_Case a0)))]⟩) (fun kv st => kv ≤ ql0 ∧ ∃ (x6 : Int), dossierplain_Case.l1 kv x6 a0 = some r ∧ st = ⟨53, (upd 53 (upd 53 (upd 53 (upd 53 topF 1 (rf 0 0)) 26 (D.one (C.p false (.sl a0.Docs.length (a0.Docs.flatMap e_api_Doc))))) 27 (si (a0.Docs.length : Int))) 28 (si x6)), [(some (AObj.cells true (c_api_Case a0)))]⟩) (k := ql0) (wg 0 [0] [] hx (le_upd (le_upd (le_upd (le_upd (le_top _) (o1 (.ref rfl))) (o1 .same)) (o1 .sc)) (o1 .sc)) (ac (.cells (fun _ => rfl) (ac .sc (ac .sc (ac .same (ac .same (ac .sc an)))))) an)) ⟨Nat.le_refl _, 0, h, rfl⟩ ?_
   rintro ql1 st ⟨hkl1, x6, h, rfl⟩
   cases ql1 with
   | zero => exact absurd h (by simp [dossierplain_Case.l1])
   | succ ql1 =>
    replace h := (dossierplain_Case.l1.eq_2 _ _ _).symm.trans h
    refine AW.seq (AW.region ?_)
    refine s_binI (v := (.bool (decide (x6 < (a0.Docs.length : Int))))) rfl rfl rfl (AWops.nil (AW.seq ?_))
    rcases itH h with ⟨c7, h⟩ | ⟨c7, h⟩
    ·refine AW.cond_yes rfl c7 (AW.skip (AW.seq (AW.block (AW.seq (AW.region ?_)))))
     obtain ⟨v8, ev8, h⟩ := bnd h
     obtain ⟨pv8, qv8, gv8⟩ := rd_some ev8
     refine s_indexImm (ps := (p_api_Doc v8)) F.u_23 F.sz_39 rfl rfl pv8 qv8 (flat_at e_api_Doc_len gv8 (e_api_Doc_eq v8)) (s_loadN (ds := (c_api_Doc v8)) F.ag_39 F.sz_39 rfl rfl rfl (s_alloc (cs := [(ct (⟨#[]⟩ : ByteArray)), (ci 0), (ci 0), (cb false), (ct (⟨#[]⟩ : ByteArray)), (C.p true (.v (.slice none 0 0)))]) F.z_39 rfl rfl (s_store (cs' := (c_api_Doc v8)) rfl rfl rfl (List.cons_ne_nil _ _) rfl F.sz_39 (nl rfl) rfl (AWops.nil (AW.seq (AW.region (s_fieldRef F.fo_39_0 (by decide) rfl (s_load1 (c' := (ct v8.Path)) F.ag_9 rfl rfl ?_))))))))
     refine s_len (n := v8.Path.size) F.u_9 rfl (.inl ⟨⟨_, _, rfl⟩, rfl⟩) (s_binI (v := (.bool (decide ((v8.Path.size : Int) > 400)))) rfl rfl rfl (s_move (d := (sb (decide ((v8.Path.size : Int) > 400)))) rfl ?_))
     rcases itH h with ⟨c9, h⟩ | ⟨c9, h⟩
     ·iterate 4 refine AWops.guard_no rfl (nl rfl) rfl c9 ?_
      refine s_pick_yes (d := (sb true)) rfl c9 rfl (AWops.nil ?_)
      refine AW.cond_yes rfl rfl (AW.seq (AW.region ?_))
      refine s_assign (d := (sb false)) rfl (AWops.nil (AW.ret ?_))
      obtain rfl := Option.some.inj h
      exact ⟨_, rfl, (wg 0 [] [] rfl (le_upd (le_top _) (o1 .sc)) an)⟩
     ·refine AWops.guard_yes rfl (nl rfl) rfl c9 ?_
      refine s_fieldRef F.fo_39_2 (by decide) rfl ?_
      refine AWops.guard_yes rfl (nl rfl) rfl c9 ?_
      refine s_load1 (c' := (C.p false (.sl v8.Refs.length (v8.Refs.flatMap e_str)))) F.ag_37 rfl rfl ?_
      refine AWops.guard_yes rfl (nl rfl) rfl c9 ?_
      refine s_len (n := v8.Refs.length) F.u_37 rfl (.inr ⟨(fun _ _ h => by cases h), ⟨_, rfl⟩⟩) ?_
      refine AWops.guard_yes rfl (nl rfl) rfl c9 ?_
      refine s_binI (v := (.bool (decide ((v8.Refs.length : Int) > 40)))) rfl rfl rfl (s_pick_no (d := (sb (decide ((v8.Refs.length : Int) > 40)))) rfl c9 rfl (AWops.nil ?_))
      rcases itH h with ⟨c10, h⟩ | ⟨c10, h⟩
      ·refine AW.cond_yes rfl c10 (AW.seq (AW.region ?_))
       refine s_assign (d := (sb false)) rfl (AWops.nil (AW.ret ?_))
       obtain rfl := Option.some.inj h
       exact ⟨_, rfl, (wg 0 [] [] rfl (le_upd (le_top _) (o1 .sc)) an)⟩
      ·refine AW.cond_no rfl c10 (AW.skip (AW.region ?_))
       refine s_binI (v := (.int .i64 (IntKind.i64.wrap (x6 + 1)))) rfl rfl rfl (s_move (d := (si (IntKind.i64.wrap (x6 + 1)))) rfl (AWops.nil ?_))
       exact ⟨_, ⟨53, (upd 53 (upd 53 (upd 53 (upd 53 topF 1 (rf 0 0)) 26 (D.one (C.p false (.sl a0.Docs.length (a0.Docs.flatMap e_api_Doc))))) 27 (si (a0.Docs.length : Int))) 28 (si (IntKind.i64.wrap (x6 + 1)))), [(some (AObj.cells true (c_api_Case a0)))]⟩, by omega, (wg 0 [0] [] hx (le_upd (le_upd (le_upd (le_upd (le_top _) (o1 (.ref rfl))) (o1 .same)) (o1 .sc)) (o1 .sc)) (ac (.cells (fun _ => rfl) (ac .sc (ac .sc (ac .same (ac .same (ac .sc an)))))) an)), by omega, IntKind.i64.wrap (x6 + 1), h, rfl⟩
    ·refine AW.cond_no rfl c7 (AW.exit (AW.seq (AW.region ?_)))
     refine s_fieldRef F.fo_25_2 (by decide) rfl (s_load1 (c' := (C.p false (.sl a0.Insts.length (a0.Insts.flatMap e_api_Inst)))) F.ag_22 rfl rfl (s_len (n := a0.Insts.length) F.u_22 rfl (.inr ⟨(fun _ _ h => by cases h), ⟨_, rfl⟩⟩) (s_binI (v := (.bool (decide ((a0.Insts.length : Int) ≤ 40)))) rfl rfl rfl (s_move (d := (sb (decide ((a0.Insts.length : Int) ≤ 40)))) rfl ?_))))
     rcases itH h with ⟨c11, h⟩ | ⟨c11, h⟩
     ·refine AWops.guard_yes rfl (nl rfl) rfl c11 ?_
      refine s_fieldRef F.fo_25_3 (by decide) rfl ?_
      refine AWops.guard_yes rfl (nl rfl) rfl c11 ?_
      refine s_load1 (c' := (C.p false (.sl a0.Docs.length (a0.Docs.flatMap e_api_Doc)))) F.ag_23 rfl rfl ?_
      refine AWops.guard_yes rfl (nl rfl) rfl c11 ?_
      refine s_len (n := a0.Docs.length) F.u_23 rfl (.inr ⟨(fun _ _ h => by cases h), ⟨_, rfl⟩⟩) ?_
      refine AWops.guard_yes rfl (nl rfl) rfl c11 ?_
      refine s_binI (v := (.bool (decide ((a0.Docs.length : Int) ≤ 30)))) rfl rfl rfl (s_pick_yes (d := (sb (decide ((a0.Docs.length : Int) ≤ 30)))) rfl c11 rfl (s_assign (d := (sb (decide ((a0.Docs.length : Int) ≤ 30)))) rfl (AWops.nil (AW.ret ?_))))
      obtain rfl := Option.some.inj h
      exact ⟨_, rfl, (wg 0 [] [] rfl (le_upd (le_top _) (o1 .sc)) an)⟩
     ·iterate 4 refine AWops.guard_no rfl (nl rfl) rfl c11 ?_
      refine s_pick_no (d := (sb false)) rfl c11 rfl (s_assign (d := (sb false)) rfl (AWops.nil (AW.ret ?_)))
      obtain rfl := Option.some.inj h
      exact ⟨_, rfl, (wg 0 [] [] rfl (le_upd (le_top _) (o1 .sc)) an)⟩
mutual
def chars_Text.l0 : Nat → (List Int) → Int → Int → Int → Option ByteArray
 | 0, _, _, _, _ => none
 | k + 1, x1, x2, x3, a0 => if (decide ((IntKind.i64.wrap (x2 - 1)) < 20)) = true then ((rd x1 (IntKind.i64.wrap (x2 - 1))).bind fun v5 => if ((IntKind.i64.wrap (Int.tdiv x3 10)) == 0) = true then (if (decide (a0 < 0)) = true then (if (decide ((IntKind.i64.wrap ((IntKind.i64.wrap (x2 - 1)) - 1)) < 20)) = true then ((rd (x1.set (IntKind.i64.wrap (x2 - 1)).toNat (IntKind.u8.wrap (IntKind.i64.wrap (48 + (if (IntKind.i64.wrap (0 - (Int.tmod x3 10))) > (Int.tmod x3 10) then (IntKind.i64.wrap (0 - (Int.tmod x3 10))) else (Int.tmod x3 10)))))) (IntKind.i64.wrap ((IntKind.i64.wrap (x2 - 1)) - 1))).bind fun v9 => if (decide (0 ≤ (IntKind.i64.wrap ((IntKind.i64.wrap (x2 - 1)) - 1)) ∧ (IntKind.i64.wrap ((IntKind.i64.wrap (x2 - 1)) - 1)) < 20 ∧ 20 ≤ ((x1.set (IntKind.i64.wrap (x2 - 1)).toNat (IntKind.u8.wrap (IntKind.i64.wrap (48 + (if (IntKind.i64.wrap (0 - (Int.tmod x3 10))) > (Int.tmod x3 10) then (IntKind.i64.wrap (0 - (Int.tmod x3 10))) else (Int.tmod x3 10)))))).set (IntKind.i64.wrap ((IntKind.i64.wrap (x2 - 1)) - 1)).toNat 45).length)) = true then (some (ofNums ((((x1.set (IntKind.i64.wrap (x2 - 1)).toNat (IntKind.u8.wrap (IntKind.i64.wrap (48 + (if (IntKind.i64.wrap (0 - (Int.tmod x3 10))) > (Int.tmod x3 10) then (IntKind.i64.wrap (0 - (Int.tmod x3 10))) else (Int.tmod x3 10)))))).set (IntKind.i64.wrap ((IntKind.i64.wrap (x2 - 1)) - 1)).toNat 45).drop (IntKind.i64.wrap ((IntKind.i64.wrap (x2 - 1)) - 1)).toNat).take (20 - (IntKind.i64.wrap ((IntKind.i64.wrap (x2 - 1)) - 1)).toNat)))) else none) else none) else (if (decide (0 ≤ (IntKind.i64.wrap (x2 - 1)) ∧ (IntKind.i64.wrap (x2 - 1)) < 20 ∧ 20 ≤ (x1.set (IntKind.i64.wrap (x2 - 1)).toNat (IntKind.u8.wrap (IntKind.i64.wrap (48 + (if (IntKind.i64.wrap (0 - (Int.tmod x3 10))) > (Int.tmod x3 10) then (IntKind.i64.wrap (0 - (Int.tmod x3 10))) else (Int.tmod x3 10)))))).length)) = true then (some (ofNums (((x1.set (IntKind.i64.wrap (x2 - 1)).toNat (IntKind.u8.wrap (IntKind.i64.wrap (48 + (if (IntKind.i64.wrap (0 - (Int.tmod x3 10))) > (Int.tmod x3 10) then (IntKind.i64.wrap (0 - (Int.tmod x3 10))) else (Int.tmod x3 10)))))).drop (IntKind.i64.wrap (x2 - 1)).toNat).take (20 - (IntKind.i64.wrap (x2 - 1)).toNat)))) else none)) else (chars_Text.l0 k (x1.set (IntKind.i64.wrap (x2 - 1)).toNat (IntKind.u8.wrap (IntKind.i64.wrap (48 + (if (IntKind.i64.wrap (0 - (Int.tmod x3 10))) > (Int.tmod x3 10) then (IntKind.i64.wrap (0 - (Int.tmod x3 10))) else (Int.tmod x3 10)))))) (IntKind.i64.wrap (x2 - 1)) (IntKind.i64.wrap (Int.tdiv x3 10)) a0)) else none
end
def chars_Text.f (k : Nat) (a0 : Int) : Option ByteArray := chars_Text.l0 k (List.replicate 20 (0 : Int)) 20 a0 a0
theorem chars_Text.meets (k : Nat) (a0 : Int) (r : ByteArray) (h : chars_Text.f k a0 = some r) : Meets Tryd.prog 24 [(si a0)] [] (st_ r) [] := by
 unfold chars_Text.f at h
 refine Meets.of_body (n := 34) Tryd.func24 rfl rfl (nl rfl) fun x hx => ?_
 replace hx : x.k = 0 := hx
 show AW _ x _ _ ⟨34, fr0 [(si a0)], []⟩
 refine AW.seq (AW.region ?_)
 refine s_assign (d := (st_ (⟨#[]⟩ : ByteArray))) rfl (AWops.nil (AW.seq (AW.region ?_)))
 refine s_alloc (cs := rowC e_u8 (List.replicate 20 (0 : Int))) F.z_65 rfl rfl (AWops.nil (AW.seq (AW.region ?_)))
 refine s_assign (d := (si 20)) rfl (AWops.nil (AW.seq (AW.seq (AW.region ?_))))
 refine s_move (d := (si a0)) rfl (s_assign (d := (si a0)) rfl (AWops.nil (AW.block ?_)))
 refine AW.loopw (st0 := ⟨34, (upd 34 (upd 34 (upd 34 (upd 34 topF 0 (si a0)) 3 (rf 0 0)) 4 (si 20)) 5 (si a0)), [(some (AObj.cells true (rowC e_u8 (List.replicate 20 (0 : Int)))))]⟩) (fun kv st => kv ≤ k ∧ ∃ (x1 : List Int) (x2 : Int) (x3 : Int), chars_Text.l0 kv x1 x2 x3 a0 = some r ∧ st = ⟨34, (upd 34 (upd 34 (upd 34 (upd 34 topF 0 (si a0)) 3 (rf 0 0)) 4 (si x2)) 5 (si x3)), [(ow_ e_u8 x1)]⟩) (k := k) (wg 0 [0] [] hx (le_upd (le_upd (le_upd (le_upd (le_top _) (o1 .sc)) (o1 (.ref rfl))) (o1 .sc)) (o1 .sc)) (ac (.cells (fun _ => rfl) (all2_row _)) an)) ⟨Nat.le_refl _, (List.replicate 20 (0 : Int)), 20, a0, h, rfl⟩ ?_
 rintro ql0 st ⟨hkl0, x1, x2, x3, h, rfl⟩
 cases ql0 with
 | zero => exact absurd h (by simp [chars_Text.l0])
 | succ ql0 =>
  replace h := (chars_Text.l0.eq_2 _ _ _ _ _).symm.trans h
  refine AW.seq (AW.block (AW.seq (AW.region ?_)))
  refine s_move (d := (si x3)) rfl (s_binI (v := (.int .i64 (Int.tmod x3 10))) rfl rfl rfl (s_assign (d := (si (Int.tmod x3 10))) rfl (AWops.nil (AW.seq (AW.region (s_move (d := (si x2)) rfl (s_binI (v := (.int .i64 (IntKind.i64.wrap (x2 - 1)))) rfl rfl rfl (s_assign (d := (si (IntKind.i64.wrap (x2 - 1)))) rfl (AWops.nil (AW.seq (AW.region ?_)))))))))))
  refine s_move (d := (si (IntKind.i64.wrap (x2 - 1)))) rfl (s_move (d := (si (Int.tmod x3 10))) rfl (s_move (d := (si (Int.tmod x3 10))) rfl (s_unI (v := (.int .i64 (IntKind.i64.wrap (0 - (Int.tmod x3 10))))) rfl rfl (s_max2 (r := (if (IntKind.i64.wrap (0 - (Int.tmod x3 10))) > (Int.tmod x3 10) then (IntKind.i64.wrap (0 - (Int.tmod x3 10))) else (Int.tmod x3 10))) rfl rfl rfl (s_binI (v := (.int .i64 (IntKind.i64.wrap (48 + (if (IntKind.i64.wrap (0 - (Int.tmod x3 10))) > (Int.tmod x3 10) then (IntKind.i64.wrap (0 - (Int.tmod x3 10))) else (Int.tmod x3 10)))))) rfl rfl rfl ?_)))))
  refine s_convI F.u_3 F.u_5 rfl ?_
  obtain ⟨c4, h⟩ := gdH h
  obtain ⟨v5, ev5, h⟩ := bnd h
  obtain ⟨pv5, qv5, gv5⟩ := rd_some ev5
  refine s_indexArr (n := 20) (d := (D.one (C.ref 0 (0 + (IntKind.i64.wrap (x2 - 1)).toNat * 1)))) F.u_65 F.sz_5 rfl rfl pv5 (of_decide_eq_true c4) rfl ?_
  refine s_store (cs' := rowC e_u8 (x1.set (IntKind.i64.wrap (x2 - 1)).toNat (IntKind.u8.wrap (IntKind.i64.wrap (48 + (if (IntKind.i64.wrap (0 - (Int.tmod x3 10))) > (Int.tmod x3 10) then (IntKind.i64.wrap (0 - (Int.tmod x3 10))) else (Int.tmod x3 10))))))) rfl rfl rfl (List.cons_ne_nil _ _) rfl F.sz_5 (by rw [row_len e_u8_len]; have := (List.getElem?_eq_some_iff.mp gv5).1; show _ + 1 ≤ _; omega) (row_set (f := e_u8) (sz := 1) (o := 0) (ds := [P.v (.int .u8 (IntKind.u8.wrap (IntKind.i64.wrap (48 + (if (IntKind.i64.wrap (0 - (Int.tmod x3 10))) > (Int.tmod x3 10) then (IntKind.i64.wrap (0 - (Int.tmod x3 10))) else (Int.tmod x3 10))))))]) e_u8_len gv5 rfl (nl rfl) rfl) ?_
  refine AWops.nil (AW.seq (AW.region ?_))
  refine s_move (d := (si x3)) rfl (s_binI (v := (.int .i64 (IntKind.i64.wrap (Int.tdiv x3 10)))) rfl rfl rfl (s_binI (v := (.bool ((IntKind.i64.wrap (Int.tdiv x3 10)) == 0))) rfl rfl rfl (AWops.nil ?_)))
  rcases itH h with ⟨c6, h⟩ | ⟨c6, h⟩
  ·refine AW.cond_yes rfl c6 (AW.exit (AW.seq (AW.seq (AW.region ?_))))
   refine s_move (d := (si a0)) rfl (s_binI (v := (.bool (decide (a0 < 0)))) rfl rfl rfl (AWops.nil ?_))
   rcases itH h with ⟨c7, h⟩ | ⟨c7, h⟩
   ·refine AW.cond_yes rfl c7 (AW.seq (AW.region ?_))
    refine s_move (d := (si (IntKind.i64.wrap (x2 - 1)))) rfl (s_binI (v := (.int .i64 (IntKind.i64.wrap ((IntKind.i64.wrap (x2 - 1)) - 1)))) rfl rfl rfl (s_assign (d := (si (IntKind.i64.wrap ((IntKind.i64.wrap (x2 - 1)) - 1)))) rfl (AWops.nil (AW.region (s_move (d := (si (IntKind.i64.wrap ((IntKind.i64.wrap (x2 - 1)) - 1)))) rfl ?_)))))
    obtain ⟨c8, h⟩ := gdH h
    obtain ⟨v9, ev9, h⟩ := bnd h
    obtain ⟨pv9, qv9, gv9⟩ := rd_some ev9
    refine s_indexArr (n := 20) (d := (D.one (C.ref 0 (0 + (IntKind.i64.wrap ((IntKind.i64.wrap (x2 - 1)) - 1)).toNat * 1)))) F.u_65 F.sz_5 rfl rfl pv9 (of_decide_eq_true c8) rfl ?_
    refine s_store (cs' := rowC e_u8 ((x1.set (IntKind.i64.wrap (x2 - 1)).toNat (IntKind.u8.wrap (IntKind.i64.wrap (48 + (if (IntKind.i64.wrap (0 - (Int.tmod x3 10))) > (Int.tmod x3 10) then (IntKind.i64.wrap (0 - (Int.tmod x3 10))) else (Int.tmod x3 10)))))).set (IntKind.i64.wrap ((IntKind.i64.wrap (x2 - 1)) - 1)).toNat 45)) rfl rfl rfl (List.cons_ne_nil _ _) rfl F.sz_5 (by rw [row_len e_u8_len]; have := (List.getElem?_eq_some_iff.mp gv9).1; show _ + 1 ≤ _; omega) (row_set (f := e_u8) (sz := 1) (o := 0) (ds := [P.v (.int .u8 45)]) e_u8_len gv9 rfl (nl rfl) rfl) ?_
    refine AWops.nil (AW.seq (AW.region ?_))
    refine s_move (d := (si (IntKind.i64.wrap ((IntKind.i64.wrap (x2 - 1)) - 1)))) rfl ?_
    obtain ⟨c10, h⟩ := gdH h
    have dc10 := of_decide_eq_true c10
    refine s_sliceArr (n := 20) (l := (IntKind.i64.wrap ((IntKind.i64.wrap (x2 - 1)) - 1)).toNat) (h := 20) F.u_65 F.sz_5 rfl rfl (by rw [row_len e_u8_len]; omega) (.yes rfl (by omega) rfl) .no (by omega) (Nat.le_refl _) (by omega) rfl (t_toStrO (xs := (x1.set (IntKind.i64.wrap (x2 - 1)).toNat (IntKind.u8.wrap (IntKind.i64.wrap (48 + (if (IntKind.i64.wrap (0 - (Int.tmod x3 10))) > (Int.tmod x3 10) then (IntKind.i64.wrap (0 - (Int.tmod x3 10))) else (Int.tmod x3 10)))))).set (IntKind.i64.wrap ((IntKind.i64.wrap (x2 - 1)) - 1)).toNat 45) (l := (IntKind.i64.wrap ((IntKind.i64.wrap (x2 - 1)) - 1)).toNat) (n := 20 - (IntKind.i64.wrap ((IntKind.i64.wrap (x2 - 1)) - 1)).toNat) F.u_66 F.u_5 F.u_9 rfl rfl (by omega) (s_assign (d := (st_ (ofNums ((((x1.set (IntKind.i64.wrap (x2 - 1)).toNat (IntKind.u8.wrap (IntKind.i64.wrap (48 + (if (IntKind.i64.wrap (0 - (Int.tmod x3 10))) > (Int.tmod x3 10) then (IntKind.i64.wrap (0 - (Int.tmod x3 10))) else (Int.tmod x3 10)))))).set (IntKind.i64.wrap ((IntKind.i64.wrap (x2 - 1)) - 1)).toNat 45).drop (IntKind.i64.wrap ((IntKind.i64.wrap (x2 - 1)) - 1)).toNat).take (20 - (IntKind.i64.wrap ((IntKind.i64.wrap (x2 - 1)) - 1)).toNat))))) rfl (AWops.nil (AW.ret ?_))))
    obtain rfl := Option.some.inj h
    exact ⟨_, rfl, (wg 0 [] [] rfl (le_upd (le_top _) (o1 .sc)) an)⟩
   ·refine AW.cond_no rfl c7 (AW.skip (AW.seq (AW.region ?_)))
    refine s_move (d := (si (IntKind.i64.wrap (x2 - 1)))) rfl ?_
    obtain ⟨c11, h⟩ := gdH h
    have dc11 := of_decide_eq_true c11
    refine s_sliceArr (n := 20) (l := (IntKind.i64.wrap (x2 - 1)).toNat) (h := 20) F.u_65 F.sz_5 rfl rfl (by rw [row_len e_u8_len]; omega) (.yes rfl (by omega) rfl) .no (by omega) (Nat.le_refl _) (by omega) rfl (t_toStrO (xs := x1.set (IntKind.i64.wrap (x2 - 1)).toNat (IntKind.u8.wrap (IntKind.i64.wrap (48 + (if (IntKind.i64.wrap (0 - (Int.tmod x3 10))) > (Int.tmod x3 10) then (IntKind.i64.wrap (0 - (Int.tmod x3 10))) else (Int.tmod x3 10)))))) (l := (IntKind.i64.wrap (x2 - 1)).toNat) (n := 20 - (IntKind.i64.wrap (x2 - 1)).toNat) F.u_66 F.u_5 F.u_9 rfl rfl (by omega) (s_assign (d := (st_ (ofNums (((x1.set (IntKind.i64.wrap (x2 - 1)).toNat (IntKind.u8.wrap (IntKind.i64.wrap (48 + (if (IntKind.i64.wrap (0 - (Int.tmod x3 10))) > (Int.tmod x3 10) then (IntKind.i64.wrap (0 - (Int.tmod x3 10))) else (Int.tmod x3 10)))))).drop (IntKind.i64.wrap (x2 - 1)).toNat).take (20 - (IntKind.i64.wrap (x2 - 1)).toNat))))) rfl (AWops.nil (AW.ret ?_))))
    obtain rfl := Option.some.inj h
    exact ⟨_, rfl, (wg 0 [] [] rfl (le_upd (le_top _) (o1 .sc)) an)⟩
  ·refine AW.cond_no rfl c6 (AW.skip (AW.region ?_))
   refine s_move (d := (si x3)) rfl (s_binI (v := (.int .i64 (IntKind.i64.wrap (Int.tdiv x3 10)))) rfl rfl rfl (s_assign (d := (si (IntKind.i64.wrap (Int.tdiv x3 10)))) rfl (AWops.nil ?_)))
   exact ⟨_, ⟨34, (upd 34 (upd 34 (upd 34 (upd 34 topF 0 (si a0)) 3 (rf 0 0)) 4 (si (IntKind.i64.wrap (x2 - 1)))) 5 (si (IntKind.i64.wrap (Int.tdiv x3 10)))), [(some (AObj.cells true (rowC e_u8 (x1.set (IntKind.i64.wrap (x2 - 1)).toNat (IntKind.u8.wrap (IntKind.i64.wrap (48 + (if (IntKind.i64.wrap (0 - (Int.tmod x3 10))) > (Int.tmod x3 10) then (IntKind.i64.wrap (0 - (Int.tmod x3 10))) else (Int.tmod x3 10)))))))))]⟩, by omega, (wg 0 [0] [] hx (le_upd (le_upd (le_upd (le_upd (le_top _) (o1 .sc)) (o1 (.ref rfl))) (o1 .sc)) (o1 .sc)) (ac (.cells (fun _ => rfl) (all2_row _)) an)), by omega, x1.set (IntKind.i64.wrap (x2 - 1)).toNat (IntKind.u8.wrap (IntKind.i64.wrap (48 + (if (IntKind.i64.wrap (0 - (Int.tmod x3 10))) > (Int.tmod x3 10) then (IntKind.i64.wrap (0 - (Int.tmod x3 10))) else (Int.tmod x3 10))))), IntKind.i64.wrap (x2 - 1), IntKind.i64.wrap (Int.tdiv x3 10), h, rfl⟩
def tree_Path.f (k : Nat) (a0 : ByteArray) (a1 : ByteArray) (a2 : Int) : Option ByteArray := if (decide (a1.size + (⟨#[46]⟩ : ByteArray).size ≤ 9223372036854775807)) = true then ((chars_Text.f k a2).bind fun r2 => if (decide ((a1 ++ (⟨#[46]⟩ : ByteArray)).size + r2.size ≤ 9223372036854775807)) = true then (if (a0.toList == (⟨#[]⟩ : ByteArray).toList) = true then (some ((a1 ++ (⟨#[46]⟩ : ByteArray)) ++ r2)) else (if (decide (a0.size + (⟨#[47]⟩ : ByteArray).size ≤ 9223372036854775807)) = true then (if (decide ((a0 ++ (⟨#[47]⟩ : ByteArray)).size + ((a1 ++ (⟨#[46]⟩ : ByteArray)) ++ r2).size ≤ 9223372036854775807)) = true then (some ((a0 ++ (⟨#[47]⟩ : ByteArray)) ++ ((a1 ++ (⟨#[46]⟩ : ByteArray)) ++ r2))) else none) else none)) else none) else none
theorem tree_Path.meets (k : Nat) (a0 : ByteArray) (a1 : ByteArray) (a2 : Int) (r : ByteArray) (h : tree_Path.f k a0 a1 a2 = some r) : Meets Tryd.prog 10 [(st_ a0), (st_ a1), (si a2)] [] (st_ r) [] := by
 unfold tree_Path.f at h
 refine Meets.of_body (n := 20) Tryd.func10 rfl rfl (nl rfl) fun x hx => ?_
 replace hx : x.k = 0 := hx
 show AW _ x _ _ ⟨20, fr0 [(st_ a0), (st_ a1), (si a2)], []⟩
 refine AW.seq (AW.region ?_)
 refine s_assign (d := (st_ (⟨#[]⟩ : ByteArray))) rfl (AWops.nil (AW.seq (AW.region ?_)))
 refine s_move (d := (st_ a1)) rfl ?_
 obtain ⟨c1, h⟩ := gdH h
 refine s_binS (v := (.string (a1 ++ (⟨#[46]⟩ : ByteArray)))) rfl rfl (if_neg (by have := of_decide_eq_true c1; omega)) (s_move (d := (si a2)) rfl ?_)
 obtain ⟨r2, er2, h⟩ := bnd h
 refine cc [] [] (st_ r2) F.ca_24 rfl rfl (ac (.one .sc) an) an (chars_Text.meets _ a2 r2 er2) ?_
 obtain ⟨c3, h⟩ := gdH h
 refine s_binS (v := (.string ((a1 ++ (⟨#[46]⟩ : ByteArray)) ++ r2))) rfl rfl (if_neg (by have := of_decide_eq_true c3; omega)) (s_assign (d := (st_ ((a1 ++ (⟨#[46]⟩ : ByteArray)) ++ r2))) rfl (AWops.nil (AW.seq (AW.seq (AW.region (s_move (d := (st_ a0)) rfl (s_binS (v := (.bool (!(a0.toList == (⟨#[]⟩ : ByteArray).toList)))) rfl rfl rfl (AWops.nil ?_))))))))
 rcases itH h with ⟨c4, h⟩ | ⟨c4, h⟩
 ·refine AW.cond_no rfl (by rw [c4] <;> rfl) (AW.skip (AW.seq (AW.region ?_)))
  refine s_move (d := (st_ ((a1 ++ (⟨#[46]⟩ : ByteArray)) ++ r2))) rfl (s_assign (d := (st_ ((a1 ++ (⟨#[46]⟩ : ByteArray)) ++ r2))) rfl (AWops.nil (AW.ret ?_)))
  obtain rfl := Option.some.inj h
  exact ⟨_, rfl, (wg 0 [] [] rfl (le_upd (le_top _) (o1 .sc)) an)⟩
 ·refine AW.cond_yes rfl (by rw [c4] <;> rfl) (AW.region ?_)
  refine s_move (d := (st_ a0)) rfl ?_
  obtain ⟨c5, h⟩ := gdH h
  refine s_binS (v := (.string (a0 ++ (⟨#[47]⟩ : ByteArray)))) rfl rfl (if_neg (by have := of_decide_eq_true c5; omega)) (s_move (d := (st_ ((a1 ++ (⟨#[46]⟩ : ByteArray)) ++ r2))) rfl ?_)
  obtain ⟨c6, h⟩ := gdH h
  refine s_binS (v := (.string ((a0 ++ (⟨#[47]⟩ : ByteArray)) ++ ((a1 ++ (⟨#[46]⟩ : ByteArray)) ++ r2)))) rfl rfl (if_neg (by have := of_decide_eq_true c6; omega)) (s_assign (d := (st_ ((a0 ++ (⟨#[47]⟩ : ByteArray)) ++ ((a1 ++ (⟨#[46]⟩ : ByteArray)) ++ r2)))) rfl (AWops.nil (AW.seq (AW.region (s_move (d := (st_ ((a0 ++ (⟨#[47]⟩ : ByteArray)) ++ ((a1 ++ (⟨#[46]⟩ : ByteArray)) ++ r2)))) rfl (s_assign (d := (st_ ((a0 ++ (⟨#[47]⟩ : ByteArray)) ++ ((a1 ++ (⟨#[46]⟩ : ByteArray)) ++ r2)))) rfl (AWops.nil (AW.ret ?_))))))))
  obtain rfl := Option.some.inj h
  exact ⟨_, rfl, (wg 0 [] [] rfl (le_upd (le_top _) (o1 .sc)) an)⟩
mutual
def bytealg_LastIndexByteString.l0 : Nat → Int → ByteArray → Int → Option Int
 | 0, _, _, _ => none
 | k + 1, x1, a0, a1 => if (decide (x1 ≥ 0)) = true then ((bt a0 x1).bind fun v3 => if (v3 == a1) = true then (some x1) else (bytealg_LastIndexByteString.l0 k (IntKind.i64.wrap (x1 - 1)) a0 a1)) else (some (-1))
end
def bytealg_LastIndexByteString.f (k : Nat) (a0 : ByteArray) (a1 : Int) : Option Int := bytealg_LastIndexByteString.l0 k (IntKind.i64.wrap ((a0.size : Int) - 1)) a0 a1
theorem bytealg_LastIndexByteString.meets (k : Nat) (a0 : ByteArray) (a1 : Int) (r : Int) (h : bytealg_LastIndexByteString.f k a0 a1 = some r) : Meets Tryd.prog 42 [(st_ a0), (sc (.int .u8 a1))] [] (si r) [] := by
 unfold bytealg_LastIndexByteString.f at h
 refine Meets.of_body (n := 19) Tryd.func42 rfl rfl (nl rfl) fun x hx => ?_
 replace hx : x.k = 0 := hx
 show AW _ x _ _ ⟨19, fr0 [(st_ a0), (sc (.int .u8 a1))], []⟩
 refine AW.seq (AW.region ?_)
 refine s_assign (d := (si 0)) rfl (AWops.nil (AW.seq (AW.seq (AW.region ?_))))
 refine s_move (d := (st_ a0)) rfl (s_len (n := a0.size) F.u_9 rfl (.inl ⟨⟨_, _, rfl⟩, rfl⟩) (s_binI (v := (.int .i64 (IntKind.i64.wrap ((a0.size : Int) - 1)))) rfl rfl rfl (s_assign (d := (si (IntKind.i64.wrap ((a0.size : Int) - 1)))) rfl (AWops.nil (AW.block ?_)))))
 refine AW.loopw (st0 := ⟨19, (upd 19 (upd 19 (upd 19 topF 0 (st_ a0)) 1 (sc (.int .u8 a1))) 5 (si (IntKind.i64.wrap ((a0.size : Int) - 1)))), []⟩) (fun kv st => kv ≤ k ∧ ∃ (x1 : Int), bytealg_LastIndexByteString.l0 kv x1 a0 a1 = some r ∧ st = ⟨19, (upd 19 (upd 19 (upd 19 topF 0 (st_ a0)) 1 (sc (.int .u8 a1))) 5 (si x1)), []⟩) (k := k) (wg 0 [] [] hx (le_upd (le_upd (le_upd (le_top _) (o1 .sc)) (o1 .sc)) (o1 .sc)) an) ⟨Nat.le_refl _, IntKind.i64.wrap ((a0.size : Int) - 1), h, rfl⟩ ?_
 rintro ql0 st ⟨hkl0, x1, h, rfl⟩
 cases ql0 with
 | zero => exact absurd h (by simp [bytealg_LastIndexByteString.l0])
 | succ ql0 =>
  replace h := (bytealg_LastIndexByteString.l0.eq_2 _ _ _ _).symm.trans h
  refine AW.seq (AW.seq (AW.region ?_))
  refine s_move (d := (si x1)) rfl (s_binI (v := (.bool (decide (x1 ≥ 0)))) rfl rfl rfl (AWops.nil ?_))
  rcases itH h with ⟨c2, h⟩ | ⟨c2, h⟩
  ·refine AW.cond_yes rfl c2 (AW.skip (AW.seq (AW.block (AW.seq (AW.region ?_)))))
   refine s_move (d := (st_ a0)) rfl (s_move (d := (si x1)) rfl ?_)
   obtain ⟨v3, ev3, h⟩ := bnd h
   obtain ⟨pv3, bv3, gv3, rfl⟩ := bt_some ev3
   refine s_indexStr F.u_9 rfl rfl pv3 gv3 ?_
   generalize hzv3 : ((bv3.toNat : Nat) : Int) = v3 at *
   refine s_move (d := (sc (.int .u8 a1))) rfl (s_binI (v := (.bool (v3 == a1))) rfl rfl rfl (AWops.nil ?_))
   rcases itH h with ⟨c4, h⟩ | ⟨c4, h⟩
   ·refine AW.cond_yes rfl c4 (AW.seq (AW.region ?_))
    refine s_move (d := (si x1)) rfl (s_assign (d := (si x1)) rfl (AWops.nil (AW.ret ?_)))
    obtain rfl := Option.some.inj h
    exact ⟨_, rfl, (wg 0 [] [] rfl (le_upd (le_top _) (o1 .sc)) an)⟩
   ·refine AW.cond_no rfl c4 (AW.skip (AW.region ?_))
    refine s_move (d := (si x1)) rfl (s_binI (v := (.int .i64 (IntKind.i64.wrap (x1 - 1)))) rfl rfl rfl (s_assign (d := (si (IntKind.i64.wrap (x1 - 1)))) rfl (AWops.nil ?_)))
    exact ⟨_, ⟨19, (upd 19 (upd 19 (upd 19 topF 0 (st_ a0)) 1 (sc (.int .u8 a1))) 5 (si (IntKind.i64.wrap (x1 - 1)))), []⟩, by omega, (wg 0 [] [] hx (le_upd (le_upd (le_upd (le_top _) (o1 .sc)) (o1 .sc)) (o1 .sc)) an), by omega, IntKind.i64.wrap (x1 - 1), h, rfl⟩
  ·refine AW.cond_no rfl c2 (AW.exit (AW.seq (AW.region ?_)))
   refine s_assign (d := (si (-1))) rfl (AWops.nil (AW.ret ?_))
   obtain rfl := Option.some.inj h
   exact ⟨_, rfl, (wg 0 [] [] rfl (le_upd (le_top _) (o1 .sc)) an)⟩
def strings_LastIndexByte.f (k : Nat) (a0 : ByteArray) (a1 : Int) : Option Int := (bytealg_LastIndexByteString.f k a0 a1).bind fun r1 => some r1
theorem strings_LastIndexByte.meets (k : Nat) (a0 : ByteArray) (a1 : Int) (r : Int) (h : strings_LastIndexByte.f k a0 a1 = some r) : Meets Tryd.prog 25 [(st_ a0), (sc (.int .u8 a1))] [] (si r) [] := by
 unfold strings_LastIndexByte.f at h
 refine Meets.of_body (n := 8) Tryd.func25 rfl rfl (nl rfl) fun x hx => ?_
 replace hx : x.k = 0 := hx
 show AW _ x _ _ ⟨8, fr0 [(st_ a0), (sc (.int .u8 a1))], []⟩
 refine AW.seq (AW.region ?_)
 refine s_assign (d := (si 0)) rfl (AWops.nil (AW.seq (AW.region ?_)))
 refine s_move (d := (st_ a0)) rfl (s_move (d := (sc (.int .u8 a1))) rfl ?_)
 obtain ⟨r1, er1, h⟩ := bnd h
 refine cc [] [] (si r1) F.ca_42 rfl rfl (ac (.one .sc) (ac (.one .sc) an)) an (bytealg_LastIndexByteString.meets _ a0 a1 r1 er1) (s_assign (d := (si r1)) rfl (AWops.nil (AW.ret ?_)))
 obtain rfl := Option.some.inj h
 exact ⟨_, rfl, (wg 0 [] [] rfl (le_upd (le_top _) (o1 .sc)) an)⟩
def tree_Up.f (k : Nat) (a0 : ByteArray) : Option ByteArray := (strings_LastIndexByte.f k a0 47).bind fun r1 => if (decide (0 ≤ 0 ∧ 0 ≤ (if r1 > 0 then r1 else 0) ∧ (if r1 > 0 then r1 else 0) ≤ (a0.size : Int))) = true then (some (a0.extract 0 (if r1 > 0 then r1 else 0).toNat)) else none
theorem tree_Up.meets (k : Nat) (a0 : ByteArray) (r : ByteArray) (h : tree_Up.f k a0 = some r) : Meets Tryd.prog 11 [(st_ a0)] [] (st_ r) [] := by
 unfold tree_Up.f at h
 refine Meets.of_body (n := 8) Tryd.func11 rfl rfl (nl rfl) fun x hx => ?_
 replace hx : x.k = 0 := hx
 show AW _ x _ _ ⟨8, fr0 [(st_ a0)], []⟩
 refine AW.seq (AW.region ?_)
 refine s_assign (d := (st_ (⟨#[]⟩ : ByteArray))) rfl (AWops.nil (AW.seq (AW.region ?_)))
 refine s_move (d := (st_ a0)) rfl (s_move (d := (st_ a0)) rfl ?_)
 obtain ⟨r1, er1, h⟩ := bnd h
 refine cc [] [] (si r1) F.ca_25 rfl rfl (ac (.one .sc) (ac (.one .sc) an)) an (strings_LastIndexByte.meets _ a0 47 r1 er1) (s_max2 (r := (if r1 > 0 then r1 else 0)) rfl rfl rfl ?_)
 obtain ⟨c2, h⟩ := gdH h
 have dc2 := of_decide_eq_true c2
 refine s_sliceStr F.u_9 rfl .no (.yes rfl (by omega) rfl) (by omega) (by omega) (s_assign (d := (st_ (a0.extract 0 (if r1 > 0 then r1 else 0).toNat))) rfl (AWops.nil (AW.ret ?_)))
 obtain rfl := Option.some.inj h
 exact ⟨_, rfl, (wg 0 [] [] rfl (le_upd (le_top _) (o1 .sc)) an)⟩
def dossierlaw18_awake.f (k : Nat) : Option Bool := (tree_Path.f k (⟨#[112, 46, 49]⟩ : ByteArray) (⟨#[116]⟩ : ByteArray) 2).bind fun r1 => if (r1.toList == (⟨#[112, 46, 49, 47, 116, 46, 50]⟩ : ByteArray).toList) = true then ((tree_Up.f k (⟨#[112, 46, 49, 47, 116, 46, 50]⟩ : ByteArray)).bind fun r3 => some (r3.toList == (⟨#[112, 46, 49]⟩ : ByteArray).toList)) else (some false)
theorem dossierlaw18_awake.meets (k : Nat) (r : Bool) (h : dossierlaw18_awake.f k = some r) : Meets Tryd.prog 5 [] [] (sb r) [] := by
 unfold dossierlaw18_awake.f at h
 refine Meets.of_body (n := 7) Tryd.func5 rfl rfl (nl rfl) fun x hx => ?_
 replace hx : x.k = 0 := hx
 show AW _ x _ _ ⟨7, fr0 [], []⟩
 refine AW.seq (AW.region ?_)
 refine s_assign (d := (sb false)) rfl (AWops.nil (AW.seq (AW.region ?_)))
 obtain ⟨r1, er1, h⟩ := bnd h
 refine cc [] [] (st_ r1) F.ca_10 rfl rfl (ac (.one .sc) (ac (.one .sc) (ac (.one .sc) an))) an (tree_Path.meets _ (⟨#[112, 46, 49]⟩ : ByteArray) (⟨#[116]⟩ : ByteArray) 2 r1 er1) (s_binS (v := (.bool (r1.toList == (⟨#[112, 46, 49, 47, 116, 46, 50]⟩ : ByteArray).toList))) rfl rfl rfl (s_move (d := (sb (r1.toList == (⟨#[112, 46, 49, 47, 116, 46, 50]⟩ : ByteArray).toList))) rfl ?_))
 rcases itH h with ⟨c2, h⟩ | ⟨c2, h⟩
 ·refine AWops.guard_yes rfl (nl rfl) rfl c2 ?_
  obtain ⟨r3, er3, h⟩ := bnd h
  refine cc [] [] (st_ r3) F.ca_11 rfl rfl (ac (.one .sc) an) an (tree_Up.meets _ (⟨#[112, 46, 49, 47, 116, 46, 50]⟩ : ByteArray) r3 er3) ?_
  refine AWops.guard_yes rfl (nl rfl) rfl c2 ?_
  refine s_binS (v := (.bool (r3.toList == (⟨#[112, 46, 49]⟩ : ByteArray).toList))) rfl rfl rfl (s_pick_yes (d := (sb (r3.toList == (⟨#[112, 46, 49]⟩ : ByteArray).toList))) rfl c2 rfl (s_assign (d := (sb (r3.toList == (⟨#[112, 46, 49]⟩ : ByteArray).toList))) rfl (AWops.nil (AW.ret ?_))))
  obtain rfl := Option.some.inj h
  exact ⟨_, rfl, (wg 0 [] [] rfl (le_upd (le_top _) (o1 .sc)) an)⟩
 ·refine AWops.guard_no rfl (nl rfl) rfl c2 ?_
  refine AWops.guard_no rfl (nl rfl) rfl c2 ?_
  refine s_pick_no (d := (sb false)) rfl c2 rfl (s_assign (d := (sb false)) rfl (AWops.nil (AW.ret ?_)))
  obtain rfl := Option.some.inj h
  exact ⟨_, rfl, (wg 0 [] [] rfl (le_upd (le_top _) (o1 .sc)) an)⟩
def dossierref18_CopyInst.f (k : Nat) (a0 : api_Inst) : Option api_Inst := if (decide (([] : List Int).length + a0.Latches.length ≤ 17592186044416)) = true then (some a0) else none
theorem dossierref18_CopyInst.meets (k : Nat) (a0 : api_Inst) (r : api_Inst) (h : dossierref18_CopyInst.f k a0 = some r) : Meets Tryd.prog 12 [(D.agg (c_api_Inst a0))] [] (D.agg (c_api_Inst r)) [] := by
 unfold dossierref18_CopyInst.f at h
 refine Meets.of_body (n := 9) Tryd.func12 rfl rfl (nl rfl) fun x hx => ?_
 replace hx : x.k = 0 := hx
 show AW _ x _ _ ⟨9, fr0 [(D.agg (c_api_Inst a0))], []⟩
 refine AW.seq (AW.region ?_)
 refine s_box (cs := (c_api_Inst a0)) rfl (List.cons_ne_nil _ _) rfl (s_alloc (cs := [(ct (⟨#[]⟩ : ByteArray)), (ct (⟨#[]⟩ : ByteArray)), (ci 0), (ci 0), (C.p true (.v (.slice none 0 0))), (ci 0)]) F.z_28 rfl rfl (AWops.nil (AW.seq (AW.region (s_buildSlice (n := 0) (ps := []) (cs := rowC e_i64 ([] : List Int)) F.u_26 F.sz_3 F.z_3 rfl rfl (by decide) (by decide) rfl rfl (s_fieldRef F.fo_28_4 (by decide) rfl (s_load1 (c' := (C.p false (.sl a0.Latches.length (a0.Latches.flatMap e_i64)))) F.ag_26 rfl rfl ?_)))))))
 obtain ⟨c1, h⟩ := gdH h
 have dc1 := of_decide_eq_true c1
 refine t_append (xs := ([] : List Int)) (ys := a0.Latches) (zs := a0.Latches) (H' := [(some (AObj.cells true (c_api_Inst a0))), (some (AObj.cells true [(ct (⟨#[]⟩ : ByteArray)), (ct (⟨#[]⟩ : ByteArray)), (ci 0), (ci 0), (C.p true (.v (.slice none 0 0))), (ci 0)])), none, (ow_ e_i64 a0.Latches)]) F.u_26 F.in_3 rfl e_i64_len (.own rfl rfl) .imm F.u_26 (by omega) (by omega) rfl rfl (s_fieldRef F.fo_28_4 (by decide) rfl (s_store (cs' := [(ct a0.Path), (ct a0.Item), (ci a0.State), (ci a0.Before), (C.own 3 0 a0.Latches.length 1), (ci a0.Due)]) rfl rfl rfl (List.cons_ne_nil _ _) rfl F.sz_26 (nl rfl) rfl (AWops.nil (AW.seq (AW.region (s_loadN (ds := [(ct a0.Path), (ct a0.Item), (ci a0.State), (ci a0.Before), (C.own 3 0 a0.Latches.length 1), (ci a0.Due)]) F.ag_28 F.sz_28 rfl rfl rfl (s_store (cs' := [(ct a0.Path), (ct a0.Item), (ci a0.State), (ci a0.Before), (C.own 3 0 a0.Latches.length 1), (ci a0.Due)]) rfl rfl rfl (List.cons_ne_nil _ _) rfl F.sz_28 (nl rfl) rfl (AWops.nil (AW.ret ?_)))))))))
 obtain rfl := Option.some.inj h
 exact ⟨_, rfl, (wg 0 [] [3] rfl (le_upd (le_top _) (.t (.agg (ac .sc (ac .sc (ac .sc (ac .sc (ac (CLe.frz e_i64_len rfl rfl rfl) (ac .sc an))))))))) an)⟩
def dossierref16_Copy.f (k : Nat) (a0 : api_Doc) : Option api_Doc := if (decide (([] : List ByteArray).length + a0.Refs.length ≤ 8796093022208)) = true then (some a0) else none
theorem dossierref16_Copy.meets (k : Nat) (a0 : api_Doc) (r : api_Doc) (h : dossierref16_Copy.f k a0 = some r) : Meets Tryd.prog 13 [(D.agg (c_api_Doc a0))] [] (D.agg (c_api_Doc r)) [] := by
 unfold dossierref16_Copy.f at h
 refine Meets.of_body (n := 9) Tryd.func13 rfl rfl (nl rfl) fun x hx => ?_
 replace hx : x.k = 0 := hx
 show AW _ x _ _ ⟨9, fr0 [(D.agg (c_api_Doc a0))], []⟩
 refine AW.seq (AW.region ?_)
 refine s_box (cs := (c_api_Doc a0)) rfl (List.cons_ne_nil _ _) rfl (s_alloc (cs := [(ct (⟨#[]⟩ : ByteArray)), (ci 0), (ci 0), (cb false), (ct (⟨#[]⟩ : ByteArray)), (C.p true (.v (.slice none 0 0)))]) F.z_39 rfl rfl (AWops.nil (AW.seq (AW.region (s_buildSlice (n := 0) (ps := []) (cs := rowC e_str ([] : List ByteArray)) F.u_37 F.sz_9 F.z_9 rfl rfl (by decide) (by decide) rfl rfl (s_fieldRef F.fo_39_2 (by decide) rfl (s_load1 (c' := (C.p false (.sl a0.Refs.length (a0.Refs.flatMap e_str)))) F.ag_37 rfl rfl ?_)))))))
 obtain ⟨c1, h⟩ := gdH h
 have dc1 := of_decide_eq_true c1
 refine t_append (xs := ([] : List ByteArray)) (ys := a0.Refs) (zs := a0.Refs) (H' := [(some (AObj.cells true (c_api_Doc a0))), (some (AObj.cells true [(ct (⟨#[]⟩ : ByteArray)), (ci 0), (ci 0), (cb false), (ct (⟨#[]⟩ : ByteArray)), (C.p true (.v (.slice none 0 0)))])), none, (ow_ e_str a0.Refs)]) F.u_37 F.in_9 rfl e_str_len (.own rfl rfl) .imm F.u_37 (by omega) (by omega) rfl rfl (s_fieldRef F.fo_39_2 (by decide) rfl (s_store (cs' := [(ct a0.Path), (ci a0.Value.Kind), (ci a0.Value.Int), (cb a0.Value.Bool), (ct a0.Value.Text), (C.own 3 0 a0.Refs.length 1)]) rfl rfl rfl (List.cons_ne_nil _ _) rfl F.sz_37 (nl rfl) rfl (AWops.nil (AW.seq (AW.region (s_loadN (ds := [(ct a0.Path), (ci a0.Value.Kind), (ci a0.Value.Int), (cb a0.Value.Bool), (ct a0.Value.Text), (C.own 3 0 a0.Refs.length 1)]) F.ag_39 F.sz_39 rfl rfl rfl (s_store (cs' := [(ct a0.Path), (ci a0.Value.Kind), (ci a0.Value.Int), (cb a0.Value.Bool), (ct a0.Value.Text), (C.own 3 0 a0.Refs.length 1)]) rfl rfl rfl (List.cons_ne_nil _ _) rfl F.sz_39 (nl rfl) rfl (AWops.nil (AW.ret ?_)))))))))
 obtain rfl := Option.some.inj h
 exact ⟨_, rfl, (wg 0 [] [3] rfl (le_upd (le_top _) (.t (.agg (ac .sc (ac .sc (ac .sc (ac .sc (ac .sc (ac (CLe.frz e_str_len rfl rfl rfl) an))))))))) an)⟩
mutual
def dossierref18_Copy.l1 : Nat → (List api_Doc) → Int → api_Case → (List api_Inst) → Option api_Case
 | 0, _, _, _, _ => none
 | k + 1, x7, x8, a0, x1 => if (decide (x8 < (a0.Docs.length : Int))) = true then ((rd a0.Docs x8).bind fun v10 => (dossierref16_Copy.f k v10).bind fun r11 => if (decide (x7.length + ([r11] : List api_Doc).length ≤ 1759218604441)) = true then (dossierref18_Copy.l1 k (x7 ++ ([r11] : List api_Doc)) (IntKind.i64.wrap (x8 + 1)) a0 x1) else none) else (some (⟨a0.ID, a0.Model, x1, x7, a0.Clock⟩ : api_Case))
def dossierref18_Copy.l0 : Nat → (List api_Inst) → Int → api_Case → Option api_Case
 | 0, _, _, _ => none
 | k + 1, x1, x2, a0 => if (decide (x2 < (a0.Insts.length : Int))) = true then ((rd a0.Insts x2).bind fun v4 => (dossierref18_CopyInst.f k v4).bind fun r5 => if (decide (x1.length + ([r5] : List api_Inst).length ≤ 1759218604441)) = true then (dossierref18_Copy.l0 k (x1 ++ ([r5] : List api_Inst)) (IntKind.i64.wrap (x2 + 1)) a0) else none) else (dossierref18_Copy.l1 k ([] : List api_Doc) 0 a0 x1)
end
def dossierref18_Copy.f (k : Nat) (a0 : api_Case) : Option api_Case := dossierref18_Copy.l0 k ([] : List api_Inst) 0 a0
theorem dossierref18_Copy.meets (k : Nat) (a0 : api_Case) (r : api_Case) (h : dossierref18_Copy.f k a0 = some r) : Meets Tryd.prog 6 [(D.agg (c_api_Case a0))] [] (D.agg [(ci r.ID), (ct r.Model), (C.own 0 0 r.Insts.length 6), (C.p false (.sl r.Docs.length (r.Docs.flatMap e_api_Doc))), (ci r.Clock)]) [(ow_ e_api_Inst r.Insts)] := by
 unfold dossierref18_Copy.f at h
 refine Meets.of_body (n := 44) Tryd.func6 rfl rfl (nl rfl) fun x hx => ?_
 replace hx : x.k = 0 := hx
 show AW _ x _ _ ⟨44, fr0 [(D.agg (c_api_Case a0))], []⟩
 refine AW.seq (AW.region ?_)
 refine s_box (cs := (c_api_Case a0)) rfl (List.cons_ne_nil _ _) rfl (s_alloc (cs := [(ci 0), (ct (⟨#[]⟩ : ByteArray)), (C.p true (.v (.slice none 0 0))), (C.p true (.v (.slice none 0 0))), (ci 0)]) F.z_25 rfl rfl (AWops.nil (AW.seq ?_)))
 refine AW.weak (st' := ⟨44, (upd 44 (upd 44 topF 1 (rf 0 0)) 2 (rf 1 0)), [(some (AObj.cells true (c_api_Case a0))), (some (AObj.cells true [(ci 0), (ct (⟨#[]⟩ : ByteArray)), (C.p true (.v (.slice none 0 0))), (C.p true (.v (.slice none 0 0))), (ci 0)]))]⟩) (wg 0 [0, 1] [] hx (le_upd (le_upd (le_top _) (o1 (.ref rfl))) (o1 (.ref rfl))) (ac (.cells (fun _ => rfl) (ac .sc (ac .sc (ac .same (ac .same (ac .sc an)))))) (ac (.cells (fun _ => rfl) (ac .sc (ac .sc (ac .sc (ac .sc (ac .sc an)))))) an))) ?_
 refine AW.draw (n := 44) (L := 2) [(ft 0 9 (rf 0 2) [(1, (rf 0 0))]), (1, ⟨some 10, (D.one (C.p false (.sl a0.Insts.length (a0.Insts.flatMap e_api_Inst)))), [(9, (rf 0 2))], [(0, (some (AObj.cells true (c_api_Case a0))))], [], none⟩), (ft 2 11 (rf 0 3) [(1, (rf 0 0))]), (3, ⟨some 12, (D.one (C.p false (.sl a0.Docs.length (a0.Docs.flatMap e_api_Doc)))), [(11, (rf 0 3))], [(0, (some (AObj.cells true (c_api_Case a0))))], [], none⟩), (ft 4 3 (D.one (C.p false (.sl a0.Insts.length (a0.Insts.flatMap e_api_Inst)))) [(10, (D.one (C.p false (.sl a0.Insts.length (a0.Insts.flatMap e_api_Inst)))))]), (ft 5 4 (D.one (C.p false (.sl a0.Docs.length (a0.Docs.flatMap e_api_Doc)))) [(12, (D.one (C.p false (.sl a0.Docs.length (a0.Docs.flatMap e_api_Doc)))))])] [[], [0], [], [2], [0, 1], (.range 5)] (nl rfl) [0, 1, 3, 4, 2, 5] rfl (TK := []) rfl AllK.nil' (by repeat (first | refine fC ⟨?_, ?_⟩ ?_ | refine sC rfl ?_ | refine hC rfl ?_ | trivial)) ?_ ?_
 ·refine (pC ?_ (pC ?_ (pC ?_ (pC ?_ (pC ?_ (pC ?_ AllStep.nil'))))))
  ·intro K rest fr hv htk k
   show AWops _ x _ _ K ⟨44, (upd 44 fr 1 (rf 0 0)), [(hv 0), (hv 1)]⟩
   refine s_fieldRef F.fo_25_2 (by decide) rfl k
  ·intro K rest fr hv htk k
   show AWops _ x _ _ K ⟨44, (upd 44 fr 9 (rf 0 2)), [(some (AObj.cells true (c_api_Case a0))), (hv 1)]⟩
   refine s_load1 (c' := (C.p false (.sl a0.Insts.length (a0.Insts.flatMap e_api_Inst)))) F.ag_22 rfl rfl k
  ·intro K rest fr hv htk k
   show AWops _ x _ _ K ⟨44, (upd 44 fr 1 (rf 0 0)), [(hv 0), (hv 1)]⟩
   refine s_fieldRef F.fo_25_3 (by decide) rfl k
  ·intro K rest fr hv htk k
   show AWops _ x _ _ K ⟨44, (upd 44 fr 11 (rf 0 3)), [(some (AObj.cells true (c_api_Case a0))), (hv 1)]⟩
   refine s_load1 (c' := (C.p false (.sl a0.Docs.length (a0.Docs.flatMap e_api_Doc)))) F.ag_23 rfl rfl k
  ·intro K rest fr hv htk k
   show AWops _ x _ _ K ⟨44, (upd 44 fr 10 (D.one (C.p false (.sl a0.Insts.length (a0.Insts.flatMap e_api_Inst))))), _⟩
   refine s_assign (d := (D.one (C.p false (.sl a0.Insts.length (a0.Insts.flatMap e_api_Inst))))) rfl k
  ·intro K rest fr hv htk k
   show AWops _ x _ _ K ⟨44, (upd 44 fr 12 (D.one (C.p false (.sl a0.Docs.length (a0.Docs.flatMap e_api_Doc))))), _⟩
   refine s_assign (d := (D.one (C.p false (.sl a0.Docs.length (a0.Docs.flatMap e_api_Doc))))) rfl k
 ·refine AWops.weak (st' := ⟨44, (upd 44 (upd 44 (upd 44 (upd 44 topF 1 (rf 0 0)) 2 (rf 1 0)) 3 (D.one (C.p false (.sl a0.Insts.length (a0.Insts.flatMap e_api_Inst))))) 4 (D.one (C.p false (.sl a0.Docs.length (a0.Docs.flatMap e_api_Doc))))), [(some (AObj.cells true (c_api_Case a0))), (some (AObj.cells true [(ci 0), (ct (⟨#[]⟩ : ByteArray)), (C.p true (.v (.slice none 0 0))), (C.p true (.v (.slice none 0 0))), (ci 0)]))]⟩) (wg 0 [0, 1] [] hx (le_upd (le_upd (le_upd (le_upd (le_top _) (o1 (.ref rfl))) (o1 (.ref rfl))) (o1 .same)) (o1 .same)) (ac (.cells (fun _ => rfl) (ac .sc (ac .sc (ac .same (ac .same (ac .sc an)))))) (ac (.cells (fun _ => rfl) (ac .sc (ac .sc (ac .sc (ac .sc (ac .sc an)))))) an))) (AWops.nil (AW.seq (AW.region ?_)))
  refine s_fieldRef F.fo_25_2 (by decide) rfl (s_store (cs' := [(ci a0.ID), (ct a0.Model), (C.p true (.v (.slice none 0 0))), (C.p false (.sl a0.Docs.length (a0.Docs.flatMap e_api_Doc))), (ci a0.Clock)]) rfl rfl rfl (List.cons_ne_nil _ _) rfl F.sz_22 (nl rfl) rfl (s_fieldRef F.fo_25_3 (by decide) rfl (s_store (cs' := [(ci a0.ID), (ct a0.Model), (C.p true (.v (.slice none 0 0))), (C.p true (.v (.slice none 0 0))), (ci a0.Clock)]) rfl rfl rfl (List.cons_ne_nil _ _) rfl F.sz_23 (nl rfl) rfl (AWops.nil (AW.seq (AW.seq (AW.region (s_move (d := (D.one (C.p false (.sl a0.Insts.length (a0.Insts.flatMap e_api_Inst))))) rfl (s_len (n := a0.Insts.length) F.u_22 rfl (.inr ⟨(fun _ _ h => by cases h), ⟨_, rfl⟩⟩) ?_)))))))))
  refine s_move (d := (si 0)) rfl (AWops.nil (AW.block ?_))
  refine AW.loopw (st0 := ⟨44, (upd 44 (upd 44 (upd 44 (upd 44 (upd 44 (upd 44 topF 1 (rf 0 0)) 2 (rf 1 0)) 4 (D.one (C.p false (.sl a0.Docs.length (a0.Docs.flatMap e_api_Doc))))) 15 (D.one (C.p false (.sl a0.Insts.length (a0.Insts.flatMap e_api_Inst))))) 16 (si (a0.Insts.length : Int))) 17 (si 0)), [(o_api_Case_23 true (C.own 2 0 ([] : List api_Inst).length 6) (C.p true (.v (.slice none 0 0))) a0), (some (AObj.cells true [(ci 0), (ct (⟨#[]⟩ : ByteArray)), (C.p true (.v (.slice none 0 0))), (C.p true (.v (.slice none 0 0))), (ci 0)])), (some (AObj.cells true (rowC e_api_Inst ([] : List api_Inst))))]⟩) (fun kv st => kv ≤ k ∧ ∃ (x1 : List api_Inst) (x2 : Int), dossierref18_Copy.l0 kv x1 x2 a0 = some r ∧ st = ⟨44, (upd 44 (upd 44 (upd 44 (upd 44 (upd 44 (upd 44 topF 1 (rf 0 0)) 2 (rf 1 0)) 4 (D.one (C.p false (.sl a0.Docs.length (a0.Docs.flatMap e_api_Doc))))) 15 (D.one (C.p false (.sl a0.Insts.length (a0.Insts.flatMap e_api_Inst))))) 16 (si (a0.Insts.length : Int))) 17 (si x2)), [(o_api_Case_23 true (C.own 2 0 x1.length 6) (C.p true (.v (.slice none 0 0))) a0), (some (AObj.cells true [(ci 0), (ct (⟨#[]⟩ : ByteArray)), (C.p true (.v (.slice none 0 0))), (C.p true (.v (.slice none 0 0))), (ci 0)])), (ow_ e_api_Inst x1)]⟩) (k := k) (Weak.trans (Weak.nilC (t := 0) (j := 2) (sz := 6) rfl rfl rfl) (wg 0 [0, 1, 2] [] hx (le_upd (le_upd (le_upd (le_upd (le_upd (le_upd (le_top _) (o1 (.ref rfl))) (o1 (.ref rfl))) (o1 .same)) (o1 .same)) (o1 .sc)) (o1 .sc)) (ac (.cells (fun _ => rfl) (ac .sc (ac .sc (ac (.own rfl) (ac .sc (ac .sc an)))))) (ac (.cells (fun _ => rfl) (ac .sc (ac .sc (ac .sc (ac .sc (ac .sc an)))))) (ac (.cells (fun _ => rfl) an) an))))) ⟨Nat.le_refl _, ([] : List api_Inst), 0, h, rfl⟩ ?_
  rintro ql0 st ⟨hkl0, x1, x2, h, rfl⟩
  cases ql0 with
  | zero => exact absurd h (by simp [dossierref18_Copy.l0])
  | succ ql0 =>
   replace h := (dossierref18_Copy.l0.eq_2 _ _ _ _).symm.trans h
   refine AW.seq (AW.region ?_)
   refine s_binI (v := (.bool (decide (x2 < (a0.Insts.length : Int))))) rfl rfl rfl (AWops.nil (AW.seq ?_))
   rcases itH h with ⟨c3, h⟩ | ⟨c3, h⟩
   ·refine AW.cond_yes rfl c3 (AW.skip (AW.seq (AW.block (AW.seq (AW.region ?_)))))
    obtain ⟨v4, ev4, h⟩ := bnd h
    obtain ⟨pv4, qv4, gv4⟩ := rd_some ev4
    refine s_indexImm (ps := (p_api_Inst v4)) F.u_22 F.sz_28 rfl rfl pv4 qv4 (flat_at e_api_Inst_len gv4 (e_api_Inst_eq v4)) (s_loadN (ds := (c_api_Inst v4)) F.ag_28 F.sz_28 rfl rfl rfl (s_alloc (cs := [(ct (⟨#[]⟩ : ByteArray)), (ct (⟨#[]⟩ : ByteArray)), (ci 0), (ci 0), (C.p true (.v (.slice none 0 0))), (ci 0)]) F.z_28 rfl rfl (s_store (cs' := (c_api_Inst v4)) rfl rfl rfl (List.cons_ne_nil _ _) rfl F.sz_28 (nl rfl) rfl (AWops.nil ?_))))
    refine AW.weak (st' := ⟨44, (upd 44 (upd 44 (upd 44 (upd 44 (upd 44 (upd 44 (upd 44 topF 1 (rf 0 0)) 2 (rf 1 0)) 4 (D.one (C.p false (.sl a0.Docs.length (a0.Docs.flatMap e_api_Doc))))) 6 (rf 2 0)) 15 (D.one (C.p false (.sl a0.Insts.length (a0.Insts.flatMap e_api_Inst))))) 16 (si (a0.Insts.length : Int))) 17 (si x2)), [(o_api_Case_23 true (C.own 3 0 x1.length 6) (C.p true (.v (.slice none 0 0))) a0), (some (AObj.cells true [(ci 0), (ct (⟨#[]⟩ : ByteArray)), (C.p true (.v (.slice none 0 0))), (C.p true (.v (.slice none 0 0))), (ci 0)])), (some (AObj.cells true (c_api_Inst v4))), (ow_ e_api_Inst x1)]⟩) (wg 0 [0, 1, 3, 2] [] hx (le_upd (le_upd (le_upd (le_upd (le_upd (le_upd (le_upd (le_top _) (o1 (.ref rfl))) (o1 (.ref rfl))) (o1 .same)) (o1 (.ref rfl))) (o1 .same)) (o1 .sc)) (o1 .sc)) (ac (.cells (fun _ => rfl) (ac .sc (ac .sc (ac (.own rfl) (ac .sc (ac .sc an)))))) (ac (.cells (fun _ => rfl) (ac .sc (ac .sc (ac .sc (ac .sc (ac .sc an)))))) (ac (.cells (fun _ => rfl) (ac .sc (ac .sc (ac .sc (ac .sc (ac .same (ac .sc an))))))) (ac (.cells (fun _ => rfl) (all2_row _)) an))))) ?_
    obtain ⟨r5, er5, h⟩ := bnd h
    obtain ⟨c6, h⟩ := gdH h
    have dc6 := of_decide_eq_true c6
    refine AW.draw (n := 44) (L := 7) [(ft 0 21 (rf 0 2) [(1, (rf 0 0))]), (1, ⟨some 22, (D.one (C.own 3 0 x1.length 6)), [(21, (rf 0 2))], [(0, (o_api_Case_23 true (C.own 3 0 x1.length 6) (C.p true (.v (.slice none 0 0))) a0))], [], none⟩), (2, ⟨some 23, (D.agg (c_api_Inst v4)), [(6, (rf 2 0))], [(2, (some (AObj.cells true (c_api_Inst v4))))], [], none⟩), (ft 3 24 (D.agg (c_api_Inst r5)) [(23, (D.agg (c_api_Inst v4)))]), (4, ⟨some 25, (D.one (C.own 5 0 (([r5] : List api_Inst).length) 6)), [(24, (D.agg (c_api_Inst r5)))], [], [(5, (some (AObj.cells true (rowC e_api_Inst ([r5] : List api_Inst)))))], some 5⟩), (5, ⟨some 26, (D.one (C.own 6 0 ((x1 ++ ([r5] : List api_Inst)).length) 6)), [(22, (D.one (C.own 3 0 x1.length 6))), (25, (D.one (C.own 5 0 (([r5] : List api_Inst).length) 6)))], [(3, (ow_ e_api_Inst x1)), (5, (some (AObj.cells true (rowC e_api_Inst ([r5] : List api_Inst)))))], [(3, none), (6, (some (AObj.cells true (rowC e_api_Inst (x1 ++ ([r5] : List api_Inst))))))], some 6⟩), (ft 6 27 (rf 0 2) [(1, (rf 0 0))]), (7, ⟨none, (D.one C.top), [(26, (D.one (C.own 6 0 ((x1 ++ ([r5] : List api_Inst)).length) 6))), (27, (rf 0 2))], [(0, (o_api_Case_23 true (C.own 3 0 x1.length 6) (C.p true (.v (.slice none 0 0))) a0))], [(0, (o_api_Case_23 true (C.own 6 0 ((x1 ++ ([r5] : List api_Inst)).length) 6) (C.p true (.v (.slice none 0 0))) a0))], none⟩)] [[], [0], [], [2], [2, 3], (.range 5), (.range 6), (.range 7)] (nl rfl) [0, 1, 0, 1, 2, 3, 4, 5] rfl (TK := [(4, 5), (5, 6)]) rfl (AllK.cons' ⟨(tk_upd (tk_upd (tk_upd (tk_upd (tk_upd (tk_upd (tk_upd tk_top rfl) rfl) rfl) rfl) rfl) rfl) rfl), (tC rfl (tC rfl (tC rfl (tC (tkO_row _) AllT.nil')))), (fC (.inr rfl) (fC (.inr rfl) (fC (.inr rfl) (fC (.inr rfl) (fC (.inl rfl) (fC (.inl rfl) (fC (.inl rfl) (fC (.inl rfl) AllF.nil'))))))))⟩ (AllK.cons' ⟨(tk_upd (tk_upd (tk_upd (tk_upd (tk_upd (tk_upd (tk_upd tk_top rfl) rfl) rfl) rfl) rfl) rfl) rfl), (tC rfl (tC rfl (tC rfl (tC (tkO_row _) AllT.nil')))), (by repeat (first | refine fC (.inl rfl) ?_ | refine fC (.inr rfl) ?_ | refine fC (.inr (by unfold tkFoot; simp only [List.all_cons, List.all_nil, tkO_row, Bool.and_true, Bool.true_and]; rfl)) ?_ | trivial))⟩ AllK.nil')) (by repeat (first | refine fC ⟨?_, ?_⟩ ?_ | refine sC rfl ?_ | refine hC rfl ?_ | trivial)) ?_ ?_
    ·refine (pC ?_ (pC ?_ (pC ?_ (pC ?_ (pC ?_ (pC ?_ (pC ?_ (pC ?_ AllStep.nil'))))))))
     ·intro K rest fr hv htk k
      show AWops _ x _ _ K ⟨44, (upd 44 fr 1 (rf 0 0)), [(hv 0), (hv 1), (hv 2), (hv 3), (hv 4), (hv 5), (hv 6)]⟩
      refine s_fieldRef F.fo_25_2 (by decide) rfl k
     ·intro K rest fr hv htk k
      show AWops _ x _ _ K ⟨44, (upd 44 fr 21 (rf 0 2)), [(o_api_Case_23 true (C.own 3 0 x1.length 6) (C.p true (.v (.slice none 0 0))) a0), (hv 1), (hv 2), (hv 3), (hv 4), (hv 5), (hv 6)]⟩
      refine s_load1 (c' := (C.own 3 0 x1.length 6)) F.ag_22 rfl rfl k
     ·intro K rest fr hv htk k
      show AWops _ x _ _ K ⟨44, (upd 44 fr 6 (rf 2 0)), [(hv 0), (hv 1), (some (AObj.cells true (c_api_Inst v4))), (hv 3), (hv 4), (hv 5), (hv 6)]⟩
      refine s_loadN (ds := (c_api_Inst v4)) F.ag_28 F.sz_28 rfl rfl rfl k
     ·intro K rest fr hv htk k
      show AWops _ x _ _ K ⟨44, (upd 44 fr 23 (D.agg (c_api_Inst v4))), [(hv 0), (hv 1), (hv 2), (hv 3), (hv 4), (hv 5), (hv 6)]⟩
      refine cc [] [(hv 0), (hv 1), (hv 2), (hv 3), (hv 4), (hv 5), (hv 6)] (D.agg (c_api_Inst r5)) F.ca_12 rfl rfl (ac (LendT.aggL (ac .sc (ac .sc (ac .sc (ac .sc (ac .imm (ac .sc an))))))) an) an (dossierref18_CopyInst.meets _ v4 r5 er5) k
     ·intro K rest fr hv htk k
      show AWops _ x _ _ K ⟨44, (upd 44 fr 24 (D.agg (c_api_Inst r5))), [(hv 0), (hv 1), (hv 2), (hv 3), (hv 4), (hv 5), (hv 6)]⟩
      refine s_buildSlice (n := 1) (ps := [(0, (D.agg (c_api_Inst r5)))]) (cs := rowC e_api_Inst ([r5] : List api_Inst)) F.u_22 F.sz_28 F.z_28 rfl rfl (by decide) (by decide) rfl rfl ?_
      refine AWops.weak (st' := ⟨44, (upd 44 (upd 44 fr 24 (D.agg (c_api_Inst r5))) 25 (D.one (C.own 5 0 (([r5] : List api_Inst).length) 6))), [(hv 0), (hv 1), (hv 2), (hv 3), (hv 4), (some (AObj.cells true (rowC e_api_Inst ([r5] : List api_Inst)))), (hv 6)]⟩) (wg 0 [0, 1, 2, 3, 4, 7, 6] [] hx (le_upd2 (le_ok (p := 5) (L := 7) rfl (htk 5 rfl).1) (o1 (.own rfl))) (ac (oq 5 7 (htk 5 rfl) 0) (ac (oq 5 7 (htk 5 rfl) 1) (ac (oq 5 7 (htk 5 rfl) 2) (ac (oq 5 7 (htk 5 rfl) 3) (ac (oq 5 7 (htk 5 rfl) 4) (ac (.cells (fun _ => rfl) (all2_row _)) (ac (oq 5 7 (htk 5 rfl) 6) an)))))))) k
     ·intro K rest fr hv htk k
      show AWops _ x _ _ K ⟨44, (upd 44 (upd 44 fr 25 (D.one (C.own 5 0 (([r5] : List api_Inst).length) 6))) 22 (D.one (C.own 3 0 x1.length 6))), [(hv 0), (hv 1), (hv 2), (ow_ e_api_Inst x1), (hv 4), (some (AObj.cells true (rowC e_api_Inst ([r5] : List api_Inst)))), (hv 6)]⟩
      refine t_append (xs := x1) (ys := ([r5] : List api_Inst)) (zs := x1 ++ ([r5] : List api_Inst)) (H' := [(hv 0), (hv 1), (hv 2), none, (hv 4), (some (AObj.cells true (rowC e_api_Inst ([r5] : List api_Inst)))), (hv 6), (some (AObj.cells true (rowC e_api_Inst (x1 ++ ([r5] : List api_Inst)))))]) F.u_22 F.in_28 rfl e_api_Inst_len (.own rfl rfl) (.own rfl rfl) F.u_22 (by omega) (by omega) rfl rfl ?_
      refine AWops.weak (st' := ⟨44, (upd 44 (upd 44 (upd 44 fr 25 (D.one (C.own 5 0 (([r5] : List api_Inst).length) 6))) 22 (D.one (C.own 3 0 x1.length 6))) 26 (D.one (C.own 6 0 ((x1 ++ ([r5] : List api_Inst)).length) 6))), [(hv 0), (hv 1), (hv 2), none, (hv 4), (some (AObj.cells true (rowC e_api_Inst ([r5] : List api_Inst)))), (some (AObj.cells true (rowC e_api_Inst (x1 ++ ([r5] : List api_Inst)))))]⟩) (wg 0 [0, 1, 2, 3, 4, 5, 7] [] hx (le_upd2 (le_ok (p := 6) (L := 7) rfl (htk 6 rfl).1) (o1 (.own rfl))) (ac (oq 6 7 (htk 6 rfl) 0) (ac (oq 6 7 (htk 6 rfl) 1) (ac (oq 6 7 (htk 6 rfl) 2) (ac (.none _) (ac (oq 6 7 (htk 6 rfl) 4) (ac (.cells (fun _ => rfl) (all2_row _)) (ac (.cells (fun _ => rfl) (all2_row _)) an)))))))) k
     ·intro K rest fr hv htk k
      show AWops _ x _ _ K ⟨44, (upd 44 fr 1 (rf 0 0)), [(hv 0), (hv 1), (hv 2), (hv 3), (hv 4), (hv 5), (hv 6)]⟩
      refine s_fieldRef F.fo_25_2 (by decide) rfl k
     ·intro K rest fr hv htk k
      show AWops _ x _ _ K ⟨44, (upd 44 (upd 44 fr 27 (rf 0 2)) 26 (D.one (C.own 6 0 ((x1 ++ ([r5] : List api_Inst)).length) 6))), [(o_api_Case_23 true (C.own 3 0 x1.length 6) (C.p true (.v (.slice none 0 0))) a0), (hv 1), (hv 2), (hv 3), (hv 4), (hv 5), (hv 6)]⟩
      refine s_store (cs' := [(ci a0.ID), (ct a0.Model), (C.own 6 0 ((x1 ++ ([r5] : List api_Inst)).length) 6), (C.p true (.v (.slice none 0 0))), (ci a0.Clock)]) rfl rfl rfl (List.cons_ne_nil _ _) rfl F.sz_22 (nl rfl) rfl k
    ·refine AWops.weak (st' := ⟨44, (upd 44 (upd 44 (upd 44 (upd 44 (upd 44 (upd 44 topF 1 (rf 0 0)) 2 (rf 1 0)) 4 (D.one (C.p false (.sl a0.Docs.length (a0.Docs.flatMap e_api_Doc))))) 15 (D.one (C.p false (.sl a0.Insts.length (a0.Insts.flatMap e_api_Inst))))) 16 (si (a0.Insts.length : Int))) 17 (si x2)), [(o_api_Case_23 true (C.own 2 0 ((x1 ++ ([r5] : List api_Inst)).length) 6) (C.p true (.v (.slice none 0 0))) a0), (some (AObj.cells true [(ci 0), (ct (⟨#[]⟩ : ByteArray)), (C.p true (.v (.slice none 0 0))), (C.p true (.v (.slice none 0 0))), (ci 0)])), (some (AObj.cells true (rowC e_api_Inst (x1 ++ ([r5] : List api_Inst)))))]⟩) (wg 0 [0, 1, 6] [] hx (le_upd (le_upd (le_upd (le_upd (le_upd (le_upd (le_top _) (o1 (.ref rfl))) (o1 (.ref rfl))) (o1 .same)) (o1 .same)) (o1 .sc)) (o1 .sc)) (ac (.cells (fun _ => rfl) (ac .sc (ac .sc (ac (.own rfl) (ac .sc (ac .sc an)))))) (ac (.cells (fun _ => rfl) (ac .sc (ac .sc (ac .sc (ac .sc (ac .sc an)))))) (ac (.cells (fun _ => rfl) (all2_row _)) an)))) (AWops.nil (AW.region ?_))
     refine s_binI (v := (.int .i64 (IntKind.i64.wrap (x2 + 1)))) rfl rfl rfl (s_move (d := (si (IntKind.i64.wrap (x2 + 1)))) rfl (AWops.nil ?_))
     exact ⟨_, ⟨44, (upd 44 (upd 44 (upd 44 (upd 44 (upd 44 (upd 44 topF 1 (rf 0 0)) 2 (rf 1 0)) 4 (D.one (C.p false (.sl a0.Docs.length (a0.Docs.flatMap e_api_Doc))))) 15 (D.one (C.p false (.sl a0.Insts.length (a0.Insts.flatMap e_api_Inst))))) 16 (si (a0.Insts.length : Int))) 17 (si (IntKind.i64.wrap (x2 + 1)))), [(o_api_Case_23 true (C.own 2 0 (x1 ++ ([r5] : List api_Inst)).length 6) (C.p true (.v (.slice none 0 0))) a0), (some (AObj.cells true [(ci 0), (ct (⟨#[]⟩ : ByteArray)), (C.p true (.v (.slice none 0 0))), (C.p true (.v (.slice none 0 0))), (ci 0)])), (some (AObj.cells true (rowC e_api_Inst (x1 ++ ([r5] : List api_Inst)))))]⟩, by omega, (wg 0 [0, 1, 2] [] hx (le_upd (le_upd (le_upd (le_upd (le_upd (le_upd (le_top _) (o1 (.ref rfl))) (o1 (.ref rfl))) (o1 .same)) (o1 .same)) (o1 .sc)) (o1 .sc)) (ac (.cells (fun _ => rfl) (ac .sc (ac .sc (ac (.own rfl) (ac .sc (ac .sc an)))))) (ac (.cells (fun _ => rfl) (ac .sc (ac .sc (ac .sc (ac .sc (ac .sc an)))))) (ac (.cells (fun _ => rfl) (all2_row _)) an)))), by omega, x1 ++ ([r5] : List api_Inst), IntKind.i64.wrap (x2 + 1), h, rfl⟩
   ·refine AW.cond_no rfl c3 (AW.exit (AW.seq (AW.seq (AW.region ?_))))
    refine s_move (d := (D.one (C.p false (.sl a0.Docs.length (a0.Docs.flatMap e_api_Doc))))) rfl (s_len (n := a0.Docs.length) F.u_23 rfl (.inr ⟨(fun _ _ h => by cases h), ⟨_, rfl⟩⟩) (s_move (d := (si 0)) rfl (AWops.nil (AW.block ?_))))
    refine AW.loopw (st0 := ⟨44, (upd 44 (upd 44 (upd 44 (upd 44 (upd 44 topF 1 (rf 0 0)) 2 (rf 1 0)) 29 (D.one (C.p false (.sl a0.Docs.length (a0.Docs.flatMap e_api_Doc))))) 30 (si (a0.Docs.length : Int))) 31 (si 0)), [(o_api_Case_23 true (C.own 2 0 x1.length 6) (C.own 3 0 ([] : List api_Doc).length 6) a0), (some (AObj.cells true [(ci 0), (ct (⟨#[]⟩ : ByteArray)), (C.p true (.v (.slice none 0 0))), (C.p true (.v (.slice none 0 0))), (ci 0)])), (ow_ e_api_Inst x1), (some (AObj.cells true (rowC e_api_Doc ([] : List api_Doc))))]⟩) (fun kv st => kv ≤ ql0 ∧ ∃ (x7 : List api_Doc) (x8 : Int), dossierref18_Copy.l1 kv x7 x8 a0 x1 = some r ∧ st = ⟨44, (upd 44 (upd 44 (upd 44 (upd 44 (upd 44 topF 1 (rf 0 0)) 2 (rf 1 0)) 29 (D.one (C.p false (.sl a0.Docs.length (a0.Docs.flatMap e_api_Doc))))) 30 (si (a0.Docs.length : Int))) 31 (si x8)), [(o_api_Case_23 true (C.own 2 0 x1.length 6) (C.own 3 0 x7.length 6) a0), (some (AObj.cells true [(ci 0), (ct (⟨#[]⟩ : ByteArray)), (C.p true (.v (.slice none 0 0))), (C.p true (.v (.slice none 0 0))), (ci 0)])), (ow_ e_api_Inst x1), (ow_ e_api_Doc x7)]⟩) (k := ql0) (Weak.trans (Weak.nilC (t := 0) (j := 3) (sz := 6) rfl rfl rfl) (wg 0 [0, 1, 2, 3] [] hx (le_upd (le_upd (le_upd (le_upd (le_upd (le_top _) (o1 (.ref rfl))) (o1 (.ref rfl))) (o1 .same)) (o1 .sc)) (o1 .sc)) (ac (.cells (fun _ => rfl) (ac .sc (ac .sc (ac (.own rfl) (ac (.own rfl) (ac .sc an)))))) (ac (.cells (fun _ => rfl) (ac .sc (ac .sc (ac .sc (ac .sc (ac .sc an)))))) (ac (.cells (fun _ => rfl) (all2_row _)) (ac (.cells (fun _ => rfl) an) an)))))) ⟨Nat.le_refl _, ([] : List api_Doc), 0, h, rfl⟩ ?_
    rintro ql1 st ⟨hkl1, x7, x8, h, rfl⟩
    cases ql1 with
    | zero => exact absurd h (by simp [dossierref18_Copy.l1])
    | succ ql1 =>
     replace h := (dossierref18_Copy.l1.eq_2 _ _ _ _ _).symm.trans h
     refine AW.seq (AW.region ?_)
     refine s_binI (v := (.bool (decide (x8 < (a0.Docs.length : Int))))) rfl rfl rfl (AWops.nil (AW.seq ?_))
     rcases itH h with ⟨c9, h⟩ | ⟨c9, h⟩
     ·refine AW.cond_yes rfl c9 (AW.skip (AW.seq (AW.block (AW.seq (AW.region ?_)))))
      obtain ⟨v10, ev10, h⟩ := bnd h
      obtain ⟨pv10, qv10, gv10⟩ := rd_some ev10
      refine s_indexImm (ps := (p_api_Doc v10)) F.u_23 F.sz_39 rfl rfl pv10 qv10 (flat_at e_api_Doc_len gv10 (e_api_Doc_eq v10)) (s_loadN (ds := (c_api_Doc v10)) F.ag_39 F.sz_39 rfl rfl rfl (s_alloc (cs := [(ct (⟨#[]⟩ : ByteArray)), (ci 0), (ci 0), (cb false), (ct (⟨#[]⟩ : ByteArray)), (C.p true (.v (.slice none 0 0)))]) F.z_39 rfl rfl (s_store (cs' := (c_api_Doc v10)) rfl rfl rfl (List.cons_ne_nil _ _) rfl F.sz_39 (nl rfl) rfl (AWops.nil ?_))))
      refine AW.weak (st' := ⟨44, (upd 44 (upd 44 (upd 44 (upd 44 (upd 44 (upd 44 topF 1 (rf 0 0)) 2 (rf 1 0)) 8 (rf 2 0)) 29 (D.one (C.p false (.sl a0.Docs.length (a0.Docs.flatMap e_api_Doc))))) 30 (si (a0.Docs.length : Int))) 31 (si x8)), [(o_api_Case_23 true (C.own 3 0 x1.length 6) (C.own 4 0 x7.length 6) a0), (some (AObj.cells true [(ci 0), (ct (⟨#[]⟩ : ByteArray)), (C.p true (.v (.slice none 0 0))), (C.p true (.v (.slice none 0 0))), (ci 0)])), (some (AObj.cells true (c_api_Doc v10))), (ow_ e_api_Inst x1), (ow_ e_api_Doc x7)]⟩) (wg 0 [0, 1, 4, 2, 3] [] hx (le_upd (le_upd (le_upd (le_upd (le_upd (le_upd (le_top _) (o1 (.ref rfl))) (o1 (.ref rfl))) (o1 (.ref rfl))) (o1 .same)) (o1 .sc)) (o1 .sc)) (ac (.cells (fun _ => rfl) (ac .sc (ac .sc (ac (.own rfl) (ac (.own rfl) (ac .sc an)))))) (ac (.cells (fun _ => rfl) (ac .sc (ac .sc (ac .sc (ac .sc (ac .sc an)))))) (ac (.cells (fun _ => rfl) (ac .sc (ac .sc (ac .sc (ac .sc (ac .sc (ac .same an))))))) (ac (.cells (fun _ => rfl) (all2_row _)) (ac (.cells (fun _ => rfl) (all2_row _)) an)))))) ?_
      obtain ⟨r11, er11, h⟩ := bnd h
      obtain ⟨c12, h⟩ := gdH h
      have dc12 := of_decide_eq_true c12
      refine AW.draw (n := 44) (L := 8) [(ft 0 35 (rf 0 3) [(1, (rf 0 0))]), (1, ⟨some 36, (D.one (C.own 4 0 x7.length 6)), [(35, (rf 0 3))], [(0, (o_api_Case_23 true (C.own 3 0 x1.length 6) (C.own 4 0 x7.length 6) a0))], [], none⟩), (2, ⟨some 37, (D.agg (c_api_Doc v10)), [(8, (rf 2 0))], [(2, (some (AObj.cells true (c_api_Doc v10))))], [], none⟩), (ft 3 38 (D.agg (c_api_Doc r11)) [(37, (D.agg (c_api_Doc v10)))]), (4, ⟨some 39, (D.one (C.own 6 0 (([r11] : List api_Doc).length) 6)), [(38, (D.agg (c_api_Doc r11)))], [], [(6, (some (AObj.cells true (rowC e_api_Doc ([r11] : List api_Doc)))))], some 6⟩), (5, ⟨some 40, (D.one (C.own 7 0 ((x7 ++ ([r11] : List api_Doc)).length) 6)), [(36, (D.one (C.own 4 0 x7.length 6))), (39, (D.one (C.own 6 0 (([r11] : List api_Doc).length) 6)))], [(4, (ow_ e_api_Doc x7)), (6, (some (AObj.cells true (rowC e_api_Doc ([r11] : List api_Doc)))))], [(4, none), (7, (some (AObj.cells true (rowC e_api_Doc (x7 ++ ([r11] : List api_Doc))))))], some 7⟩), (ft 6 41 (rf 0 3) [(1, (rf 0 0))]), (7, ⟨none, (D.one C.top), [(40, (D.one (C.own 7 0 ((x7 ++ ([r11] : List api_Doc)).length) 6))), (41, (rf 0 3))], [(0, (o_api_Case_23 true (C.own 3 0 x1.length 6) (C.own 4 0 x7.length 6) a0))], [(0, (o_api_Case_23 true (C.own 3 0 x1.length 6) (C.own 7 0 ((x7 ++ ([r11] : List api_Doc)).length) 6) a0))], none⟩)] [[], [0], [], [2], [2, 3], (.range 5), (.range 6), (.range 7)] (nl rfl) [0, 1, 0, 1, 2, 3, 4, 5] rfl (TK := [(4, 6), (5, 7)]) rfl (AllK.cons' ⟨(tk_upd (tk_upd (tk_upd (tk_upd (tk_upd (tk_upd tk_top rfl) rfl) rfl) rfl) rfl) rfl), (tC rfl (tC rfl (tC rfl (tC (tkO_row _) (tC (tkO_row _) AllT.nil'))))), (fC (.inr rfl) (fC (.inr rfl) (fC (.inr rfl) (fC (.inr rfl) (fC (.inl rfl) (fC (.inl rfl) (fC (.inl rfl) (fC (.inl rfl) AllF.nil'))))))))⟩ (AllK.cons' ⟨(tk_upd (tk_upd (tk_upd (tk_upd (tk_upd (tk_upd tk_top rfl) rfl) rfl) rfl) rfl) rfl), (tC rfl (tC rfl (tC rfl (tC (tkO_row _) (tC (tkO_row _) AllT.nil'))))), (by repeat (first | refine fC (.inl rfl) ?_ | refine fC (.inr rfl) ?_ | refine fC (.inr (by unfold tkFoot; simp only [List.all_cons, List.all_nil, tkO_row, Bool.and_true, Bool.true_and]; rfl)) ?_ | trivial))⟩ AllK.nil')) (by repeat (first | refine fC ⟨?_, ?_⟩ ?_ | refine sC rfl ?_ | refine hC rfl ?_ | trivial)) ?_ ?_
      ·refine (pC ?_ (pC ?_ (pC ?_ (pC ?_ (pC ?_ (pC ?_ (pC ?_ (pC ?_ AllStep.nil'))))))))
       ·intro K rest fr hv htk k
        show AWops _ x _ _ K ⟨44, (upd 44 fr 1 (rf 0 0)), [(hv 0), (hv 1), (hv 2), (hv 3), (hv 4), (hv 5), (hv 6), (hv 7)]⟩
        refine s_fieldRef F.fo_25_3 (by decide) rfl k
       ·intro K rest fr hv htk k
        show AWops _ x _ _ K ⟨44, (upd 44 fr 35 (rf 0 3)), [(o_api_Case_23 true (C.own 3 0 x1.length 6) (C.own 4 0 x7.length 6) a0), (hv 1), (hv 2), (hv 3), (hv 4), (hv 5), (hv 6), (hv 7)]⟩
        refine s_load1 (c' := (C.own 4 0 x7.length 6)) F.ag_23 rfl rfl k
       ·intro K rest fr hv htk k
        show AWops _ x _ _ K ⟨44, (upd 44 fr 8 (rf 2 0)), [(hv 0), (hv 1), (some (AObj.cells true (c_api_Doc v10))), (hv 3), (hv 4), (hv 5), (hv 6), (hv 7)]⟩
        refine s_loadN (ds := (c_api_Doc v10)) F.ag_39 F.sz_39 rfl rfl rfl k
       ·intro K rest fr hv htk k
        show AWops _ x _ _ K ⟨44, (upd 44 fr 37 (D.agg (c_api_Doc v10))), [(hv 0), (hv 1), (hv 2), (hv 3), (hv 4), (hv 5), (hv 6), (hv 7)]⟩
        refine cc [] [(hv 0), (hv 1), (hv 2), (hv 3), (hv 4), (hv 5), (hv 6), (hv 7)] (D.agg (c_api_Doc r11)) F.ca_13 rfl rfl (ac (LendT.aggL (ac .sc (ac .sc (ac .sc (ac .sc (ac .sc (ac .imm an))))))) an) an (dossierref16_Copy.meets _ v10 r11 er11) k
       ·intro K rest fr hv htk k
        show AWops _ x _ _ K ⟨44, (upd 44 fr 38 (D.agg (c_api_Doc r11))), [(hv 0), (hv 1), (hv 2), (hv 3), (hv 4), (hv 5), (hv 6), (hv 7)]⟩
        refine s_buildSlice (n := 1) (ps := [(0, (D.agg (c_api_Doc r11)))]) (cs := rowC e_api_Doc ([r11] : List api_Doc)) F.u_23 F.sz_39 F.z_39 rfl rfl (by decide) (by decide) rfl rfl ?_
        refine AWops.weak (st' := ⟨44, (upd 44 (upd 44 fr 38 (D.agg (c_api_Doc r11))) 39 (D.one (C.own 6 0 (([r11] : List api_Doc).length) 6))), [(hv 0), (hv 1), (hv 2), (hv 3), (hv 4), (hv 5), (some (AObj.cells true (rowC e_api_Doc ([r11] : List api_Doc)))), (hv 7)]⟩) (wg 0 [0, 1, 2, 3, 4, 5, 8, 7] [] hx (le_upd2 (le_ok (p := 6) (L := 8) rfl (htk 6 rfl).1) (o1 (.own rfl))) (ac (oq 6 8 (htk 6 rfl) 0) (ac (oq 6 8 (htk 6 rfl) 1) (ac (oq 6 8 (htk 6 rfl) 2) (ac (oq 6 8 (htk 6 rfl) 3) (ac (oq 6 8 (htk 6 rfl) 4) (ac (oq 6 8 (htk 6 rfl) 5) (ac (.cells (fun _ => rfl) (all2_row _)) (ac (oq 6 8 (htk 6 rfl) 7) an))))))))) k
       ·intro K rest fr hv htk k
        show AWops _ x _ _ K ⟨44, (upd 44 (upd 44 fr 39 (D.one (C.own 6 0 (([r11] : List api_Doc).length) 6))) 36 (D.one (C.own 4 0 x7.length 6))), [(hv 0), (hv 1), (hv 2), (hv 3), (ow_ e_api_Doc x7), (hv 5), (some (AObj.cells true (rowC e_api_Doc ([r11] : List api_Doc)))), (hv 7)]⟩
        refine t_append (xs := x7) (ys := ([r11] : List api_Doc)) (zs := x7 ++ ([r11] : List api_Doc)) (H' := [(hv 0), (hv 1), (hv 2), (hv 3), none, (hv 5), (some (AObj.cells true (rowC e_api_Doc ([r11] : List api_Doc)))), (hv 7), (some (AObj.cells true (rowC e_api_Doc (x7 ++ ([r11] : List api_Doc)))))]) F.u_23 F.in_39 rfl e_api_Doc_len (.own rfl rfl) (.own rfl rfl) F.u_23 (by omega) (by omega) rfl rfl ?_
        refine AWops.weak (st' := ⟨44, (upd 44 (upd 44 (upd 44 fr 39 (D.one (C.own 6 0 (([r11] : List api_Doc).length) 6))) 36 (D.one (C.own 4 0 x7.length 6))) 40 (D.one (C.own 7 0 ((x7 ++ ([r11] : List api_Doc)).length) 6))), [(hv 0), (hv 1), (hv 2), (hv 3), none, (hv 5), (some (AObj.cells true (rowC e_api_Doc ([r11] : List api_Doc)))), (some (AObj.cells true (rowC e_api_Doc (x7 ++ ([r11] : List api_Doc)))))]⟩) (wg 0 [0, 1, 2, 3, 4, 5, 6, 8] [] hx (le_upd2 (le_ok (p := 7) (L := 8) rfl (htk 7 rfl).1) (o1 (.own rfl))) (ac (oq 7 8 (htk 7 rfl) 0) (ac (oq 7 8 (htk 7 rfl) 1) (ac (oq 7 8 (htk 7 rfl) 2) (ac (oq 7 8 (htk 7 rfl) 3) (ac (.none _) (ac (oq 7 8 (htk 7 rfl) 5) (ac (.cells (fun _ => rfl) (all2_row _)) (ac (.cells (fun _ => rfl) (all2_row _)) an))))))))) k
       ·intro K rest fr hv htk k
        show AWops _ x _ _ K ⟨44, (upd 44 fr 1 (rf 0 0)), [(hv 0), (hv 1), (hv 2), (hv 3), (hv 4), (hv 5), (hv 6), (hv 7)]⟩
        refine s_fieldRef F.fo_25_3 (by decide) rfl k
       ·intro K rest fr hv htk k
        show AWops _ x _ _ K ⟨44, (upd 44 (upd 44 fr 41 (rf 0 3)) 40 (D.one (C.own 7 0 ((x7 ++ ([r11] : List api_Doc)).length) 6))), [(o_api_Case_23 true (C.own 3 0 x1.length 6) (C.own 4 0 x7.length 6) a0), (hv 1), (hv 2), (hv 3), (hv 4), (hv 5), (hv 6), (hv 7)]⟩
        refine s_store (cs' := [(ci a0.ID), (ct a0.Model), (C.own 3 0 x1.length 6), (C.own 7 0 ((x7 ++ ([r11] : List api_Doc)).length) 6), (ci a0.Clock)]) rfl rfl rfl (List.cons_ne_nil _ _) rfl F.sz_23 (nl rfl) rfl k
      ·refine AWops.weak (st' := ⟨44, (upd 44 (upd 44 (upd 44 (upd 44 (upd 44 topF 1 (rf 0 0)) 2 (rf 1 0)) 29 (D.one (C.p false (.sl a0.Docs.length (a0.Docs.flatMap e_api_Doc))))) 30 (si (a0.Docs.length : Int))) 31 (si x8)), [(o_api_Case_23 true (C.own 2 0 x1.length 6) (C.own 3 0 ((x7 ++ ([r11] : List api_Doc)).length) 6) a0), (some (AObj.cells true [(ci 0), (ct (⟨#[]⟩ : ByteArray)), (C.p true (.v (.slice none 0 0))), (C.p true (.v (.slice none 0 0))), (ci 0)])), (ow_ e_api_Inst x1), (some (AObj.cells true (rowC e_api_Doc (x7 ++ ([r11] : List api_Doc)))))]⟩) (wg 0 [0, 1, 3, 7] [] hx (le_upd (le_upd (le_upd (le_upd (le_upd (le_top _) (o1 (.ref rfl))) (o1 (.ref rfl))) (o1 .same)) (o1 .sc)) (o1 .sc)) (ac (.cells (fun _ => rfl) (ac .sc (ac .sc (ac (.own rfl) (ac (.own rfl) (ac .sc an)))))) (ac (.cells (fun _ => rfl) (ac .sc (ac .sc (ac .sc (ac .sc (ac .sc an)))))) (ac (.cells (fun _ => rfl) (all2_row _)) (ac (.cells (fun _ => rfl) (all2_row _)) an))))) (AWops.nil (AW.region ?_))
       refine s_binI (v := (.int .i64 (IntKind.i64.wrap (x8 + 1)))) rfl rfl rfl (s_move (d := (si (IntKind.i64.wrap (x8 + 1)))) rfl (AWops.nil ?_))
       exact ⟨_, ⟨44, (upd 44 (upd 44 (upd 44 (upd 44 (upd 44 topF 1 (rf 0 0)) 2 (rf 1 0)) 29 (D.one (C.p false (.sl a0.Docs.length (a0.Docs.flatMap e_api_Doc))))) 30 (si (a0.Docs.length : Int))) 31 (si (IntKind.i64.wrap (x8 + 1)))), [(o_api_Case_23 true (C.own 2 0 x1.length 6) (C.own 3 0 (x7 ++ ([r11] : List api_Doc)).length 6) a0), (some (AObj.cells true [(ci 0), (ct (⟨#[]⟩ : ByteArray)), (C.p true (.v (.slice none 0 0))), (C.p true (.v (.slice none 0 0))), (ci 0)])), (ow_ e_api_Inst x1), (some (AObj.cells true (rowC e_api_Doc (x7 ++ ([r11] : List api_Doc)))))]⟩, by omega, (wg 0 [0, 1, 2, 3] [] hx (le_upd (le_upd (le_upd (le_upd (le_upd (le_top _) (o1 (.ref rfl))) (o1 (.ref rfl))) (o1 .same)) (o1 .sc)) (o1 .sc)) (ac (.cells (fun _ => rfl) (ac .sc (ac .sc (ac (.own rfl) (ac (.own rfl) (ac .sc an)))))) (ac (.cells (fun _ => rfl) (ac .sc (ac .sc (ac .sc (ac .sc (ac .sc an)))))) (ac (.cells (fun _ => rfl) (all2_row _)) (ac (.cells (fun _ => rfl) (all2_row _)) an))))), by omega, x7 ++ ([r11] : List api_Doc), IntKind.i64.wrap (x8 + 1), h, rfl⟩
     ·refine AW.cond_no rfl c9 (AW.exit (AW.seq (AW.region ?_)))
      refine s_loadN (ds := [(ci a0.ID), (ct a0.Model), (C.own 2 0 x1.length 6), (C.own 3 0 x7.length 6), (ci a0.Clock)]) F.ag_25 F.sz_25 rfl rfl rfl (s_store (cs' := [(ci a0.ID), (ct a0.Model), (C.own 2 0 x1.length 6), (C.own 3 0 x7.length 6), (ci a0.Clock)]) rfl rfl rfl (List.cons_ne_nil _ _) rfl F.sz_25 (nl rfl) rfl (AWops.nil (AW.ret ?_)))
      obtain rfl := Option.some.inj h
      exact ⟨_, rfl, (wg 0 [2] [3] rfl (le_upd (le_top _) (.t (.agg (ac .sc (ac .sc (ac (.own rfl) (ac (CLe.frz e_api_Doc_len rfl rfl rfl) (ac .sc an)))))))) (ac (.cells (fun _ => rfl) (all2_row _)) an))⟩
def slices_Clone_int_int.f (k : Nat) (a0 : List Int) : Option (List Int) := if (decide (([] : List Int).length + a0.length ≤ 17592186044416)) = true then (some a0) else none
theorem slices_Clone_int_int.meets (k : Nat) (a0 : List Int) (r : (List Int)) (h : slices_Clone_int_int.f k a0 = some r) : Meets Tryd.prog 27 [(D.one (C.p false (.sl a0.length (a0.flatMap e_i64))))] [] (D.one (C.own 0 0 r.length 1)) [(ow_ e_i64 r)] := by
 unfold slices_Clone_int_int.f at h
 refine Meets.of_body (n := 8) Tryd.func27 rfl rfl (nl rfl) fun x hx => ?_
 replace hx : x.k = 0 := hx
 show AW _ x _ _ ⟨8, fr0 [(D.one (C.p false (.sl a0.length (a0.flatMap e_i64))))], []⟩
 refine AW.seq (AW.region ?_)
 refine s_assign (d := (sc (.slice none 0 0))) rfl (AWops.nil (AW.seq (AW.seq (AW.region ?_))))
 refine s_move (d := (D.one (C.p false (.sl a0.length (a0.flatMap e_i64))))) rfl (s_eqNil (n := _) F.u_26 rfl (fun _ _ h => by cases h) rfl (.inl rfl) (fun b w => ?_))
 cases b with
 | false =>
  refine AWops.nil ?_
  refine AW.cond_no rfl rfl (AW.skip (AW.seq (AW.region ?_)))
  refine s_buildSlice (n := 0) (ps := []) (cs := rowC e_i64 ([] : List Int)) F.u_26 F.sz_3 F.z_3 rfl rfl (by decide) (by decide) rfl rfl (s_move (d := (D.one (C.p false (.sl a0.length (a0.flatMap e_i64))))) rfl ?_)
  obtain ⟨c1, h⟩ := gdH h
  have dc1 := of_decide_eq_true c1
  refine t_append (xs := ([] : List Int)) (ys := a0) (zs := a0) (H' := [none, (ow_ e_i64 a0)]) F.u_26 F.in_3 rfl e_i64_len (.own rfl rfl) .imm F.u_26 (by omega) (by omega) rfl rfl (s_assign (d := (D.one (C.own 1 0 a0.length 1))) rfl (AWops.nil (AW.ret ?_)))
  obtain rfl := Option.some.inj h
  exact ⟨_, rfl, (wg 0 [1] [] rfl (le_upd (le_top _) (o1 (.own rfl))) (ac (.cells (fun _ => rfl) (all2_row _)) an))⟩
 | true =>
  obtain rfl : a0 = [] := by cases a0 with | nil => rfl | cons _ _ => exact absurd (w (by simp)) (by decide)
  replace h : (some ([] : List Int)) = some r := by simpa [bytesI] using h
  skip
  refine AWops.nil ?_
  refine AW.cond_yes rfl rfl (AW.seq (AW.region ?_))
  refine s_assign (d := (sc (.slice none 0 0))) rfl (AWops.nil (AW.ret ?_))
  obtain rfl := Option.some.inj h
  exact ⟨_, rfl, (Weak.trans (Weak.nil (sz := 1) (i := 0) rfl) (wg 0 [0] [] rfl (le_upd (le_top _) (o1 (CLe.ownN rfl (by simp)))) (ac (.cells (fun _ => rfl) an) an)))⟩
def tree_own.f (k : Nat) (a0 : api_Inst) : Option api_Inst := (slices_Clone_int_int.f k a0.Latches).bind fun r1 => some (⟨a0.Path, a0.Item, a0.State, a0.Before, r1, a0.Due⟩ : api_Inst)
theorem tree_own.meets (k : Nat) (a0 : api_Inst) (r : api_Inst) (h : tree_own.f k a0 = some r) : Meets Tryd.prog 15 [(D.agg (c_api_Inst a0))] [] (D.agg (c_api_Inst r)) [] := by
 unfold tree_own.f at h
 refine Meets.of_body (n := 8) Tryd.func15 rfl rfl (nl rfl) fun x hx => ?_
 replace hx : x.k = 0 := hx
 show AW _ x _ _ ⟨8, fr0 [(D.agg (c_api_Inst a0))], []⟩
 refine AW.seq (AW.region ?_)
 refine s_box (cs := (c_api_Inst a0)) rfl (List.cons_ne_nil _ _) rfl (s_alloc (cs := [(ct (⟨#[]⟩ : ByteArray)), (ct (⟨#[]⟩ : ByteArray)), (ci 0), (ci 0), (C.p true (.v (.slice none 0 0))), (ci 0)]) F.z_28 rfl rfl (AWops.nil (AW.seq (AW.region (s_fieldRef F.fo_28_4 (by decide) rfl (s_load1 (c' := (C.p false (.sl a0.Latches.length (a0.Latches.flatMap e_i64)))) F.ag_26 rfl rfl ?_))))))
 obtain ⟨r1, er1, h⟩ := bnd h
 refine cc [] [(some (AObj.cells true (c_api_Inst a0))), (some (AObj.cells true [(ct (⟨#[]⟩ : ByteArray)), (ct (⟨#[]⟩ : ByteArray)), (ci 0), (ci 0), (C.p true (.v (.slice none 0 0))), (ci 0)])), (ow_ e_i64 r1)] (D.one (C.own 2 0 r1.length 1)) F.ca_27 rfl rfl (ac (.one .imm) an) an (slices_Clone_int_int.meets _ a0.Latches r1 er1) (s_fieldRef F.fo_28_4 (by decide) rfl (s_store (cs' := [(ct a0.Path), (ct a0.Item), (ci a0.State), (ci a0.Before), (C.own 2 0 r1.length 1), (ci a0.Due)]) rfl rfl rfl (List.cons_ne_nil _ _) rfl F.sz_26 (nl rfl) rfl (AWops.nil (AW.seq (AW.region (s_loadN (ds := [(ct a0.Path), (ct a0.Item), (ci a0.State), (ci a0.Before), (C.own 2 0 r1.length 1), (ci a0.Due)]) F.ag_28 F.sz_28 rfl rfl rfl (s_store (cs' := [(ct a0.Path), (ct a0.Item), (ci a0.State), (ci a0.Before), (C.own 2 0 r1.length 1), (ci a0.Due)]) rfl rfl rfl (List.cons_ne_nil _ _) rfl F.sz_28 (nl rfl) rfl (AWops.nil (AW.ret ?_)))))))))
 obtain rfl := Option.some.inj h
 exact ⟨_, rfl, (wg 0 [] [2] rfl (le_upd (le_top _) (.t (.agg (ac .sc (ac .sc (ac .sc (ac .sc (ac (CLe.frz e_i64_len rfl rfl rfl) (ac .sc an))))))))) an)⟩
def slices_Clone_string_string.f (k : Nat) (a0 : List ByteArray) : Option (List ByteArray) := if (decide (([] : List ByteArray).length + a0.length ≤ 8796093022208)) = true then (some a0) else none
theorem slices_Clone_string_string.meets (k : Nat) (a0 : List ByteArray) (r : (List ByteArray)) (h : slices_Clone_string_string.f k a0 = some r) : Meets Tryd.prog 26 [(D.one (C.p false (.sl a0.length (a0.flatMap e_str))))] [] (D.one (C.own 0 0 r.length 1)) [(ow_ e_str r)] := by
 unfold slices_Clone_string_string.f at h
 refine Meets.of_body (n := 8) Tryd.func26 rfl rfl (nl rfl) fun x hx => ?_
 replace hx : x.k = 0 := hx
 show AW _ x _ _ ⟨8, fr0 [(D.one (C.p false (.sl a0.length (a0.flatMap e_str))))], []⟩
 refine AW.seq (AW.region ?_)
 refine s_assign (d := (sc (.slice none 0 0))) rfl (AWops.nil (AW.seq (AW.seq (AW.region ?_))))
 refine s_move (d := (D.one (C.p false (.sl a0.length (a0.flatMap e_str))))) rfl (s_eqNil (n := _) F.u_37 rfl (fun _ _ h => by cases h) rfl (.inl rfl) (fun b w => ?_))
 cases b with
 | false =>
  refine AWops.nil ?_
  refine AW.cond_no rfl rfl (AW.skip (AW.seq (AW.region ?_)))
  refine s_buildSlice (n := 0) (ps := []) (cs := rowC e_str ([] : List ByteArray)) F.u_37 F.sz_9 F.z_9 rfl rfl (by decide) (by decide) rfl rfl (s_move (d := (D.one (C.p false (.sl a0.length (a0.flatMap e_str))))) rfl ?_)
  obtain ⟨c1, h⟩ := gdH h
  have dc1 := of_decide_eq_true c1
  refine t_append (xs := ([] : List ByteArray)) (ys := a0) (zs := a0) (H' := [none, (ow_ e_str a0)]) F.u_37 F.in_9 rfl e_str_len (.own rfl rfl) .imm F.u_37 (by omega) (by omega) rfl rfl (s_assign (d := (D.one (C.own 1 0 a0.length 1))) rfl (AWops.nil (AW.ret ?_)))
  obtain rfl := Option.some.inj h
  exact ⟨_, rfl, (wg 0 [1] [] rfl (le_upd (le_top _) (o1 (.own rfl))) (ac (.cells (fun _ => rfl) (all2_row _)) an))⟩
 | true =>
  obtain rfl : a0 = [] := by cases a0 with | nil => rfl | cons _ _ => exact absurd (w (by simp)) (by decide)
  replace h : (some ([] : List ByteArray)) = some r := by simpa [bytesI] using h
  skip
  refine AWops.nil ?_
  refine AW.cond_yes rfl rfl (AW.seq (AW.region ?_))
  refine s_assign (d := (sc (.slice none 0 0))) rfl (AWops.nil (AW.ret ?_))
  obtain rfl := Option.some.inj h
  exact ⟨_, rfl, (Weak.trans (Weak.nil (sz := 1) (i := 0) rfl) (wg 0 [0] [] rfl (le_upd (le_top _) (o1 (CLe.ownN rfl (by simp)))) (ac (.cells (fun _ => rfl) an) an)))⟩
mutual
def tree_Copy.l1 : Nat → (List api_Doc) → Int → api_Case → (List api_Inst) → Option api_Case
 | 0, _, _, _, _ => none
 | k + 1, x7, x8, a0, x1 => if (decide (x8 < (a0.Docs.length : Int))) = true then ((rd a0.Docs x8).bind fun v10 => (slices_Clone_string_string.f k v10.Refs).bind fun r11 => if (decide (x7.length + ([(⟨v10.Path, v10.Value, r11⟩ : api_Doc)] : List api_Doc).length ≤ 1759218604441)) = true then (tree_Copy.l1 k (x7 ++ ([(⟨v10.Path, v10.Value, r11⟩ : api_Doc)] : List api_Doc)) (IntKind.i64.wrap (x8 + 1)) a0 x1) else none) else (some (⟨a0.ID, a0.Model, x1, x7, a0.Clock⟩ : api_Case))
def tree_Copy.l0 : Nat → (List api_Inst) → Int → api_Case → Option api_Case
 | 0, _, _, _ => none
 | k + 1, x1, x2, a0 => if (decide (x2 < (a0.Insts.length : Int))) = true then ((rd a0.Insts x2).bind fun v4 => (tree_own.f k v4).bind fun r5 => if (decide (x1.length + ([r5] : List api_Inst).length ≤ 1759218604441)) = true then (tree_Copy.l0 k (x1 ++ ([r5] : List api_Inst)) (IntKind.i64.wrap (x2 + 1)) a0) else none) else (tree_Copy.l1 k ([] : List api_Doc) 0 a0 x1)
end
def tree_Copy.f (k : Nat) (a0 : api_Case) : Option api_Case := tree_Copy.l0 k ([] : List api_Inst) 0 a0
theorem tree_Copy.meets (k : Nat) (a0 : api_Case) (r : api_Case) (h : tree_Copy.f k a0 = some r) : Meets Tryd.prog 14 [(D.agg (c_api_Case a0))] [] (D.agg [(ci r.ID), (ct r.Model), (C.own 0 0 r.Insts.length 6), (C.p false (.sl r.Docs.length (r.Docs.flatMap e_api_Doc))), (ci r.Clock)]) [(ow_ e_api_Inst r.Insts)] := by
 unfold tree_Copy.f at h
 refine Meets.of_body (n := 47) Tryd.func14 rfl rfl (nl rfl) fun x hx => ?_
 replace hx : x.k = 0 := hx
 show AW _ x _ _ ⟨47, fr0 [(D.agg (c_api_Case a0))], []⟩
 refine AW.seq (AW.region ?_)
 refine s_box (cs := (c_api_Case a0)) rfl (List.cons_ne_nil _ _) rfl (s_alloc (cs := [(ci 0), (ct (⟨#[]⟩ : ByteArray)), (C.p true (.v (.slice none 0 0))), (C.p true (.v (.slice none 0 0))), (ci 0)]) F.z_25 rfl rfl (AWops.nil (AW.seq ?_)))
 refine AW.weak (st' := ⟨47, (upd 47 (upd 47 topF 1 (rf 0 0)) 2 (rf 1 0)), [(some (AObj.cells true (c_api_Case a0))), (some (AObj.cells true [(ci 0), (ct (⟨#[]⟩ : ByteArray)), (C.p true (.v (.slice none 0 0))), (C.p true (.v (.slice none 0 0))), (ci 0)]))]⟩) (wg 0 [0, 1] [] hx (le_upd (le_upd (le_top _) (o1 (.ref rfl))) (o1 (.ref rfl))) (ac (.cells (fun _ => rfl) (ac .sc (ac .sc (ac .same (ac .same (ac .sc an)))))) (ac (.cells (fun _ => rfl) (ac .sc (ac .sc (ac .sc (ac .sc (ac .sc an)))))) an))) ?_
 refine AW.draw (n := 47) (L := 2) [(ft 0 9 (rf 0 2) [(1, (rf 0 0))]), (1, ⟨some 10, (D.one (C.p false (.sl a0.Insts.length (a0.Insts.flatMap e_api_Inst)))), [(9, (rf 0 2))], [(0, (some (AObj.cells true (c_api_Case a0))))], [], none⟩), (ft 2 11 (rf 0 3) [(1, (rf 0 0))]), (3, ⟨some 12, (D.one (C.p false (.sl a0.Docs.length (a0.Docs.flatMap e_api_Doc)))), [(11, (rf 0 3))], [(0, (some (AObj.cells true (c_api_Case a0))))], [], none⟩), (ft 4 3 (D.one (C.p false (.sl a0.Insts.length (a0.Insts.flatMap e_api_Inst)))) [(10, (D.one (C.p false (.sl a0.Insts.length (a0.Insts.flatMap e_api_Inst)))))]), (ft 5 4 (D.one (C.p false (.sl a0.Docs.length (a0.Docs.flatMap e_api_Doc)))) [(12, (D.one (C.p false (.sl a0.Docs.length (a0.Docs.flatMap e_api_Doc)))))])] [[], [0], [], [2], [0, 1], (.range 5)] (nl rfl) [0, 1, 3, 4, 2, 5] rfl (TK := []) rfl AllK.nil' (by repeat (first | refine fC ⟨?_, ?_⟩ ?_ | refine sC rfl ?_ | refine hC rfl ?_ | trivial)) ?_ ?_
 ·refine (pC ?_ (pC ?_ (pC ?_ (pC ?_ (pC ?_ (pC ?_ AllStep.nil'))))))
  ·intro K rest fr hv htk k
   show AWops _ x _ _ K ⟨47, (upd 47 fr 1 (rf 0 0)), [(hv 0), (hv 1)]⟩
   refine s_fieldRef F.fo_25_2 (by decide) rfl k
  ·intro K rest fr hv htk k
   show AWops _ x _ _ K ⟨47, (upd 47 fr 9 (rf 0 2)), [(some (AObj.cells true (c_api_Case a0))), (hv 1)]⟩
   refine s_load1 (c' := (C.p false (.sl a0.Insts.length (a0.Insts.flatMap e_api_Inst)))) F.ag_22 rfl rfl k
  ·intro K rest fr hv htk k
   show AWops _ x _ _ K ⟨47, (upd 47 fr 1 (rf 0 0)), [(hv 0), (hv 1)]⟩
   refine s_fieldRef F.fo_25_3 (by decide) rfl k
  ·intro K rest fr hv htk k
   show AWops _ x _ _ K ⟨47, (upd 47 fr 11 (rf 0 3)), [(some (AObj.cells true (c_api_Case a0))), (hv 1)]⟩
   refine s_load1 (c' := (C.p false (.sl a0.Docs.length (a0.Docs.flatMap e_api_Doc)))) F.ag_23 rfl rfl k
  ·intro K rest fr hv htk k
   show AWops _ x _ _ K ⟨47, (upd 47 fr 10 (D.one (C.p false (.sl a0.Insts.length (a0.Insts.flatMap e_api_Inst))))), _⟩
   refine s_assign (d := (D.one (C.p false (.sl a0.Insts.length (a0.Insts.flatMap e_api_Inst))))) rfl k
  ·intro K rest fr hv htk k
   show AWops _ x _ _ K ⟨47, (upd 47 fr 12 (D.one (C.p false (.sl a0.Docs.length (a0.Docs.flatMap e_api_Doc))))), _⟩
   refine s_assign (d := (D.one (C.p false (.sl a0.Docs.length (a0.Docs.flatMap e_api_Doc))))) rfl k
 ·refine AWops.weak (st' := ⟨47, (upd 47 (upd 47 (upd 47 (upd 47 topF 1 (rf 0 0)) 2 (rf 1 0)) 3 (D.one (C.p false (.sl a0.Insts.length (a0.Insts.flatMap e_api_Inst))))) 4 (D.one (C.p false (.sl a0.Docs.length (a0.Docs.flatMap e_api_Doc))))), [(some (AObj.cells true (c_api_Case a0))), (some (AObj.cells true [(ci 0), (ct (⟨#[]⟩ : ByteArray)), (C.p true (.v (.slice none 0 0))), (C.p true (.v (.slice none 0 0))), (ci 0)]))]⟩) (wg 0 [0, 1] [] hx (le_upd (le_upd (le_upd (le_upd (le_top _) (o1 (.ref rfl))) (o1 (.ref rfl))) (o1 .same)) (o1 .same)) (ac (.cells (fun _ => rfl) (ac .sc (ac .sc (ac .same (ac .same (ac .sc an)))))) (ac (.cells (fun _ => rfl) (ac .sc (ac .sc (ac .sc (ac .sc (ac .sc an)))))) an))) (AWops.nil (AW.seq (AW.region ?_)))
  refine s_fieldRef F.fo_25_2 (by decide) rfl (s_store (cs' := [(ci a0.ID), (ct a0.Model), (C.p true (.v (.slice none 0 0))), (C.p false (.sl a0.Docs.length (a0.Docs.flatMap e_api_Doc))), (ci a0.Clock)]) rfl rfl rfl (List.cons_ne_nil _ _) rfl F.sz_22 (nl rfl) rfl (s_fieldRef F.fo_25_3 (by decide) rfl (s_store (cs' := [(ci a0.ID), (ct a0.Model), (C.p true (.v (.slice none 0 0))), (C.p true (.v (.slice none 0 0))), (ci a0.Clock)]) rfl rfl rfl (List.cons_ne_nil _ _) rfl F.sz_23 (nl rfl) rfl (AWops.nil (AW.seq (AW.seq (AW.region (s_move (d := (D.one (C.p false (.sl a0.Insts.length (a0.Insts.flatMap e_api_Inst))))) rfl (s_len (n := a0.Insts.length) F.u_22 rfl (.inr ⟨(fun _ _ h => by cases h), ⟨_, rfl⟩⟩) ?_)))))))))
  refine s_move (d := (si 0)) rfl (AWops.nil (AW.block ?_))
  refine AW.loopw (st0 := ⟨47, (upd 47 (upd 47 (upd 47 (upd 47 (upd 47 (upd 47 topF 1 (rf 0 0)) 2 (rf 1 0)) 4 (D.one (C.p false (.sl a0.Docs.length (a0.Docs.flatMap e_api_Doc))))) 15 (D.one (C.p false (.sl a0.Insts.length (a0.Insts.flatMap e_api_Inst))))) 16 (si (a0.Insts.length : Int))) 17 (si 0)), [(o_api_Case_23 true (C.own 2 0 ([] : List api_Inst).length 6) (C.p true (.v (.slice none 0 0))) a0), (some (AObj.cells true [(ci 0), (ct (⟨#[]⟩ : ByteArray)), (C.p true (.v (.slice none 0 0))), (C.p true (.v (.slice none 0 0))), (ci 0)])), (some (AObj.cells true (rowC e_api_Inst ([] : List api_Inst))))]⟩) (fun kv st => kv ≤ k ∧ ∃ (x1 : List api_Inst) (x2 : Int), tree_Copy.l0 kv x1 x2 a0 = some r ∧ st = ⟨47, (upd 47 (upd 47 (upd 47 (upd 47 (upd 47 (upd 47 topF 1 (rf 0 0)) 2 (rf 1 0)) 4 (D.one (C.p false (.sl a0.Docs.length (a0.Docs.flatMap e_api_Doc))))) 15 (D.one (C.p false (.sl a0.Insts.length (a0.Insts.flatMap e_api_Inst))))) 16 (si (a0.Insts.length : Int))) 17 (si x2)), [(o_api_Case_23 true (C.own 2 0 x1.length 6) (C.p true (.v (.slice none 0 0))) a0), (some (AObj.cells true [(ci 0), (ct (⟨#[]⟩ : ByteArray)), (C.p true (.v (.slice none 0 0))), (C.p true (.v (.slice none 0 0))), (ci 0)])), (ow_ e_api_Inst x1)]⟩) (k := k) (Weak.trans (Weak.nilC (t := 0) (j := 2) (sz := 6) rfl rfl rfl) (wg 0 [0, 1, 2] [] hx (le_upd (le_upd (le_upd (le_upd (le_upd (le_upd (le_top _) (o1 (.ref rfl))) (o1 (.ref rfl))) (o1 .same)) (o1 .same)) (o1 .sc)) (o1 .sc)) (ac (.cells (fun _ => rfl) (ac .sc (ac .sc (ac (.own rfl) (ac .sc (ac .sc an)))))) (ac (.cells (fun _ => rfl) (ac .sc (ac .sc (ac .sc (ac .sc (ac .sc an)))))) (ac (.cells (fun _ => rfl) an) an))))) ⟨Nat.le_refl _, ([] : List api_Inst), 0, h, rfl⟩ ?_
  rintro ql0 st ⟨hkl0, x1, x2, h, rfl⟩
  cases ql0 with
  | zero => exact absurd h (by simp [tree_Copy.l0])
  | succ ql0 =>
   replace h := (tree_Copy.l0.eq_2 _ _ _ _).symm.trans h
   refine AW.seq (AW.region ?_)
   refine s_binI (v := (.bool (decide (x2 < (a0.Insts.length : Int))))) rfl rfl rfl (AWops.nil (AW.seq ?_))
   rcases itH h with ⟨c3, h⟩ | ⟨c3, h⟩
   ·refine AW.cond_yes rfl c3 (AW.skip (AW.seq (AW.block (AW.seq (AW.region ?_)))))
    obtain ⟨v4, ev4, h⟩ := bnd h
    obtain ⟨pv4, qv4, gv4⟩ := rd_some ev4
    refine s_indexImm (ps := (p_api_Inst v4)) F.u_22 F.sz_28 rfl rfl pv4 qv4 (flat_at e_api_Inst_len gv4 (e_api_Inst_eq v4)) (s_loadN (ds := (c_api_Inst v4)) F.ag_28 F.sz_28 rfl rfl rfl (s_alloc (cs := [(ct (⟨#[]⟩ : ByteArray)), (ct (⟨#[]⟩ : ByteArray)), (ci 0), (ci 0), (C.p true (.v (.slice none 0 0))), (ci 0)]) F.z_28 rfl rfl (s_store (cs' := (c_api_Inst v4)) rfl rfl rfl (List.cons_ne_nil _ _) rfl F.sz_28 (nl rfl) rfl (AWops.nil ?_))))
    refine AW.weak (st' := ⟨47, (upd 47 (upd 47 (upd 47 (upd 47 (upd 47 (upd 47 (upd 47 topF 1 (rf 0 0)) 2 (rf 1 0)) 4 (D.one (C.p false (.sl a0.Docs.length (a0.Docs.flatMap e_api_Doc))))) 6 (rf 2 0)) 15 (D.one (C.p false (.sl a0.Insts.length (a0.Insts.flatMap e_api_Inst))))) 16 (si (a0.Insts.length : Int))) 17 (si x2)), [(o_api_Case_23 true (C.own 3 0 x1.length 6) (C.p true (.v (.slice none 0 0))) a0), (some (AObj.cells true [(ci 0), (ct (⟨#[]⟩ : ByteArray)), (C.p true (.v (.slice none 0 0))), (C.p true (.v (.slice none 0 0))), (ci 0)])), (some (AObj.cells true (c_api_Inst v4))), (ow_ e_api_Inst x1)]⟩) (wg 0 [0, 1, 3, 2] [] hx (le_upd (le_upd (le_upd (le_upd (le_upd (le_upd (le_upd (le_top _) (o1 (.ref rfl))) (o1 (.ref rfl))) (o1 .same)) (o1 (.ref rfl))) (o1 .same)) (o1 .sc)) (o1 .sc)) (ac (.cells (fun _ => rfl) (ac .sc (ac .sc (ac (.own rfl) (ac .sc (ac .sc an)))))) (ac (.cells (fun _ => rfl) (ac .sc (ac .sc (ac .sc (ac .sc (ac .sc an)))))) (ac (.cells (fun _ => rfl) (ac .sc (ac .sc (ac .sc (ac .sc (ac .same (ac .sc an))))))) (ac (.cells (fun _ => rfl) (all2_row _)) an))))) ?_
    obtain ⟨r5, er5, h⟩ := bnd h
    obtain ⟨c6, h⟩ := gdH h
    have dc6 := of_decide_eq_true c6
    refine AW.draw (n := 47) (L := 7) [(ft 0 21 (rf 0 2) [(1, (rf 0 0))]), (1, ⟨some 22, (D.one (C.own 3 0 x1.length 6)), [(21, (rf 0 2))], [(0, (o_api_Case_23 true (C.own 3 0 x1.length 6) (C.p true (.v (.slice none 0 0))) a0))], [], none⟩), (2, ⟨some 23, (D.agg (c_api_Inst v4)), [(6, (rf 2 0))], [(2, (some (AObj.cells true (c_api_Inst v4))))], [], none⟩), (ft 3 24 (D.agg (c_api_Inst r5)) [(23, (D.agg (c_api_Inst v4)))]), (4, ⟨some 25, (D.one (C.own 5 0 (([r5] : List api_Inst).length) 6)), [(24, (D.agg (c_api_Inst r5)))], [], [(5, (some (AObj.cells true (rowC e_api_Inst ([r5] : List api_Inst)))))], some 5⟩), (5, ⟨some 26, (D.one (C.own 6 0 ((x1 ++ ([r5] : List api_Inst)).length) 6)), [(22, (D.one (C.own 3 0 x1.length 6))), (25, (D.one (C.own 5 0 (([r5] : List api_Inst).length) 6)))], [(3, (ow_ e_api_Inst x1)), (5, (some (AObj.cells true (rowC e_api_Inst ([r5] : List api_Inst)))))], [(3, none), (6, (some (AObj.cells true (rowC e_api_Inst (x1 ++ ([r5] : List api_Inst))))))], some 6⟩), (ft 6 27 (rf 0 2) [(1, (rf 0 0))]), (7, ⟨none, (D.one C.top), [(26, (D.one (C.own 6 0 ((x1 ++ ([r5] : List api_Inst)).length) 6))), (27, (rf 0 2))], [(0, (o_api_Case_23 true (C.own 3 0 x1.length 6) (C.p true (.v (.slice none 0 0))) a0))], [(0, (o_api_Case_23 true (C.own 6 0 ((x1 ++ ([r5] : List api_Inst)).length) 6) (C.p true (.v (.slice none 0 0))) a0))], none⟩)] [[], [0], [], [2], [2, 3], (.range 5), (.range 6), (.range 7)] (nl rfl) [0, 1, 0, 1, 2, 3, 4, 5] rfl (TK := [(4, 5), (5, 6)]) rfl (AllK.cons' ⟨(tk_upd (tk_upd (tk_upd (tk_upd (tk_upd (tk_upd (tk_upd tk_top rfl) rfl) rfl) rfl) rfl) rfl) rfl), (tC rfl (tC rfl (tC rfl (tC (tkO_row _) AllT.nil')))), (fC (.inr rfl) (fC (.inr rfl) (fC (.inr rfl) (fC (.inr rfl) (fC (.inl rfl) (fC (.inl rfl) (fC (.inl rfl) (fC (.inl rfl) AllF.nil'))))))))⟩ (AllK.cons' ⟨(tk_upd (tk_upd (tk_upd (tk_upd (tk_upd (tk_upd (tk_upd tk_top rfl) rfl) rfl) rfl) rfl) rfl) rfl), (tC rfl (tC rfl (tC rfl (tC (tkO_row _) AllT.nil')))), (by repeat (first | refine fC (.inl rfl) ?_ | refine fC (.inr rfl) ?_ | refine fC (.inr (by unfold tkFoot; simp only [List.all_cons, List.all_nil, tkO_row, Bool.and_true, Bool.true_and]; rfl)) ?_ | trivial))⟩ AllK.nil')) (by repeat (first | refine fC ⟨?_, ?_⟩ ?_ | refine sC rfl ?_ | refine hC rfl ?_ | trivial)) ?_ ?_
    ·refine (pC ?_ (pC ?_ (pC ?_ (pC ?_ (pC ?_ (pC ?_ (pC ?_ (pC ?_ AllStep.nil'))))))))
     ·intro K rest fr hv htk k
      show AWops _ x _ _ K ⟨47, (upd 47 fr 1 (rf 0 0)), [(hv 0), (hv 1), (hv 2), (hv 3), (hv 4), (hv 5), (hv 6)]⟩
      refine s_fieldRef F.fo_25_2 (by decide) rfl k
     ·intro K rest fr hv htk k
      show AWops _ x _ _ K ⟨47, (upd 47 fr 21 (rf 0 2)), [(o_api_Case_23 true (C.own 3 0 x1.length 6) (C.p true (.v (.slice none 0 0))) a0), (hv 1), (hv 2), (hv 3), (hv 4), (hv 5), (hv 6)]⟩
      refine s_load1 (c' := (C.own 3 0 x1.length 6)) F.ag_22 rfl rfl k
     ·intro K rest fr hv htk k
      show AWops _ x _ _ K ⟨47, (upd 47 fr 6 (rf 2 0)), [(hv 0), (hv 1), (some (AObj.cells true (c_api_Inst v4))), (hv 3), (hv 4), (hv 5), (hv 6)]⟩
      refine s_loadN (ds := (c_api_Inst v4)) F.ag_28 F.sz_28 rfl rfl rfl k
     ·intro K rest fr hv htk k
      show AWops _ x _ _ K ⟨47, (upd 47 fr 23 (D.agg (c_api_Inst v4))), [(hv 0), (hv 1), (hv 2), (hv 3), (hv 4), (hv 5), (hv 6)]⟩
      refine cc [] [(hv 0), (hv 1), (hv 2), (hv 3), (hv 4), (hv 5), (hv 6)] (D.agg (c_api_Inst r5)) F.ca_15 rfl rfl (ac (LendT.aggL (ac .sc (ac .sc (ac .sc (ac .sc (ac .imm (ac .sc an))))))) an) an (tree_own.meets _ v4 r5 er5) k
     ·intro K rest fr hv htk k
      show AWops _ x _ _ K ⟨47, (upd 47 fr 24 (D.agg (c_api_Inst r5))), [(hv 0), (hv 1), (hv 2), (hv 3), (hv 4), (hv 5), (hv 6)]⟩
      refine s_buildSlice (n := 1) (ps := [(0, (D.agg (c_api_Inst r5)))]) (cs := rowC e_api_Inst ([r5] : List api_Inst)) F.u_22 F.sz_28 F.z_28 rfl rfl (by decide) (by decide) rfl rfl ?_
      refine AWops.weak (st' := ⟨47, (upd 47 (upd 47 fr 24 (D.agg (c_api_Inst r5))) 25 (D.one (C.own 5 0 (([r5] : List api_Inst).length) 6))), [(hv 0), (hv 1), (hv 2), (hv 3), (hv 4), (some (AObj.cells true (rowC e_api_Inst ([r5] : List api_Inst)))), (hv 6)]⟩) (wg 0 [0, 1, 2, 3, 4, 7, 6] [] hx (le_upd2 (le_ok (p := 5) (L := 7) rfl (htk 5 rfl).1) (o1 (.own rfl))) (ac (oq 5 7 (htk 5 rfl) 0) (ac (oq 5 7 (htk 5 rfl) 1) (ac (oq 5 7 (htk 5 rfl) 2) (ac (oq 5 7 (htk 5 rfl) 3) (ac (oq 5 7 (htk 5 rfl) 4) (ac (.cells (fun _ => rfl) (all2_row _)) (ac (oq 5 7 (htk 5 rfl) 6) an)))))))) k
     ·intro K rest fr hv htk k
      show AWops _ x _ _ K ⟨47, (upd 47 (upd 47 fr 25 (D.one (C.own 5 0 (([r5] : List api_Inst).length) 6))) 22 (D.one (C.own 3 0 x1.length 6))), [(hv 0), (hv 1), (hv 2), (ow_ e_api_Inst x1), (hv 4), (some (AObj.cells true (rowC e_api_Inst ([r5] : List api_Inst)))), (hv 6)]⟩
      refine t_append (xs := x1) (ys := ([r5] : List api_Inst)) (zs := x1 ++ ([r5] : List api_Inst)) (H' := [(hv 0), (hv 1), (hv 2), none, (hv 4), (some (AObj.cells true (rowC e_api_Inst ([r5] : List api_Inst)))), (hv 6), (some (AObj.cells true (rowC e_api_Inst (x1 ++ ([r5] : List api_Inst)))))]) F.u_22 F.in_28 rfl e_api_Inst_len (.own rfl rfl) (.own rfl rfl) F.u_22 (by omega) (by omega) rfl rfl ?_
      refine AWops.weak (st' := ⟨47, (upd 47 (upd 47 (upd 47 fr 25 (D.one (C.own 5 0 (([r5] : List api_Inst).length) 6))) 22 (D.one (C.own 3 0 x1.length 6))) 26 (D.one (C.own 6 0 ((x1 ++ ([r5] : List api_Inst)).length) 6))), [(hv 0), (hv 1), (hv 2), none, (hv 4), (some (AObj.cells true (rowC e_api_Inst ([r5] : List api_Inst)))), (some (AObj.cells true (rowC e_api_Inst (x1 ++ ([r5] : List api_Inst)))))]⟩) (wg 0 [0, 1, 2, 3, 4, 5, 7] [] hx (le_upd2 (le_ok (p := 6) (L := 7) rfl (htk 6 rfl).1) (o1 (.own rfl))) (ac (oq 6 7 (htk 6 rfl) 0) (ac (oq 6 7 (htk 6 rfl) 1) (ac (oq 6 7 (htk 6 rfl) 2) (ac (.none _) (ac (oq 6 7 (htk 6 rfl) 4) (ac (.cells (fun _ => rfl) (all2_row _)) (ac (.cells (fun _ => rfl) (all2_row _)) an)))))))) k
     ·intro K rest fr hv htk k
      show AWops _ x _ _ K ⟨47, (upd 47 fr 1 (rf 0 0)), [(hv 0), (hv 1), (hv 2), (hv 3), (hv 4), (hv 5), (hv 6)]⟩
      refine s_fieldRef F.fo_25_2 (by decide) rfl k
     ·intro K rest fr hv htk k
      show AWops _ x _ _ K ⟨47, (upd 47 (upd 47 fr 27 (rf 0 2)) 26 (D.one (C.own 6 0 ((x1 ++ ([r5] : List api_Inst)).length) 6))), [(o_api_Case_23 true (C.own 3 0 x1.length 6) (C.p true (.v (.slice none 0 0))) a0), (hv 1), (hv 2), (hv 3), (hv 4), (hv 5), (hv 6)]⟩
      refine s_store (cs' := [(ci a0.ID), (ct a0.Model), (C.own 6 0 ((x1 ++ ([r5] : List api_Inst)).length) 6), (C.p true (.v (.slice none 0 0))), (ci a0.Clock)]) rfl rfl rfl (List.cons_ne_nil _ _) rfl F.sz_22 (nl rfl) rfl k
    ·refine AWops.weak (st' := ⟨47, (upd 47 (upd 47 (upd 47 (upd 47 (upd 47 (upd 47 topF 1 (rf 0 0)) 2 (rf 1 0)) 4 (D.one (C.p false (.sl a0.Docs.length (a0.Docs.flatMap e_api_Doc))))) 15 (D.one (C.p false (.sl a0.Insts.length (a0.Insts.flatMap e_api_Inst))))) 16 (si (a0.Insts.length : Int))) 17 (si x2)), [(o_api_Case_23 true (C.own 2 0 ((x1 ++ ([r5] : List api_Inst)).length) 6) (C.p true (.v (.slice none 0 0))) a0), (some (AObj.cells true [(ci 0), (ct (⟨#[]⟩ : ByteArray)), (C.p true (.v (.slice none 0 0))), (C.p true (.v (.slice none 0 0))), (ci 0)])), (some (AObj.cells true (rowC e_api_Inst (x1 ++ ([r5] : List api_Inst)))))]⟩) (wg 0 [0, 1, 6] [] hx (le_upd (le_upd (le_upd (le_upd (le_upd (le_upd (le_top _) (o1 (.ref rfl))) (o1 (.ref rfl))) (o1 .same)) (o1 .same)) (o1 .sc)) (o1 .sc)) (ac (.cells (fun _ => rfl) (ac .sc (ac .sc (ac (.own rfl) (ac .sc (ac .sc an)))))) (ac (.cells (fun _ => rfl) (ac .sc (ac .sc (ac .sc (ac .sc (ac .sc an)))))) (ac (.cells (fun _ => rfl) (all2_row _)) an)))) (AWops.nil (AW.region ?_))
     refine s_binI (v := (.int .i64 (IntKind.i64.wrap (x2 + 1)))) rfl rfl rfl (s_move (d := (si (IntKind.i64.wrap (x2 + 1)))) rfl (AWops.nil ?_))
     exact ⟨_, ⟨47, (upd 47 (upd 47 (upd 47 (upd 47 (upd 47 (upd 47 topF 1 (rf 0 0)) 2 (rf 1 0)) 4 (D.one (C.p false (.sl a0.Docs.length (a0.Docs.flatMap e_api_Doc))))) 15 (D.one (C.p false (.sl a0.Insts.length (a0.Insts.flatMap e_api_Inst))))) 16 (si (a0.Insts.length : Int))) 17 (si (IntKind.i64.wrap (x2 + 1)))), [(o_api_Case_23 true (C.own 2 0 (x1 ++ ([r5] : List api_Inst)).length 6) (C.p true (.v (.slice none 0 0))) a0), (some (AObj.cells true [(ci 0), (ct (⟨#[]⟩ : ByteArray)), (C.p true (.v (.slice none 0 0))), (C.p true (.v (.slice none 0 0))), (ci 0)])), (some (AObj.cells true (rowC e_api_Inst (x1 ++ ([r5] : List api_Inst)))))]⟩, by omega, (wg 0 [0, 1, 2] [] hx (le_upd (le_upd (le_upd (le_upd (le_upd (le_upd (le_top _) (o1 (.ref rfl))) (o1 (.ref rfl))) (o1 .same)) (o1 .same)) (o1 .sc)) (o1 .sc)) (ac (.cells (fun _ => rfl) (ac .sc (ac .sc (ac (.own rfl) (ac .sc (ac .sc an)))))) (ac (.cells (fun _ => rfl) (ac .sc (ac .sc (ac .sc (ac .sc (ac .sc an)))))) (ac (.cells (fun _ => rfl) (all2_row _)) an)))), by omega, x1 ++ ([r5] : List api_Inst), IntKind.i64.wrap (x2 + 1), h, rfl⟩
   ·refine AW.cond_no rfl c3 (AW.exit (AW.seq (AW.seq (AW.region ?_))))
    refine s_move (d := (D.one (C.p false (.sl a0.Docs.length (a0.Docs.flatMap e_api_Doc))))) rfl (s_len (n := a0.Docs.length) F.u_23 rfl (.inr ⟨(fun _ _ h => by cases h), ⟨_, rfl⟩⟩) (s_move (d := (si 0)) rfl (AWops.nil (AW.block ?_))))
    refine AW.loopw (st0 := ⟨47, (upd 47 (upd 47 (upd 47 (upd 47 (upd 47 topF 1 (rf 0 0)) 2 (rf 1 0)) 29 (D.one (C.p false (.sl a0.Docs.length (a0.Docs.flatMap e_api_Doc))))) 30 (si (a0.Docs.length : Int))) 31 (si 0)), [(o_api_Case_23 true (C.own 2 0 x1.length 6) (C.own 3 0 ([] : List api_Doc).length 6) a0), (some (AObj.cells true [(ci 0), (ct (⟨#[]⟩ : ByteArray)), (C.p true (.v (.slice none 0 0))), (C.p true (.v (.slice none 0 0))), (ci 0)])), (ow_ e_api_Inst x1), (some (AObj.cells true (rowC e_api_Doc ([] : List api_Doc))))]⟩) (fun kv st => kv ≤ ql0 ∧ ∃ (x7 : List api_Doc) (x8 : Int), tree_Copy.l1 kv x7 x8 a0 x1 = some r ∧ st = ⟨47, (upd 47 (upd 47 (upd 47 (upd 47 (upd 47 topF 1 (rf 0 0)) 2 (rf 1 0)) 29 (D.one (C.p false (.sl a0.Docs.length (a0.Docs.flatMap e_api_Doc))))) 30 (si (a0.Docs.length : Int))) 31 (si x8)), [(o_api_Case_23 true (C.own 2 0 x1.length 6) (C.own 3 0 x7.length 6) a0), (some (AObj.cells true [(ci 0), (ct (⟨#[]⟩ : ByteArray)), (C.p true (.v (.slice none 0 0))), (C.p true (.v (.slice none 0 0))), (ci 0)])), (ow_ e_api_Inst x1), (ow_ e_api_Doc x7)]⟩) (k := ql0) (Weak.trans (Weak.nilC (t := 0) (j := 3) (sz := 6) rfl rfl rfl) (wg 0 [0, 1, 2, 3] [] hx (le_upd (le_upd (le_upd (le_upd (le_upd (le_top _) (o1 (.ref rfl))) (o1 (.ref rfl))) (o1 .same)) (o1 .sc)) (o1 .sc)) (ac (.cells (fun _ => rfl) (ac .sc (ac .sc (ac (.own rfl) (ac (.own rfl) (ac .sc an)))))) (ac (.cells (fun _ => rfl) (ac .sc (ac .sc (ac .sc (ac .sc (ac .sc an)))))) (ac (.cells (fun _ => rfl) (all2_row _)) (ac (.cells (fun _ => rfl) an) an)))))) ⟨Nat.le_refl _, ([] : List api_Doc), 0, h, rfl⟩ ?_
    rintro ql1 st ⟨hkl1, x7, x8, h, rfl⟩
    cases ql1 with
    | zero => exact absurd h (by simp [tree_Copy.l1])
    | succ ql1 =>
     replace h := (tree_Copy.l1.eq_2 _ _ _ _ _).symm.trans h
     refine AW.seq (AW.region ?_)
     refine s_binI (v := (.bool (decide (x8 < (a0.Docs.length : Int))))) rfl rfl rfl (AWops.nil (AW.seq ?_))
     rcases itH h with ⟨c9, h⟩ | ⟨c9, h⟩
     ·refine AW.cond_yes rfl c9 (AW.skip (AW.seq (AW.block (AW.seq (AW.region ?_)))))
      obtain ⟨v10, ev10, h⟩ := bnd h
      obtain ⟨pv10, qv10, gv10⟩ := rd_some ev10
      refine s_indexImm (ps := (p_api_Doc v10)) F.u_23 F.sz_39 rfl rfl pv10 qv10 (flat_at e_api_Doc_len gv10 (e_api_Doc_eq v10)) (s_loadN (ds := (c_api_Doc v10)) F.ag_39 F.sz_39 rfl rfl rfl (s_alloc (cs := [(ct (⟨#[]⟩ : ByteArray)), (ci 0), (ci 0), (cb false), (ct (⟨#[]⟩ : ByteArray)), (C.p true (.v (.slice none 0 0)))]) F.z_39 rfl rfl (s_store (cs' := (c_api_Doc v10)) rfl rfl rfl (List.cons_ne_nil _ _) rfl F.sz_39 (nl rfl) rfl (AWops.nil (AW.seq (AW.region (s_fieldRef F.fo_39_2 (by decide) rfl (s_load1 (c' := (C.p false (.sl v10.Refs.length (v10.Refs.flatMap e_str)))) F.ag_37 rfl rfl ?_))))))))
      obtain ⟨r11, er11, h⟩ := bnd h
      refine cc [] [(o_api_Case_23 true (C.own 2 0 x1.length 6) (C.own 3 0 x7.length 6) a0), (some (AObj.cells true [(ci 0), (ct (⟨#[]⟩ : ByteArray)), (C.p true (.v (.slice none 0 0))), (C.p true (.v (.slice none 0 0))), (ci 0)])), (ow_ e_api_Inst x1), (ow_ e_api_Doc x7), (some (AObj.cells true (c_api_Doc v10))), (ow_ e_str r11)] (D.one (C.own 5 0 r11.length 1)) F.ca_26 rfl rfl (ac (.one .imm) an) an (slices_Clone_string_string.meets _ v10.Refs r11 er11) (s_fieldRef F.fo_39_2 (by decide) rfl (s_store (cs' := [(ct v10.Path), (ci v10.Value.Kind), (ci v10.Value.Int), (cb v10.Value.Bool), (ct v10.Value.Text), (C.own 5 0 r11.length 1)]) rfl rfl rfl (List.cons_ne_nil _ _) rfl F.sz_37 (nl rfl) rfl (AWops.nil (AW.region (s_fieldRef F.fo_25_3 (by decide) rfl (s_load1 (c' := (C.own 3 0 x7.length 6)) F.ag_23 rfl rfl (s_loadN (ds := [(ct v10.Path), (ci v10.Value.Kind), (ci v10.Value.Int), (cb v10.Value.Bool), (ct v10.Value.Text), (C.own 5 0 r11.length 1)]) F.ag_39 F.sz_39 rfl rfl rfl ?_)))))))
      refine AWops.weak (st' := ⟨47, (upd 47 (upd 47 (upd 47 (upd 47 (upd 47 (upd 47 (upd 47 (upd 47 (upd 47 (upd 47 (upd 47 (upd 47 (upd 47 (upd 47 (upd 47 (upd 47 topF 1 (rf 0 0)) 2 (rf 1 0)) 8 (rf 2 0)) 29 (D.one (C.p false (.sl a0.Docs.length (a0.Docs.flatMap e_api_Doc))))) 30 (si (a0.Docs.length : Int))) 31 (si x8)) 32 (sb (decide (x8 < (a0.Docs.length : Int))))) 33 (D.one (C.peek false (p_api_Doc v10)))) 34 (D.agg (c_api_Doc v10))) 35 (rf 2 5)) 36 (D.one (C.p false (.sl v10.Refs.length (v10.Refs.flatMap e_str))))) 37 (D.one (C.p false (.sl r11.length (r11.flatMap e_str))))) 38 (rf 2 5)) 39 (rf 0 3)) 40 (D.one (C.own 3 0 x7.length 6))) 41 (D.agg [(ct v10.Path), (ci v10.Value.Kind), (ci v10.Value.Int), (cb v10.Value.Bool), (ct v10.Value.Text), (C.p false (.sl r11.length (r11.flatMap e_str)))])), [(o_api_Case_23 true (C.own 4 0 x1.length 6) (C.own 3 0 x7.length 6) a0), (some (AObj.cells true [(ci 0), (ct (⟨#[]⟩ : ByteArray)), (C.p true (.v (.slice none 0 0))), (C.p true (.v (.slice none 0 0))), (ci 0)])), (some (AObj.cells true [(ct v10.Path), (ci v10.Value.Kind), (ci v10.Value.Int), (cb v10.Value.Bool), (ct v10.Value.Text), (C.p false (.sl r11.length (r11.flatMap e_str)))])), (ow_ e_api_Doc x7), (ow_ e_api_Inst x1)]⟩) (wg 0 [0, 1, 4, 3, 2] [5] hx (le_upd (le_upd (le_upd (le_upd (le_upd (le_upd (le_upd (le_upd (le_upd (le_upd (le_upd (le_upd (le_upd (le_upd (le_upd (le_upd (le_top _) (o1 (.ref rfl))) (o1 (.ref rfl))) (o1 (.ref rfl))) (o1 .same)) (o1 .sc)) (o1 .sc)) (o1 .sc)) (o1 .peek)) (.t (.agg (ac .sc (ac .sc (ac .sc (ac .sc (ac .sc (ac .same an))))))))) (o1 (.ref rfl))) (o1 .same)) (o1 (CLe.frz e_str_len rfl rfl rfl))) (o1 (.ref rfl))) (o1 (.ref rfl))) (o1 (.own rfl))) (.t (.agg (ac .sc (ac .sc (ac .sc (ac .sc (ac .sc (ac (CLe.frz e_str_len rfl rfl rfl) an))))))))) (ac (.cells (fun _ => rfl) (ac .sc (ac .sc (ac (.own rfl) (ac (.own rfl) (ac .sc an)))))) (ac (.cells (fun _ => rfl) (ac .sc (ac .sc (ac .sc (ac .sc (ac .sc an)))))) (ac (.cells (fun _ => rfl) (ac .sc (ac .sc (ac .sc (ac .sc (ac .sc (ac (CLe.frz e_str_len rfl rfl rfl) an))))))) (ac (.cells (fun _ => rfl) (all2_row _)) (ac (.cells (fun _ => rfl) (all2_row _)) an)))))) ?_
      refine s_buildSlice (n := 1) (ps := [(0, (D.agg [(ct v10.Path), (ci v10.Value.Kind), (ci v10.Value.Int), (cb v10.Value.Bool), (ct v10.Value.Text), (C.p false (.sl r11.length (r11.flatMap e_str)))]))]) (cs := rowC e_api_Doc ([(⟨v10.Path, v10.Value, r11⟩ : api_Doc)] : List api_Doc)) F.u_23 F.sz_39 F.z_39 rfl rfl (by decide) (by decide) rfl rfl ?_
      obtain ⟨c12, h⟩ := gdH h
      have dc12 := of_decide_eq_true c12
      refine t_append (xs := x7) (ys := ([(⟨v10.Path, v10.Value, r11⟩ : api_Doc)] : List api_Doc)) (zs := x7 ++ ([(⟨v10.Path, v10.Value, r11⟩ : api_Doc)] : List api_Doc)) (H' := [(o_api_Case_23 true (C.own 4 0 x1.length 6) (C.own 3 0 x7.length 6) a0), (some (AObj.cells true [(ci 0), (ct (⟨#[]⟩ : ByteArray)), (C.p true (.v (.slice none 0 0))), (C.p true (.v (.slice none 0 0))), (ci 0)])), (some (AObj.cells true [(ct v10.Path), (ci v10.Value.Kind), (ci v10.Value.Int), (cb v10.Value.Bool), (ct v10.Value.Text), (C.p false (.sl r11.length (r11.flatMap e_str)))])), none, (ow_ e_api_Inst x1), (some (AObj.cells true (rowC e_api_Doc ([(⟨v10.Path, v10.Value, r11⟩ : api_Doc)] : List api_Doc)))), (some (AObj.cells true (rowC e_api_Doc (x7 ++ ([(⟨v10.Path, v10.Value, r11⟩ : api_Doc)] : List api_Doc)))))]) F.u_23 F.in_39 rfl e_api_Doc_len (.own rfl rfl) (.own rfl rfl) F.u_23 (by omega) (by omega) rfl rfl (s_fieldRef F.fo_25_3 (by decide) rfl (s_store (cs' := [(ci a0.ID), (ct a0.Model), (C.own 4 0 x1.length 6), (C.own 6 0 ((x7 ++ ([(⟨v10.Path, v10.Value, r11⟩ : api_Doc)] : List api_Doc)).length) 6), (ci a0.Clock)]) rfl rfl rfl (List.cons_ne_nil _ _) rfl F.sz_23 (nl rfl) rfl (AWops.nil (AW.region (s_binI (v := (.int .i64 (IntKind.i64.wrap (x8 + 1)))) rfl rfl rfl (s_move (d := (si (IntKind.i64.wrap (x8 + 1)))) rfl (AWops.nil ?_)))))))
      exact ⟨_, ⟨47, (upd 47 (upd 47 (upd 47 (upd 47 (upd 47 topF 1 (rf 0 0)) 2 (rf 1 0)) 29 (D.one (C.p false (.sl a0.Docs.length (a0.Docs.flatMap e_api_Doc))))) 30 (si (a0.Docs.length : Int))) 31 (si (IntKind.i64.wrap (x8 + 1)))), [(o_api_Case_23 true (C.own 2 0 x1.length 6) (C.own 3 0 (x7 ++ ([(⟨v10.Path, v10.Value, r11⟩ : api_Doc)] : List api_Doc)).length 6) a0), (some (AObj.cells true [(ci 0), (ct (⟨#[]⟩ : ByteArray)), (C.p true (.v (.slice none 0 0))), (C.p true (.v (.slice none 0 0))), (ci 0)])), (ow_ e_api_Inst x1), (some (AObj.cells true (rowC e_api_Doc (x7 ++ ([(⟨v10.Path, v10.Value, r11⟩ : api_Doc)] : List api_Doc)))))]⟩, by omega, (wg 0 [0, 1, 4, 6] [] hx (le_upd (le_upd (le_upd (le_upd (le_upd (le_top _) (o1 (.ref rfl))) (o1 (.ref rfl))) (o1 .same)) (o1 .sc)) (o1 .sc)) (ac (.cells (fun _ => rfl) (ac .sc (ac .sc (ac (.own rfl) (ac (.own rfl) (ac .sc an)))))) (ac (.cells (fun _ => rfl) (ac .sc (ac .sc (ac .sc (ac .sc (ac .sc an)))))) (ac (.cells (fun _ => rfl) (all2_row _)) (ac (.cells (fun _ => rfl) (all2_row _)) an))))), by omega, x7 ++ ([(⟨v10.Path, v10.Value, r11⟩ : api_Doc)] : List api_Doc), IntKind.i64.wrap (x8 + 1), h, rfl⟩
     ·refine AW.cond_no rfl c9 (AW.exit (AW.seq (AW.region ?_)))
      refine s_loadN (ds := [(ci a0.ID), (ct a0.Model), (C.own 2 0 x1.length 6), (C.own 3 0 x7.length 6), (ci a0.Clock)]) F.ag_25 F.sz_25 rfl rfl rfl (s_store (cs' := [(ci a0.ID), (ct a0.Model), (C.own 2 0 x1.length 6), (C.own 3 0 x7.length 6), (ci a0.Clock)]) rfl rfl rfl (List.cons_ne_nil _ _) rfl F.sz_25 (nl rfl) rfl (AWops.nil (AW.ret ?_)))
      obtain rfl := Option.some.inj h
      exact ⟨_, rfl, (wg 0 [2] [3] rfl (le_upd (le_top _) (.t (.agg (ac .sc (ac .sc (ac (.own rfl) (ac (CLe.frz e_api_Doc_len rfl rfl rfl) (ac .sc an)))))))) (ac (.cells (fun _ => rfl) (all2_row _)) an))⟩
def tree_index_1.f (k : Nat) (a0 : api_Inst) (p0 : ByteArray) : Option Bool := some (a0.Path.toList == p0.toList)
theorem tree_index_1.meets (k : Nat) (a0 : api_Inst) (p0 : ByteArray) (r : Bool) (h : tree_index_1.f k a0 p0 = some r) : Meets Tryd.prog 28 [(D.agg (c_api_Inst a0)), (rf 0 0)] [(some (AObj.cells false [(ct p0)]))] (sb r) [(some (AObj.cells false [(ct p0)]))] := by
 unfold tree_index_1.f at h
 refine Meets.of_body (n := 8) Tryd.func28 rfl rfl (nl rfl) fun x hx => ?_
 replace hx : x.k = 1 := hx
 show AW _ x _ _ ⟨8, fr0 [(D.agg (c_api_Inst a0)), (rf 0 0)], [(some (AObj.cells false [(ct p0)]))]⟩
 refine AW.seq (AW.region ?_)
 refine s_box (cs := (c_api_Inst a0)) rfl (List.cons_ne_nil _ _) rfl (s_assign (d := (sb false)) rfl (AWops.nil (AW.seq (AW.region (s_fieldRef F.fo_28_0 (by decide) rfl (s_load1 (c' := (ct a0.Path)) F.ag_9 rfl rfl (s_load1 (c' := (ct p0)) F.ag_9 rfl rfl (s_binS (v := (.bool (a0.Path.toList == p0.toList))) rfl rfl rfl ?_))))))))
 refine s_assign (d := (sb (a0.Path.toList == p0.toList))) rfl (AWops.nil (AW.ret ?_))
 obtain rfl := Option.some.inj h
 exact ⟨_, rfl, (wg 1 [0] [] rfl (le_upd (le_top _) (o1 .sc)) (ac (.cells id (ac .sc an)) an))⟩
mutual
def slices_IndexFunc_api_Inst_api_Inst.l0 : Nat → Int → (List api_Inst) → ByteArray → Option Int
 | 0, _, _, _ => none
 | k + 1, x1, a0, p0 => if (decide (x1 < (a0.length : Int))) = true then ((rd a0 x1).bind fun v3 => (tree_index_1.f k v3 p0).bind fun r4 => if r4 = true then (some x1) else (slices_IndexFunc_api_Inst_api_Inst.l0 k (IntKind.i64.wrap (x1 + 1)) a0 p0)) else (some (-1))
end
def slices_IndexFunc_api_Inst_api_Inst.f (k : Nat) (a0 : List api_Inst) (p0 : ByteArray) : Option Int := slices_IndexFunc_api_Inst_api_Inst.l0 k 0 a0 p0
theorem slices_IndexFunc_api_Inst_api_Inst.meets (k : Nat) (a0 : List api_Inst) (p0 : ByteArray) (r : Int) (h : slices_IndexFunc_api_Inst_api_Inst.f k a0 p0 = some r) : Meets Tryd.prog 17 [(D.one (C.p false (.sl a0.length (a0.flatMap e_api_Inst)))), (D.one (C.clo 28 [(C.ref 0 0)]))] [(some (AObj.cells false [(ct p0)]))] (si r) [(some (AObj.cells false [(ct p0)]))] := by
 unfold slices_IndexFunc_api_Inst_api_Inst.f at h
 refine Meets.of_body (n := 19) Tryd.func17 rfl rfl (nl rfl) fun x hx => ?_
 replace hx : x.k = 1 := hx
 show AW _ x _ _ ⟨19, fr0 [(D.one (C.p false (.sl a0.length (a0.flatMap e_api_Inst)))), (D.one (C.clo 28 [(C.ref 0 0)]))], [(some (AObj.cells false [(ct p0)]))]⟩
 refine AW.seq (AW.region ?_)
 refine s_assign (d := (si 0)) rfl (AWops.nil (AW.seq (AW.seq (AW.region ?_))))
 refine s_move (d := (D.one (C.p false (.sl a0.length (a0.flatMap e_api_Inst))))) rfl (s_len (n := a0.length) F.u_22 rfl (.inr ⟨(fun _ _ h => by cases h), ⟨_, rfl⟩⟩) (s_move (d := (si 0)) rfl (AWops.nil (AW.block ?_))))
 refine AW.loopw (st0 := ⟨19, (upd 19 (upd 19 (upd 19 (upd 19 topF 0 (D.one (C.p false (.sl a0.length (a0.flatMap e_api_Inst))))) 1 (D.one (C.clo 28 [(C.ref 0 0)]))) 7 (si (a0.length : Int))) 8 (si 0)), [(some (AObj.cells false [(ct p0)]))]⟩) (fun kv st => kv ≤ k ∧ ∃ (x1 : Int), slices_IndexFunc_api_Inst_api_Inst.l0 kv x1 a0 p0 = some r ∧ st = ⟨19, (upd 19 (upd 19 (upd 19 (upd 19 topF 0 (D.one (C.p false (.sl a0.length (a0.flatMap e_api_Inst))))) 1 (D.one (C.clo 28 [(C.ref 0 0)]))) 7 (si (a0.length : Int))) 8 (si x1)), [(some (AObj.cells false [(ct p0)]))]⟩) (k := k) (wg 1 [0] [] hx (le_upd (le_upd (le_upd (le_upd (le_top _) (o1 .same)) (o1 (CLe.cloL (ac (.ref rfl) an)))) (o1 .sc)) (o1 .sc)) (ac (.cells id (ac .sc an)) an)) ⟨Nat.le_refl _, 0, h, rfl⟩ ?_
 rintro ql0 st ⟨hkl0, x1, h, rfl⟩
 cases ql0 with
 | zero => exact absurd h (by simp [slices_IndexFunc_api_Inst_api_Inst.l0])
 | succ ql0 =>
  replace h := (slices_IndexFunc_api_Inst_api_Inst.l0.eq_2 _ _ _ _).symm.trans h
  refine AW.seq (AW.region ?_)
  refine s_binI (v := (.bool (decide (x1 < (a0.length : Int))))) rfl rfl rfl (AWops.nil (AW.seq ?_))
  rcases itH h with ⟨c2, h⟩ | ⟨c2, h⟩
  ·refine AW.cond_yes rfl c2 (AW.skip (AW.seq (AW.block (AW.seq (AW.region ?_)))))
   refine s_move (d := (si x1)) rfl (s_assign (d := (si x1)) rfl (AWops.nil (AW.seq (AW.region (s_move (d := (D.one (C.clo 28 [(C.ref 0 0)]))) rfl (s_move (d := (D.one (C.p false (.sl a0.length (a0.flatMap e_api_Inst))))) rfl (s_move (d := (si x1)) rfl ?_)))))))
   obtain ⟨v3, ev3, h⟩ := bnd h
   obtain ⟨pv3, qv3, gv3⟩ := rd_some ev3
   refine s_indexImm (ps := (p_api_Inst v3)) F.u_22 F.sz_28 rfl rfl pv3 qv3 (flat_at e_api_Inst_len gv3 (e_api_Inst_eq v3)) (s_loadN (ds := (c_api_Inst v3)) F.ag_28 F.sz_28 rfl rfl rfl ?_)
   obtain ⟨r4, er4, h⟩ := bnd h
   refine cc [0] [(some (AObj.cells false [(ct p0)]))] (sb r4) F.ca_28 rfl rfl (ac (LendT.aggL (ac .sc (ac .sc (ac .sc (ac .sc (ac .imm (ac .sc an))))))) (ac (.one (.ref rfl)) an)) (ac (.cells (ac .sc an)) an) (tree_index_1.meets _ v3 p0 r4 er4) (AWops.nil ?_)
   rcases itH h with ⟨c5, h⟩ | ⟨c5, h⟩
   ·refine AW.cond_yes rfl c5 (AW.seq (AW.region ?_))
    refine s_move (d := (si x1)) rfl (s_assign (d := (si x1)) rfl (AWops.nil (AW.ret ?_)))
    obtain rfl := Option.some.inj h
    exact ⟨_, rfl, (wg 1 [0] [] rfl (le_upd (le_top _) (o1 .sc)) (ac (.cells id (ac .sc an)) an))⟩
   ·refine AW.cond_no rfl c5 (AW.skip (AW.region ?_))
    refine s_binI (v := (.int .i64 (IntKind.i64.wrap (x1 + 1)))) rfl rfl rfl (s_move (d := (si (IntKind.i64.wrap (x1 + 1)))) rfl (AWops.nil ?_))
    exact ⟨_, ⟨19, (upd 19 (upd 19 (upd 19 (upd 19 topF 0 (D.one (C.p false (.sl a0.length (a0.flatMap e_api_Inst))))) 1 (D.one (C.clo 28 [(C.ref 0 0)]))) 7 (si (a0.length : Int))) 8 (si (IntKind.i64.wrap (x1 + 1)))), [(some (AObj.cells false [(ct p0)]))]⟩, by omega, (wg 1 [0] [] hx (le_upd (le_upd (le_upd (le_upd (le_top _) (o1 .same)) (o1 (CLe.cloL (ac (.ref rfl) an)))) (o1 .sc)) (o1 .sc)) (ac (.cells id (ac .sc an)) an)), by omega, IntKind.i64.wrap (x1 + 1), h, rfl⟩
  ·refine AW.cond_no rfl c2 (AW.exit (AW.seq (AW.region ?_)))
   refine s_assign (d := (si (-1))) rfl (AWops.nil (AW.ret ?_))
   obtain rfl := Option.some.inj h
   exact ⟨_, rfl, (wg 1 [0] [] rfl (le_upd (le_top _) (o1 .sc)) (ac (.cells id (ac .sc an)) an))⟩
def tree_index.f (k : Nat) (a0 : api_Case) (a1 : ByteArray) : Option Int := (slices_IndexFunc_api_Inst_api_Inst.f k a0.Insts a1).bind fun r1 => some r1
theorem tree_index.meets (k : Nat) (a0 : api_Case) (a1 : ByteArray) (r : Int) (h : tree_index.f k a0 a1 = some r) : Meets Tryd.prog 16 [(D.agg (c_api_Case a0)), (st_ a1)] [] (si r) [] := by
 unfold tree_index.f at h
 refine Meets.of_body (n := 9) Tryd.func16 rfl rfl (nl rfl) fun x hx => ?_
 replace hx : x.k = 0 := hx
 show AW _ x _ _ ⟨9, fr0 [(D.agg (c_api_Case a0)), (st_ a1)], []⟩
 refine AW.seq (AW.region ?_)
 refine s_box (cs := (c_api_Case a0)) rfl (List.cons_ne_nil _ _) rfl (s_box (cs := [(ct a1)]) rfl (List.cons_ne_nil _ _) rfl (s_assign (d := (si 0)) rfl (AWops.nil (AW.seq (AW.region (s_fieldRef F.fo_25_2 (by decide) rfl (s_load1 (c' := (C.p false (.sl a0.Insts.length (a0.Insts.flatMap e_api_Inst)))) F.ag_22 rfl rfl (s_func (cs := [(C.ref 1 0)]) rfl ?_))))))))
 obtain ⟨r1, er1, h⟩ := bnd h
 refine cc [1] [(some (AObj.cells true (c_api_Case a0))), (some (AObj.cells true [(ct a1)]))] (si r1) F.ca_17 rfl rfl (ac (.one .imm) (ac (.one (LendC.cloL (ac (.ref rfl) an))) an)) (ac (.cells (ac .sc an)) an) (slices_IndexFunc_api_Inst_api_Inst.meets _ a0.Insts a1 r1 er1) (s_assign (d := (si r1)) rfl (AWops.nil (AW.ret ?_)))
 obtain rfl := Option.some.inj h
 exact ⟨_, rfl, (wg 0 [] [] rfl (le_upd (le_top _) (o1 .sc)) an)⟩
def strings_Count_51.f (k : Nat) (a0 : ByteArray) : Option Int := some (cntS a0 47 : Int)
theorem strings_Count_51.meets (k : Nat) (a0 : ByteArray) (r : Int) (h : strings_Count_51.f k a0 = some r) : Meets Tryd.prog 51 [(st_ a0), (st_ (⟨#[47]⟩ : ByteArray))] [] (si r) [] := by
 unfold strings_Count_51.f at h
 refine Meets.of_body (n := 34) Tryd.func51 rfl rfl (nl rfl) fun x hx => ?_
 replace hx : x.k = 0 := hx
 show AW _ x _ _ ⟨34, fr0 [(st_ a0), (st_ (⟨#[47]⟩ : ByteArray))], []⟩
 refine AW.seq (AW.region ?_)
 refine s_assign (d := (si 0)) rfl (AWops.nil (AW.seq (AW.seq (AW.region ?_))))
 refine s_move (d := (st_ (⟨#[47]⟩ : ByteArray))) rfl (s_len (n := 1) F.u_9 rfl (.inl ⟨⟨_, _, rfl⟩, rfl⟩) (s_binI (v := (.bool false)) rfl rfl rfl (AWops.nil ?_)))
 refine AW.cond_no rfl rfl (AW.skip (AW.seq (AW.seq (AW.region ?_))))
 refine s_move (d := (st_ (⟨#[47]⟩ : ByteArray))) rfl (s_len (n := 1) F.u_9 rfl (.inl ⟨⟨_, _, rfl⟩, rfl⟩) (s_binI (v := (.bool true)) rfl rfl rfl (AWops.nil ?_)))
 refine AW.cond_yes rfl rfl (AW.seq (AW.region ?_))
 refine s_move (d := (st_ a0)) rfl (s_move (d := (st_ (⟨#[47]⟩ : ByteArray))) rfl (s_indexStr (c := 47) F.u_9 rfl rfl (by decide) rfl (s_ext2 F.ex_58 rfl rfl rfl (run_cnt _ _) (s_assign (d := (si (cntS a0 47 : Int))) rfl (AWops.nil (AW.ret ?_))))))
 obtain rfl := Option.some.inj h
 exact ⟨_, rfl, (wg 0 [] [] rfl (le_upd (le_top _) (o1 .sc)) an)⟩
def stringslite_IndexByte.f (k : Nat) (a0 : ByteArray) (a1 : Int) : Option Int := some (idxS a0 a1)
theorem stringslite_IndexByte.meets (k : Nat) (a0 : ByteArray) (a1 : Int) (r : Int) (h : stringslite_IndexByte.f k a0 a1 = some r) : Meets Tryd.prog 61 [(st_ a0), (sc (.int .u8 a1))] [] (si r) [] := by
 unfold stringslite_IndexByte.f at h
 refine Meets.of_body (n := 8) Tryd.func61 rfl rfl (nl rfl) fun x hx => ?_
 replace hx : x.k = 0 := hx
 show AW _ x _ _ ⟨8, fr0 [(st_ a0), (sc (.int .u8 a1))], []⟩
 refine AW.seq (AW.region ?_)
 refine s_assign (d := (si 0)) rfl (AWops.nil (AW.seq (AW.region ?_)))
 refine s_move (d := (st_ a0)) rfl (s_move (d := (sc (.int .u8 a1))) rfl (s_ext2 F.ex_65 rfl rfl rfl (run_idx _ _) (s_assign (d := (si (idxS a0 a1))) rfl (AWops.nil (AW.ret ?_)))))
 obtain rfl := Option.some.inj h
 exact ⟨_, rfl, (wg 0 [] [] rfl (le_upd (le_top _) (o1 .sc)) an)⟩
def stringslite_Index_59.f (k : Nat) (a0 : ByteArray) : Option Int := if ((⟨#[47]⟩ : ByteArray).toList == a0.toList) = true then (some 0) else ((stringslite_IndexByte.f k a0 47).bind fun r2 => some r2)
theorem stringslite_Index_59.meets (k : Nat) (a0 : ByteArray) (r : Int) (h : stringslite_Index_59.f k a0 = some r) : Meets Tryd.prog 59 [(st_ a0), (st_ (⟨#[47]⟩ : ByteArray))] [] (si r) [] := by
 unfold stringslite_Index_59.f at h
 refine Meets.of_body (n := 143) Tryd.func59 rfl rfl (nl rfl) fun x hx => ?_
 replace hx : x.k = 0 := hx
 show AW _ x _ _ ⟨143, fr0 [(st_ a0), (st_ (⟨#[47]⟩ : ByteArray))], []⟩
 refine AW.seq (AW.region ?_)
 refine s_assign (d := (si 0)) rfl (AWops.nil (AW.seq (AW.region ?_)))
 refine s_move (d := (st_ (⟨#[47]⟩ : ByteArray))) rfl (s_len (n := 1) F.u_9 rfl (.inl ⟨⟨_, _, rfl⟩, rfl⟩) (s_assign (d := (si 1)) rfl (AWops.nil (AW.seq (AW.block (AW.seq (AW.region (s_move (d := (si 1)) rfl (s_binI (v := (.bool false)) rfl rfl rfl (s_move (d := (sb false)) rfl ?_))))))))))
 refine AWops.guard_yes rfl (nl rfl) rfl rfl ?_
 refine s_move (d := (st_ (⟨#[47]⟩ : ByteArray))) rfl ?_
 refine AWops.guard_yes rfl (nl rfl) rfl rfl ?_
 refine s_move (d := (st_ a0)) rfl ?_
 refine AWops.guard_yes rfl (nl rfl) rfl rfl ?_
 refine s_binS (v := (.bool ((⟨#[47]⟩ : ByteArray).toList == a0.toList))) rfl rfl rfl (s_pick_no (d := (sb ((⟨#[47]⟩ : ByteArray).toList == a0.toList))) rfl rfl rfl (s_assign (d := (sb ((⟨#[47]⟩ : ByteArray).toList == a0.toList))) rfl (AWops.nil ?_)))
 rcases itH h with ⟨c1, h⟩ | ⟨c1, h⟩
 ·refine AW.cond_yes rfl c1 (AW.seq (AW.region ?_))
  refine s_assign (d := (si 0)) rfl (AWops.nil (AW.ret ?_))
  obtain rfl := Option.some.inj h
  exact ⟨_, rfl, (wg 0 [] [] rfl (le_upd (le_top _) (o1 .sc)) an)⟩
 ·refine AW.cond_no rfl c1 (AW.seq (AW.region ?_))
  refine s_move (d := (si 1)) rfl (s_binI (v := (.bool true)) rfl rfl rfl (s_assign (d := (sb true)) rfl (AWops.nil ?_)))
  refine AW.cond_yes rfl rfl (AW.seq (AW.region ?_))
  refine s_move (d := (st_ a0)) rfl (s_move (d := (st_ (⟨#[47]⟩ : ByteArray))) rfl (s_indexStr (c := 47) F.u_9 rfl rfl (by decide) rfl ?_))
  obtain ⟨r2, er2, h⟩ := bnd h
  refine cc [] [] (si r2) F.ca_61 rfl rfl (ac (.one .sc) (ac (.one .sc) an)) an (stringslite_IndexByte.meets _ a0 47 r2 er2) (s_assign (d := (si r2)) rfl (AWops.nil (AW.ret ?_)))
  obtain rfl := Option.some.inj h
  exact ⟨_, rfl, (wg 0 [] [] rfl (le_upd (le_top _) (o1 .sc)) an)⟩
def strings_Index_52.f (k : Nat) (a0 : ByteArray) : Option Int := (stringslite_Index_59.f k a0).bind fun r1 => some r1
theorem strings_Index_52.meets (k : Nat) (a0 : ByteArray) (r : Int) (h : strings_Index_52.f k a0 = some r) : Meets Tryd.prog 52 [(st_ a0), (st_ (⟨#[47]⟩ : ByteArray))] [] (si r) [] := by
 unfold strings_Index_52.f at h
 refine Meets.of_body (n := 8) Tryd.func52 rfl rfl (nl rfl) fun x hx => ?_
 replace hx : x.k = 0 := hx
 show AW _ x _ _ ⟨8, fr0 [(st_ a0), (st_ (⟨#[47]⟩ : ByteArray))], []⟩
 refine AW.seq (AW.region ?_)
 refine s_assign (d := (si 0)) rfl (AWops.nil (AW.seq (AW.region ?_)))
 refine s_move (d := (st_ a0)) rfl (s_move (d := (st_ (⟨#[47]⟩ : ByteArray))) rfl ?_)
 obtain ⟨r1, er1, h⟩ := bnd h
 refine cc [] [] (si r1) F.ca_59 rfl rfl (ac (.one .sc) (ac (.one .sc) an)) an (stringslite_Index_59.meets _ a0 r1 er1) (s_assign (d := (si r1)) rfl (AWops.nil (AW.ret ?_)))
 obtain rfl := Option.some.inj h
 exact ⟨_, rfl, (wg 0 [] [] rfl (le_upd (le_top _) (o1 .sc)) an)⟩
mutual
def strings_genSplit_43x.l0 : Nat → (List ByteArray) → ByteArray → Int → ByteArray → Int → Option (List ByteArray)
 | 0, _, _, _, _, _ => none
 | k + 1, x4, x5, x6, a0, r2 => if (decide (x6 < (IntKind.i64.wrap ((if (IntKind.i64.wrap ((a0.size : Int) + 1)) < (IntKind.i64.wrap (r2 + 1)) then (IntKind.i64.wrap ((a0.size : Int) + 1)) else (IntKind.i64.wrap (r2 + 1))) - 1)))) = true then ((strings_Index_52.f k x5).bind fun r8 => if (decide (r8 < 0)) = true then ((rd x4 x6).bind fun v10 => if (decide (0 ≤ 0 ∧ 0 ≤ (IntKind.i64.wrap (x6 + 1)) ∧ (IntKind.i64.wrap (x6 + 1)) ≤ ((x4.set x6.toNat x5).length : Int))) = true then (some (sub (x4.set x6.toNat x5) 0 (IntKind.i64.wrap (x6 + 1)))) else none) else (if (decide (0 ≤ 0 ∧ 0 ≤ (IntKind.i64.wrap (r8 + 0)) ∧ (IntKind.i64.wrap (r8 + 0)) ≤ (x5.size : Int))) = true then ((rd x4 x6).bind fun v13 => if (decide (0 ≤ (IntKind.i64.wrap (r8 + 1)) ∧ (IntKind.i64.wrap (r8 + 1)) ≤ (x5.size : Int) ∧ (x5.size : Int) ≤ (x5.size : Int))) = true then (strings_genSplit_43x.l0 k (x4.set x6.toNat (x5.extract 0 (IntKind.i64.wrap (r8 + 0)).toNat)) (x5.extract (IntKind.i64.wrap (r8 + 1)).toNat x5.size) (IntKind.i64.wrap (x6 + 1)) a0 r2) else none) else none)) else ((rd x4 x6).bind fun v15 => if (decide (0 ≤ 0 ∧ 0 ≤ (IntKind.i64.wrap (x6 + 1)) ∧ (IntKind.i64.wrap (x6 + 1)) ≤ ((x4.set x6.toNat x5).length : Int))) = true then (some (sub (x4.set x6.toNat x5) 0 (IntKind.i64.wrap (x6 + 1)))) else none)
end
def strings_genSplit_43x.f (k : Nat) (a0 : ByteArray) : Option (List ByteArray) := (strings_Count_51.f k a0).bind fun r2 => if (decide (0 ≤ (if (IntKind.i64.wrap ((a0.size : Int) + 1)) < (IntKind.i64.wrap (r2 + 1)) then (IntKind.i64.wrap ((a0.size : Int) + 1)) else (IntKind.i64.wrap (r2 + 1))) ∧ (if (IntKind.i64.wrap ((a0.size : Int) + 1)) < (IntKind.i64.wrap (r2 + 1)) then (IntKind.i64.wrap ((a0.size : Int) + 1)) else (IntKind.i64.wrap (r2 + 1))) ≤ 8796093022208)) = true then (strings_genSplit_43x.l0 k (List.replicate (if (IntKind.i64.wrap ((a0.size : Int) + 1)) < (IntKind.i64.wrap (r2 + 1)) then (IntKind.i64.wrap ((a0.size : Int) + 1)) else (IntKind.i64.wrap (r2 + 1))).toNat ((⟨#[]⟩ : ByteArray) : ByteArray)) a0 0 a0 r2) else none
theorem strings_genSplit_43x.meets (k : Nat) (a0 : ByteArray) (r : (List ByteArray)) (h : strings_genSplit_43x.f k a0 = some r) : Meets Tryd.prog 43 [(st_ a0), (st_ (⟨#[47]⟩ : ByteArray)), (si 0), (si (-1))] [] (D.one (C.p false (.sl r.length (r.flatMap e_str)))) [] := by
 unfold strings_genSplit_43x.f at h
 refine Meets.of_body (n := 66) Tryd.func43 rfl rfl (nl rfl) fun x hx => ?_
 replace hx : x.k = 0 := hx
 show AW _ x _ _ ⟨66, fr0 [(st_ a0), (st_ (⟨#[47]⟩ : ByteArray)), (si 0), (si (-1))], []⟩
 refine AW.seq (AW.region ?_)
 refine s_assign (d := (sc (.slice none 0 0))) rfl (AWops.nil (AW.seq (AW.seq (AW.region ?_))))
 refine s_move (d := (si (-1))) rfl (s_binI (v := (.bool false)) rfl rfl rfl (AWops.nil ?_))
 refine AW.cond_no rfl rfl (AW.skip (AW.seq (AW.seq (AW.region ?_))))
 refine s_move (d := (st_ (⟨#[47]⟩ : ByteArray))) rfl (s_binS (v := (.bool false)) rfl rfl (lit_eq (by decide)) (AWops.nil ?_))
 refine AW.cond_no rfl rfl (AW.skip (AW.seq (AW.seq (AW.region ?_))))
 refine s_move (d := (si (-1))) rfl (s_binI (v := (.bool true)) rfl rfl rfl (AWops.nil ?_))
 refine AW.cond_yes rfl rfl (AW.region ?_)
 refine s_move (d := (st_ a0)) rfl (s_move (d := (st_ (⟨#[47]⟩ : ByteArray))) rfl ?_)
 obtain ⟨r2, er2, h⟩ := bnd h
 refine cc [] [] (si r2) F.ca_51 rfl rfl (ac (.one .sc) (ac (.one .sc) an)) an (strings_Count_51.meets _ a0 r2 er2) (s_binI (v := (.int .i64 (IntKind.i64.wrap (r2 + 1)))) rfl rfl rfl (s_assign (d := (si (IntKind.i64.wrap (r2 + 1)))) rfl (AWops.nil (AW.seq (AW.region (s_move (d := (si (IntKind.i64.wrap (r2 + 1)))) rfl (s_move (d := (st_ a0)) rfl (s_len (n := a0.size) F.u_9 rfl (.inl ⟨⟨_, _, rfl⟩, rfl⟩) ?_))))))))
 refine s_binI (v := (.int .i64 (IntKind.i64.wrap ((a0.size : Int) + 1)))) rfl rfl rfl (s_min2 (r := (if (IntKind.i64.wrap ((a0.size : Int) + 1)) < (IntKind.i64.wrap (r2 + 1)) then (IntKind.i64.wrap ((a0.size : Int) + 1)) else (IntKind.i64.wrap (r2 + 1)))) rfl rfl rfl (s_assign (d := (si (if (IntKind.i64.wrap ((a0.size : Int) + 1)) < (IntKind.i64.wrap (r2 + 1)) then (IntKind.i64.wrap ((a0.size : Int) + 1)) else (IntKind.i64.wrap (r2 + 1))))) rfl (AWops.nil (AW.seq (AW.region (s_move (d := (si (if (IntKind.i64.wrap ((a0.size : Int) + 1)) < (IntKind.i64.wrap (r2 + 1)) then (IntKind.i64.wrap ((a0.size : Int) + 1)) else (IntKind.i64.wrap (r2 + 1))))) rfl ?_))))))
 obtain ⟨c3, h⟩ := gdH h
 have dc3 := of_decide_eq_true c3
 refine t_make (f := e_str) (a0 := ((⟨#[]⟩ : ByteArray) : ByteArray)) F.u_37 F.in_9 rfl (by decide) rfl rfl rfl rfl (by omega) (by omega) (by omega) (s_assign (d := (D.one (C.own 0 0 ((List.replicate (if (IntKind.i64.wrap ((a0.size : Int) + 1)) < (IntKind.i64.wrap (r2 + 1)) then (IntKind.i64.wrap ((a0.size : Int) + 1)) else (IntKind.i64.wrap (r2 + 1))).toNat ((⟨#[]⟩ : ByteArray) : ByteArray)).length) 1))) rfl (AWops.nil (AW.seq (AW.region (s_move (d := (si (if (IntKind.i64.wrap ((a0.size : Int) + 1)) < (IntKind.i64.wrap (r2 + 1)) then (IntKind.i64.wrap ((a0.size : Int) + 1)) else (IntKind.i64.wrap (r2 + 1))))) rfl (s_binI (v := (.int .i64 (IntKind.i64.wrap ((if (IntKind.i64.wrap ((a0.size : Int) + 1)) < (IntKind.i64.wrap (r2 + 1)) then (IntKind.i64.wrap ((a0.size : Int) + 1)) else (IntKind.i64.wrap (r2 + 1))) - 1)))) rfl rfl rfl (s_assign (d := (si (IntKind.i64.wrap ((if (IntKind.i64.wrap ((a0.size : Int) + 1)) < (IntKind.i64.wrap (r2 + 1)) then (IntKind.i64.wrap ((a0.size : Int) + 1)) else (IntKind.i64.wrap (r2 + 1))) - 1)))) rfl (AWops.nil (AW.seq (AW.region (s_assign (d := (si 0)) rfl (AWops.nil (AW.seq (AW.block ?_))))))))))))))
 refine AW.loopw (st0 := ⟨66, (upd 66 (upd 66 (upd 66 (upd 66 (upd 66 (upd 66 topF 0 (st_ a0)) 1 (st_ (⟨#[47]⟩ : ByteArray))) 2 (si 0)) 3 (si (IntKind.i64.wrap ((if (IntKind.i64.wrap ((a0.size : Int) + 1)) < (IntKind.i64.wrap (r2 + 1)) then (IntKind.i64.wrap ((a0.size : Int) + 1)) else (IntKind.i64.wrap (r2 + 1))) - 1)))) 9 (D.one (C.own 0 0 (List.replicate (if (IntKind.i64.wrap ((a0.size : Int) + 1)) < (IntKind.i64.wrap (r2 + 1)) then (IntKind.i64.wrap ((a0.size : Int) + 1)) else (IntKind.i64.wrap (r2 + 1))).toNat ((⟨#[]⟩ : ByteArray) : ByteArray)).length 1))) 10 (si 0)), [(some (AObj.cells true (rowC e_str (List.replicate (if (IntKind.i64.wrap ((a0.size : Int) + 1)) < (IntKind.i64.wrap (r2 + 1)) then (IntKind.i64.wrap ((a0.size : Int) + 1)) else (IntKind.i64.wrap (r2 + 1))).toNat ((⟨#[]⟩ : ByteArray) : ByteArray)))))]⟩) (fun kv st => kv ≤ k ∧ ∃ (x4 : List ByteArray) (x5 : ByteArray) (x6 : Int), strings_genSplit_43x.l0 kv x4 x5 x6 a0 r2 = some r ∧ st = ⟨66, (upd 66 (upd 66 (upd 66 (upd 66 (upd 66 (upd 66 topF 0 (st_ x5)) 1 (st_ (⟨#[47]⟩ : ByteArray))) 2 (si 0)) 3 (si (IntKind.i64.wrap ((if (IntKind.i64.wrap ((a0.size : Int) + 1)) < (IntKind.i64.wrap (r2 + 1)) then (IntKind.i64.wrap ((a0.size : Int) + 1)) else (IntKind.i64.wrap (r2 + 1))) - 1)))) 9 (D.one (C.own 0 0 x4.length 1))) 10 (si x6)), [(ow_ e_str x4)]⟩) (k := k) (wg 0 [0] [] hx (le_upd (le_upd (le_upd (le_upd (le_upd (le_upd (le_top _) (o1 .sc)) (o1 .sc)) (o1 .sc)) (o1 .sc)) (o1 (.own rfl))) (o1 .sc)) (ac (.cells (fun _ => rfl) (all2_row _)) an)) ⟨Nat.le_refl _, List.replicate (if (IntKind.i64.wrap ((a0.size : Int) + 1)) < (IntKind.i64.wrap (r2 + 1)) then (IntKind.i64.wrap ((a0.size : Int) + 1)) else (IntKind.i64.wrap (r2 + 1))).toNat ((⟨#[]⟩ : ByteArray) : ByteArray), a0, 0, h, rfl⟩ ?_
 rintro ql0 st ⟨hkl0, x4, x5, x6, h, rfl⟩
 cases ql0 with
 | zero => exact absurd h (by simp [strings_genSplit_43x.l0])
 | succ ql0 =>
  replace h := (strings_genSplit_43x.l0.eq_2 _ _ _ _ _ _).symm.trans h
  refine AW.seq (AW.seq (AW.region ?_))
  refine s_move (d := (si x6)) rfl (s_move (d := (si (IntKind.i64.wrap ((if (IntKind.i64.wrap ((a0.size : Int) + 1)) < (IntKind.i64.wrap (r2 + 1)) then (IntKind.i64.wrap ((a0.size : Int) + 1)) else (IntKind.i64.wrap (r2 + 1))) - 1)))) rfl (s_binI (v := (.bool (decide (x6 < (IntKind.i64.wrap ((if (IntKind.i64.wrap ((a0.size : Int) + 1)) < (IntKind.i64.wrap (r2 + 1)) then (IntKind.i64.wrap ((a0.size : Int) + 1)) else (IntKind.i64.wrap (r2 + 1))) - 1)))))) rfl rfl rfl (AWops.nil ?_)))
  rcases itH h with ⟨c7, h⟩ | ⟨c7, h⟩
  ·refine AW.cond_yes rfl c7 (AW.skip (AW.block (AW.seq (AW.region ?_))))
   refine s_move (d := (st_ x5)) rfl (s_move (d := (st_ (⟨#[47]⟩ : ByteArray))) rfl ?_)
   obtain ⟨r8, er8, h⟩ := bnd h
   refine cc [] [(ow_ e_str x4)] (si r8) F.ca_52 rfl rfl (ac (.one .sc) (ac (.one .sc) an)) an (strings_Index_52.meets _ x5 r8 er8) (s_assign (d := (si r8)) rfl (AWops.nil (AW.seq (AW.seq (AW.region (s_move (d := (si r8)) rfl (s_binI (v := (.bool (decide (r8 < 0)))) rfl rfl rfl (AWops.nil ?_))))))))
   rcases itH h with ⟨c9, h⟩ | ⟨c9, h⟩
   ·refine AW.cond_yes rfl c9 (AW.exit (AW.seq (AW.region ?_)))
    refine s_move (d := (D.one (C.own 0 0 x4.length 1))) rfl (s_move (d := (si x6)) rfl (s_move (d := (st_ x5)) rfl ?_))
    obtain ⟨v10, ev10, h⟩ := bnd h
    obtain ⟨pv10, qv10, gv10⟩ := rd_some ev10
    refine s_indexOwn (d := (D.one (C.ref 0 (0 + x6.toNat * 1)))) F.u_37 F.sz_9 rfl rfl pv10 qv10 rfl ?_
    refine s_store (cs' := rowC e_str (x4.set x6.toNat x5)) rfl rfl rfl (List.cons_ne_nil _ _) rfl F.sz_9 (by rw [row_len e_str_len]; have := (List.getElem?_eq_some_iff.mp gv10).1; show _ + 1 ≤ _; omega) (row_set (f := e_str) (sz := 1) (o := 0) (ds := [P.v (.string x5)]) e_str_len gv10 rfl (nl rfl) rfl) ?_
    refine AWops.nil (AW.seq (AW.region ?_))
    refine s_move (d := (D.one (C.own 0 0 x4.length 1))) rfl (s_move (d := (si x6)) rfl (s_binI (v := (.int .i64 (IntKind.i64.wrap (x6 + 1)))) rfl rfl rfl ?_))
    refine AWops.weak (st' := ⟨66, (upd 66 (upd 66 (upd 66 (upd 66 (upd 66 (upd 66 (upd 66 (upd 66 (upd 66 (upd 66 (upd 66 (upd 66 (upd 66 (upd 66 (upd 66 (upd 66 (upd 66 (upd 66 (upd 66 (upd 66 (upd 66 topF 0 (st_ x5)) 1 (st_ (⟨#[47]⟩ : ByteArray))) 2 (si 0)) 3 (si (IntKind.i64.wrap ((if (IntKind.i64.wrap ((a0.size : Int) + 1)) < (IntKind.i64.wrap (r2 + 1)) then (IntKind.i64.wrap ((a0.size : Int) + 1)) else (IntKind.i64.wrap (r2 + 1))) - 1)))) 9 (D.one (C.p false (.sl (x4.set x6.toNat x5).length ((x4.set x6.toNat x5).flatMap e_str))))) 10 (si x6)) 11 (si r8)) 34 (si x6)) 35 (si (IntKind.i64.wrap ((if (IntKind.i64.wrap ((a0.size : Int) + 1)) < (IntKind.i64.wrap (r2 + 1)) then (IntKind.i64.wrap ((a0.size : Int) + 1)) else (IntKind.i64.wrap (r2 + 1))) - 1)))) 36 (sb (decide (x6 < (IntKind.i64.wrap ((if (IntKind.i64.wrap ((a0.size : Int) + 1)) < (IntKind.i64.wrap (r2 + 1)) then (IntKind.i64.wrap ((a0.size : Int) + 1)) else (IntKind.i64.wrap (r2 + 1))) - 1)))))) 37 (st_ x5)) 38 (st_ (⟨#[47]⟩ : ByteArray))) 39 (si r8)) 40 (si r8)) 41 (sb (decide (r8 < 0)))) 58 (D.one (C.p false (.sl (x4.set x6.toNat x5).length ((x4.set x6.toNat x5).flatMap e_str))))) 59 (si x6)) 60 (st_ x5)) 62 (D.one (C.p false (.sl (x4.set x6.toNat x5).length ((x4.set x6.toNat x5).flatMap e_str))))) 63 (si x6)) 64 (si (IntKind.i64.wrap (x6 + 1)))), []⟩) (wg 0 [] [0] hx (le_upd (le_upd (le_upd (le_upd (le_upd (le_upd (le_upd (le_upd (le_upd (le_upd (le_upd (le_upd (le_upd (le_upd (le_upd (le_upd (le_upd (le_upd (le_upd (le_upd (le_upd (le_top _) (o1 .sc)) (o1 .sc)) (o1 .sc)) (o1 .sc)) (o1 (CLe.frz e_str_len rfl rfl (by simp)))) (o1 .sc)) (o1 .sc)) (o1 .sc)) (o1 .sc)) (o1 .sc)) (o1 .sc)) (o1 .sc)) (o1 .sc)) (o1 .sc)) (o1 .sc)) (o1 (CLe.frz e_str_len rfl rfl (by simp)))) (o1 .sc)) (o1 .sc)) (o1 (CLe.frz e_str_len rfl rfl (by simp)))) (o1 .sc)) (o1 .sc)) an) ?_
    obtain ⟨c11, h⟩ := gdH h
    have dc11 := of_decide_eq_true c11
    refine t_sliceImm (a := 0) (b := IntKind.i64.wrap (x6 + 1)) F.u_37 F.sz_9 e_str_len rfl (by omega) (by omega) (by omega) .no (.yes rfl (by omega) rfl) (s_assign (d := (D.one (C.p false (.sl (sub (x4.set x6.toNat x5) 0 (IntKind.i64.wrap (x6 + 1))).length ((sub (x4.set x6.toNat x5) 0 (IntKind.i64.wrap (x6 + 1))).flatMap e_str))))) rfl (AWops.nil (AW.ret ?_)))
    obtain rfl := Option.some.inj h
    exact ⟨_, rfl, (wg 0 [] [] rfl (le_upd (le_top _) (o1 .same)) an)⟩
   ·refine AW.cond_no rfl c9 (AW.skip (AW.seq (AW.region ?_)))
    refine s_move (d := (D.one (C.own 0 0 x4.length 1))) rfl (s_move (d := (si x6)) rfl (s_move (d := (st_ x5)) rfl (s_move (d := (si r8)) rfl (s_move (d := (si 0)) rfl (s_binI (v := (.int .i64 (IntKind.i64.wrap (r8 + 0)))) rfl rfl rfl ?_)))))
    obtain ⟨c12, h⟩ := gdH h
    have dc12 := of_decide_eq_true c12
    refine s_sliceStr F.u_9 rfl .no (.yes rfl (by omega) rfl) (by omega) (by omega) ?_
    obtain ⟨v13, ev13, h⟩ := bnd h
    obtain ⟨pv13, qv13, gv13⟩ := rd_some ev13
    refine s_indexOwn (d := (D.one (C.ref 0 (0 + x6.toNat * 1)))) F.u_37 F.sz_9 rfl rfl pv13 qv13 rfl ?_
    refine s_store (cs' := rowC e_str (x4.set x6.toNat (x5.extract 0 (IntKind.i64.wrap (r8 + 0)).toNat))) rfl rfl rfl (List.cons_ne_nil _ _) rfl F.sz_9 (by rw [row_len e_str_len]; have := (List.getElem?_eq_some_iff.mp gv13).1; show _ + 1 ≤ _; omega) (row_set (f := e_str) (sz := 1) (o := 0) (ds := [P.v (.string (x5.extract 0 (IntKind.i64.wrap (r8 + 0)).toNat))]) e_str_len gv13 rfl (nl rfl) rfl) ?_
    refine AWops.nil (AW.seq (AW.region ?_))
    refine s_move (d := (st_ x5)) rfl (s_move (d := (si r8)) rfl (s_move (d := (st_ (⟨#[47]⟩ : ByteArray))) rfl (s_len (n := 1) F.u_9 rfl (.inl ⟨⟨_, _, rfl⟩, rfl⟩) (s_binI (v := (.int .i64 (IntKind.i64.wrap (r8 + 1)))) rfl rfl rfl ?_))))
    obtain ⟨c14, h⟩ := gdH h
    have dc14 := of_decide_eq_true c14
    refine s_sliceStr F.u_9 rfl (.yes rfl (by omega) rfl) .no (by omega) (by omega) (s_assign (d := (st_ (x5.extract (IntKind.i64.wrap (r8 + 1)).toNat x5.size))) rfl (AWops.nil (AW.region (s_move (d := (si x6)) rfl (s_binI (v := (.int .i64 (IntKind.i64.wrap (x6 + 1)))) rfl rfl rfl (s_assign (d := (si (IntKind.i64.wrap (x6 + 1)))) rfl (AWops.nil ?_)))))))
    exact ⟨_, ⟨66, (upd 66 (upd 66 (upd 66 (upd 66 (upd 66 (upd 66 topF 0 (st_ (x5.extract (IntKind.i64.wrap (r8 + 1)).toNat x5.size))) 1 (st_ (⟨#[47]⟩ : ByteArray))) 2 (si 0)) 3 (si (IntKind.i64.wrap ((if (IntKind.i64.wrap ((a0.size : Int) + 1)) < (IntKind.i64.wrap (r2 + 1)) then (IntKind.i64.wrap ((a0.size : Int) + 1)) else (IntKind.i64.wrap (r2 + 1))) - 1)))) 9 (D.one (C.own 0 0 (x4.set x6.toNat (x5.extract 0 (IntKind.i64.wrap (r8 + 0)).toNat)).length 1))) 10 (si (IntKind.i64.wrap (x6 + 1)))), [(some (AObj.cells true (rowC e_str (x4.set x6.toNat (x5.extract 0 (IntKind.i64.wrap (r8 + 0)).toNat)))))]⟩, by omega, (wg 0 [0] [] hx (le_upd (le_upd (le_upd (le_upd (le_upd (le_upd (le_top _) (o1 .sc)) (o1 .sc)) (o1 .sc)) (o1 .sc)) (o1 (CLe.ownN rfl (by simp)))) (o1 .sc)) (ac (.cells (fun _ => rfl) (all2_row _)) an)), by omega, x4.set x6.toNat (x5.extract 0 (IntKind.i64.wrap (r8 + 0)).toNat), x5.extract (IntKind.i64.wrap (r8 + 1)).toNat x5.size, IntKind.i64.wrap (x6 + 1), h, rfl⟩
  ·refine AW.cond_no rfl c7 (AW.exit (AW.seq (AW.region ?_)))
   refine s_move (d := (D.one (C.own 0 0 x4.length 1))) rfl (s_move (d := (si x6)) rfl (s_move (d := (st_ x5)) rfl ?_))
   obtain ⟨v15, ev15, h⟩ := bnd h
   obtain ⟨pv15, qv15, gv15⟩ := rd_some ev15
   refine s_indexOwn (d := (D.one (C.ref 0 (0 + x6.toNat * 1)))) F.u_37 F.sz_9 rfl rfl pv15 qv15 rfl ?_
   refine s_store (cs' := rowC e_str (x4.set x6.toNat x5)) rfl rfl rfl (List.cons_ne_nil _ _) rfl F.sz_9 (by rw [row_len e_str_len]; have := (List.getElem?_eq_some_iff.mp gv15).1; show _ + 1 ≤ _; omega) (row_set (f := e_str) (sz := 1) (o := 0) (ds := [P.v (.string x5)]) e_str_len gv15 rfl (nl rfl) rfl) ?_
   refine AWops.nil (AW.seq (AW.region ?_))
   refine s_move (d := (D.one (C.own 0 0 x4.length 1))) rfl (s_move (d := (si x6)) rfl (s_binI (v := (.int .i64 (IntKind.i64.wrap (x6 + 1)))) rfl rfl rfl ?_))
   refine AWops.weak (st' := ⟨66, (upd 66 (upd 66 (upd 66 (upd 66 (upd 66 (upd 66 (upd 66 (upd 66 (upd 66 (upd 66 (upd 66 (upd 66 (upd 66 (upd 66 (upd 66 topF 0 (st_ x5)) 1 (st_ (⟨#[47]⟩ : ByteArray))) 2 (si 0)) 3 (si (IntKind.i64.wrap ((if (IntKind.i64.wrap ((a0.size : Int) + 1)) < (IntKind.i64.wrap (r2 + 1)) then (IntKind.i64.wrap ((a0.size : Int) + 1)) else (IntKind.i64.wrap (r2 + 1))) - 1)))) 9 (D.one (C.p false (.sl (x4.set x6.toNat x5).length ((x4.set x6.toNat x5).flatMap e_str))))) 10 (si x6)) 34 (si x6)) 35 (si (IntKind.i64.wrap ((if (IntKind.i64.wrap ((a0.size : Int) + 1)) < (IntKind.i64.wrap (r2 + 1)) then (IntKind.i64.wrap ((a0.size : Int) + 1)) else (IntKind.i64.wrap (r2 + 1))) - 1)))) 36 (sb (decide (x6 < (IntKind.i64.wrap ((if (IntKind.i64.wrap ((a0.size : Int) + 1)) < (IntKind.i64.wrap (r2 + 1)) then (IntKind.i64.wrap ((a0.size : Int) + 1)) else (IntKind.i64.wrap (r2 + 1))) - 1)))))) 58 (D.one (C.p false (.sl (x4.set x6.toNat x5).length ((x4.set x6.toNat x5).flatMap e_str))))) 59 (si x6)) 60 (st_ x5)) 62 (D.one (C.p false (.sl (x4.set x6.toNat x5).length ((x4.set x6.toNat x5).flatMap e_str))))) 63 (si x6)) 64 (si (IntKind.i64.wrap (x6 + 1)))), []⟩) (wg 0 [] [0] hx (le_upd (le_upd (le_upd (le_upd (le_upd (le_upd (le_upd (le_upd (le_upd (le_upd (le_upd (le_upd (le_upd (le_upd (le_upd (le_top _) (o1 .sc)) (o1 .sc)) (o1 .sc)) (o1 .sc)) (o1 (CLe.frz e_str_len rfl rfl (by simp)))) (o1 .sc)) (o1 .sc)) (o1 .sc)) (o1 .sc)) (o1 (CLe.frz e_str_len rfl rfl (by simp)))) (o1 .sc)) (o1 .sc)) (o1 (CLe.frz e_str_len rfl rfl (by simp)))) (o1 .sc)) (o1 .sc)) an) ?_
   obtain ⟨c16, h⟩ := gdH h
   have dc16 := of_decide_eq_true c16
   refine t_sliceImm (a := 0) (b := IntKind.i64.wrap (x6 + 1)) F.u_37 F.sz_9 e_str_len rfl (by omega) (by omega) (by omega) .no (.yes rfl (by omega) rfl) (s_assign (d := (D.one (C.p false (.sl (sub (x4.set x6.toNat x5) 0 (IntKind.i64.wrap (x6 + 1))).length ((sub (x4.set x6.toNat x5) 0 (IntKind.i64.wrap (x6 + 1))).flatMap e_str))))) rfl (AWops.nil (AW.ret ?_)))
   obtain rfl := Option.some.inj h
   exact ⟨_, rfl, (wg 0 [] [] rfl (le_upd (le_top _) (o1 .same)) an)⟩
def strings_Split_30.f (k : Nat) (a0 : ByteArray) : Option (List ByteArray) := (strings_genSplit_43x.f k a0).bind fun r1 => some r1
theorem strings_Split_30.meets (k : Nat) (a0 : ByteArray) (r : (List ByteArray)) (h : strings_Split_30.f k a0 = some r) : Meets Tryd.prog 30 [(st_ a0), (st_ (⟨#[47]⟩ : ByteArray))] [] (D.one (C.p false (.sl r.length (r.flatMap e_str)))) [] := by
 unfold strings_Split_30.f at h
 refine Meets.of_body (n := 8) Tryd.func30 rfl rfl (nl rfl) fun x hx => ?_
 replace hx : x.k = 0 := hx
 show AW _ x _ _ ⟨8, fr0 [(st_ a0), (st_ (⟨#[47]⟩ : ByteArray))], []⟩
 refine AW.seq (AW.region ?_)
 refine s_assign (d := (sc (.slice none 0 0))) rfl (AWops.nil (AW.seq (AW.region ?_)))
 refine s_move (d := (st_ a0)) rfl (s_move (d := (st_ (⟨#[47]⟩ : ByteArray))) rfl ?_)
 obtain ⟨r1, er1, h⟩ := bnd h
 refine cc [] [] (D.one (C.p false (.sl r1.length (r1.flatMap e_str)))) F.ca_43 rfl rfl (ac (.one .sc) (ac (.one .sc) (ac (.one .sc) (ac (.one .sc) an)))) an (strings_genSplit_43x.meets _ a0 r1 er1) (s_assign (d := (D.one (C.p false (.sl r1.length (r1.flatMap e_str))))) rfl (AWops.nil (AW.ret ?_)))
 obtain rfl := Option.some.inj h
 exact ⟨_, rfl, (wg 0 [] [] rfl (le_upd (le_top _) (o1 .same)) an)⟩
end Go.Abs.GenQ
