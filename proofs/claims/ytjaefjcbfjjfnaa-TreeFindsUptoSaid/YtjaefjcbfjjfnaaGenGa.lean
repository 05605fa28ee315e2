import Derived.Test.YtjaefjcbfjjfnaaAbsX
import Derived.Test.YtjaefjcbfjjfnaaProg
set_option linter.unusedVariables false
set_option linter.unusedSimpArgs false
set_option maxRecDepth 100000
set_option maxHeartbeats 4000000
namespace Go.Abs.GenG
open Go.Abs Go.Proofs
structure api_Inst where
 Path : ByteArray
 Item : ByteArray
 State : Int
 Before : Int
 Latches : List Int
 Due : Int
abbrev c_api_Inst (x : api_Inst) : List C := [(C.p true (.v (.string x.Path))), (C.p true (.v (.string x.Item))), (C.p true (.v (.int .i64 x.State))), (C.p true (.v (.int .i64 x.Before))), (C.p false (.sl x.Latches.length (x.Latches.flatMap e_i64))), (C.p true (.v (.int .i64 x.Due)))]
abbrev p_api_Inst (x : api_Inst) : List P := [P.v (.string x.Path), P.v (.string x.Item), P.v (.int .i64 x.State), P.v (.int .i64 x.Before), P.sl x.Latches.length (x.Latches.flatMap e_i64), P.v (.int .i64 x.Due)]
def e_api_Inst (x : api_Inst) : List P := e_str x.Path ++ e_str x.Item ++ e_i64 x.State ++ e_i64 x.Before ++ (e_sl e_i64) x.Latches ++ e_i64 x.Due
theorem e_api_Inst_eq (x : api_Inst) : e_api_Inst x = [P.v (.string x.Path), P.v (.string x.Item), P.v (.int .i64 x.State), P.v (.int .i64 x.Before), P.sl x.Latches.length (x.Latches.flatMap e_i64), P.v (.int .i64 x.Due)] := rfl
theorem e_api_Inst_len (x : api_Inst) : (e_api_Inst x).length = 6 := by rw [e_api_Inst_eq]; rfl
structure api_Value where
 Kind : Int
 Int : Int
 Bool : Bool
 Text : ByteArray
abbrev c_api_Value (x : api_Value) : List C := [(C.p true (.v (.int .i64 x.Kind))), (C.p true (.v (.int .i64 x.Int))), (C.p true (.v (.bool x.Bool))), (C.p true (.v (.string x.Text)))]
abbrev p_api_Value (x : api_Value) : List P := [P.v (.int .i64 x.Kind), P.v (.int .i64 x.Int), P.v (.bool x.Bool), P.v (.string x.Text)]
def e_api_Value (x : api_Value) : List P := e_i64 x.Kind ++ e_i64 x.Int ++ e_bool x.Bool ++ e_str x.Text
theorem e_api_Value_eq (x : api_Value) : e_api_Value x = [P.v (.int .i64 x.Kind), P.v (.int .i64 x.Int), P.v (.bool x.Bool), P.v (.string x.Text)] := rfl
theorem e_api_Value_fr (x : api_Value) : ((e_api_Value x).map mkC).all frC = true := rfl
theorem e_api_Value_len (x : api_Value) : (e_api_Value x).length = 4 := by rw [e_api_Value_eq]; rfl
structure api_Doc where
 Path : ByteArray
 Value : api_Value
 Refs : List ByteArray
abbrev c_api_Doc (x : api_Doc) : List C := [(C.p true (.v (.string x.Path))), (C.p true (.v (.int .i64 x.Value.Kind))), (C.p true (.v (.int .i64 x.Value.Int))), (C.p true (.v (.bool x.Value.Bool))), (C.p true (.v (.string x.Value.Text))), (C.p false (.sl x.Refs.length (x.Refs.flatMap e_str)))]
abbrev p_api_Doc (x : api_Doc) : List P := [P.v (.string x.Path), P.v (.int .i64 x.Value.Kind), P.v (.int .i64 x.Value.Int), P.v (.bool x.Value.Bool), P.v (.string x.Value.Text), P.sl x.Refs.length (x.Refs.flatMap e_str)]
def e_api_Doc (x : api_Doc) : List P := e_str x.Path ++ e_api_Value x.Value ++ (e_sl e_str) x.Refs
theorem e_api_Doc_eq (x : api_Doc) : e_api_Doc x = [P.v (.string x.Path), P.v (.int .i64 x.Value.Kind), P.v (.int .i64 x.Value.Int), P.v (.bool x.Value.Bool), P.v (.string x.Value.Text), P.sl x.Refs.length (x.Refs.flatMap e_str)] := by
 simp only [e_api_Doc, e_api_Value_eq]
 rfl
theorem e_api_Doc_len (x : api_Doc) : (e_api_Doc x).length = 6 := by rw [e_api_Doc_eq]; rfl
structure api_Case where
 ID : Int
 Model : ByteArray
 Insts : List api_Inst
 Docs : List api_Doc
 Clock : Int
abbrev c_api_Case (x : api_Case) : List C := [(C.p true (.v (.int .i64 x.ID))), (C.p true (.v (.string x.Model))), (C.p false (.sl x.Insts.length (x.Insts.flatMap e_api_Inst))), (C.p false (.sl x.Docs.length (x.Docs.flatMap e_api_Doc))), (C.p true (.v (.int .i64 x.Clock)))]
abbrev p_api_Case (x : api_Case) : List P := [P.v (.int .i64 x.ID), P.v (.string x.Model), P.sl x.Insts.length (x.Insts.flatMap e_api_Inst), P.sl x.Docs.length (x.Docs.flatMap e_api_Doc), P.v (.int .i64 x.Clock)]
def e_api_Case (x : api_Case) : List P := e_i64 x.ID ++ e_str x.Model ++ (e_sl e_api_Inst) x.Insts ++ (e_sl e_api_Doc) x.Docs ++ e_i64 x.Clock
theorem e_api_Case_eq (x : api_Case) : e_api_Case x = [P.v (.int .i64 x.ID), P.v (.string x.Model), P.sl x.Insts.length (x.Insts.flatMap e_api_Inst), P.sl x.Docs.length (x.Docs.flatMap e_api_Doc), P.v (.int .i64 x.Clock)] := rfl
theorem e_api_Case_len (x : api_Case) : (e_api_Case x).length = 5 := by rw [e_api_Case_eq]; rfl
namespace F
theorem fo_25_2 : fieldOf Try.prog 25 2 = some (2, 1, false) := by kernel_rfl
theorem z_30 : zeroOf Try.prog 30 = some (.agg #[(.string ⟨#[]⟩), (.string ⟨#[]⟩), (.int .i64 0), (.int .i64 0), (.slice none 0 0), (.int .i64 0)]) := by kernel_rfl
theorem fo_30_0 : fieldOf Try.prog 30 0 = some (0, 1, false) := by kernel_rfl
theorem fo_30_4 : fieldOf Try.prog 30 4 = some (4, 1, false) := by kernel_rfl
theorem u_28 : Try.prog.underlying 28 = some (.slice 3) := by kernel_rfl
theorem ag_28 : aggOf Try.prog 28 = some false := by kernel_rfl
theorem u_9 : Try.prog.underlying 9 = some (.string) := by kernel_rfl
theorem ag_9 : aggOf Try.prog 9 = some false := by kernel_rfl
theorem sz_30 : szOf Try.prog 30 = some 6 := by kernel_rfl
theorem ag_30 : aggOf Try.prog 30 = some true := by kernel_rfl
theorem u_22 : Try.prog.underlying 22 = some (.slice 30) := by kernel_rfl
theorem fo_25_3 : fieldOf Try.prog 25 3 = some (3, 1, false) := by kernel_rfl
theorem z_44 : zeroOf Try.prog 44 = some (.agg #[(.string ⟨#[]⟩), (.int .i64 0), (.int .i64 0), (.bool false), (.string ⟨#[]⟩), (.slice none 0 0)]) := by kernel_rfl
theorem fo_44_0 : fieldOf Try.prog 44 0 = some (0, 1, false) := by kernel_rfl
theorem fo_44_2 : fieldOf Try.prog 44 2 = some (5, 1, false) := by kernel_rfl
theorem u_42 : Try.prog.underlying 42 = some (.slice 9) := by kernel_rfl
theorem ag_42 : aggOf Try.prog 42 = some false := by kernel_rfl
theorem sz_44 : szOf Try.prog 44 = some 6 := by kernel_rfl
theorem ag_44 : aggOf Try.prog 44 = some true := by kernel_rfl
theorem u_23 : Try.prog.underlying 23 = some (.slice 44) := by kernel_rfl
theorem ag_23 : aggOf Try.prog 23 = some false := by kernel_rfl
theorem ag_22 : aggOf Try.prog 22 = some false := by kernel_rfl
theorem ca_43 : callable Try.prog 43 = true := by kernel_rfl
theorem ca_42 : callable Try.prog 42 = true := by kernel_rfl
theorem so_30 : structOk Try.prog 30 = true := by kernel_rfl
theorem in_3 : infoQ Try.prog 3 = some (some (.int .i64 0), 1, 8) := by kernel_rfl
theorem sz_3 : szOf Try.prog 3 = some 1 := by kernel_rfl
theorem z_3 : zeroOf Try.prog 3 = some (.int .i64 0) := by kernel_rfl
theorem sz_28 : szOf Try.prog 28 = some 1 := by kernel_rfl
theorem ca_44 : callable Try.prog 44 = true := by kernel_rfl
theorem ca_22 : callable Try.prog 22 = true := by kernel_rfl
theorem ca_21 : callable Try.prog 21 = true := by kernel_rfl
theorem ag_25 : aggOf Try.prog 25 = some true := by kernel_rfl
theorem sz_25 : szOf Try.prog 25 = some 5 := by kernel_rfl
theorem ca_23 : callable Try.prog 23 = true := by kernel_rfl
theorem ca_50 : callable Try.prog 50 = true := by kernel_rfl
theorem ca_41 : callable Try.prog 41 = true := by kernel_rfl
theorem ca_20 : callable Try.prog 20 = true := by kernel_rfl
theorem in_30 : infoQ Try.prog 30 = some (some (.agg #[(.string ⟨#[]⟩), (.string ⟨#[]⟩), (.int .i64 0), (.int .i64 0), (.slice none 0 0), (.int .i64 0)]), 6, 80) := by kernel_rfl
theorem ca_26 : callable Try.prog 26 = true := by kernel_rfl
theorem ca_25 : callable Try.prog 25 = true := by kernel_rfl
theorem ca_9 : callable Try.prog 9 = true := by kernel_rfl
theorem ca_45 : callable Try.prog 45 = true := by kernel_rfl
theorem ca_27 : callable Try.prog 27 = true := by kernel_rfl
theorem ca_10 : callable Try.prog 10 = true := by kernel_rfl
theorem fo_30_1 : fieldOf Try.prog 30 1 = some (1, 1, false) := by kernel_rfl
theorem fo_30_2 : fieldOf Try.prog 30 2 = some (2, 1, false) := by kernel_rfl
theorem fo_30_3 : fieldOf Try.prog 30 3 = some (3, 1, false) := by kernel_rfl
theorem fo_30_5 : fieldOf Try.prog 30 5 = some (5, 1, false) := by kernel_rfl
theorem ag_3 : aggOf Try.prog 3 = some false := by kernel_rfl
theorem ca_13 : callable Try.prog 13 = true := by kernel_rfl
theorem ca_24 : callable Try.prog 24 = true := by kernel_rfl
theorem ca_8 : callable Try.prog 8 = true := by kernel_rfl
theorem ca_51 : callable Try.prog 51 = true := by kernel_rfl
theorem ca_46 : callable Try.prog 46 = true := by kernel_rfl
theorem ca_29 : callable Try.prog 29 = true := by kernel_rfl
theorem ca_28 : callable Try.prog 28 = true := by kernel_rfl
theorem ca_11 : callable Try.prog 11 = true := by kernel_rfl
theorem ca_30 : callable Try.prog 30 = true := by kernel_rfl
theorem ca_12 : callable Try.prog 12 = true := by kernel_rfl
theorem u_4 : Try.prog.underlying 4 = some (.bool) := by kernel_rfl
theorem u_67 : Try.prog.underlying 67 = some (.slice 5) := by kernel_rfl
theorem u_5 : Try.prog.underlying 5 = some (.int .u8) := by kernel_rfl
theorem u_71 : Try.prog.underlying 71 = some (.int .u64) := by kernel_rfl
theorem ag_5 : aggOf Try.prog 5 = some false := by kernel_rfl
theorem sz_5 : szOf Try.prog 5 = some 1 := by kernel_rfl
theorem u_3 : Try.prog.underlying 3 = some (.int .i64) := by kernel_rfl
theorem ca_52 : callable Try.prog 52 = true := by kernel_rfl
theorem ca_47 : callable Try.prog 47 = true := by kernel_rfl
theorem ca_31 : callable Try.prog 31 = true := by kernel_rfl
theorem ca_14 : callable Try.prog 14 = true := by kernel_rfl
theorem ca_54 : callable Try.prog 54 = true := by kernel_rfl
theorem ca_53 : callable Try.prog 53 = true := by kernel_rfl
theorem ca_48 : callable Try.prog 48 = true := by kernel_rfl
theorem ca_32 : callable Try.prog 32 = true := by kernel_rfl
theorem ca_15 : callable Try.prog 15 = true := by kernel_rfl
theorem ca_34 : callable Try.prog 34 = true := by kernel_rfl
theorem ca_33 : callable Try.prog 33 = true := by kernel_rfl
theorem fo_44_1 : fieldOf Try.prog 44 1 = some (1, 4, true) := by kernel_rfl
theorem ff_41 : flatFs Try.prog 41 = some [(0, .int .i64), (1, .int .i64), (2, .bool), (3, .string)] := by kernel_rfl
theorem sz_9 : szOf Try.prog 9 = some 1 := by kernel_rfl
theorem ca_37 : callable Try.prog 37 = true := by kernel_rfl
theorem ag_41 : aggOf Try.prog 41 = some true := by kernel_rfl
theorem sz_41 : szOf Try.prog 41 = some 4 := by kernel_rfl
theorem ca_36 : callable Try.prog 36 = true := by kernel_rfl
theorem fo_25_0 : fieldOf Try.prog 25 0 = some (0, 1, false) := by kernel_rfl
theorem fo_25_1 : fieldOf Try.prog 25 1 = some (1, 1, false) := by kernel_rfl
theorem fo_25_4 : fieldOf Try.prog 25 4 = some (4, 1, false) := by kernel_rfl
theorem ca_35 : callable Try.prog 35 = true := by kernel_rfl
theorem ca_16 : callable Try.prog 16 = true := by kernel_rfl
theorem ca_49 : callable Try.prog 49 = true := by kernel_rfl
theorem ca_38 : callable Try.prog 38 = true := by kernel_rfl
theorem ca_17 : callable Try.prog 17 = true := by kernel_rfl
theorem z_25 : zeroOf Try.prog 25 = some (.agg #[(.int .i64 0), (.string ⟨#[]⟩), (.slice none 0 0), (.slice none 0 0), (.int .i64 0)]) := by kernel_rfl
theorem sz_22 : szOf Try.prog 22 = some 1 := by kernel_rfl
theorem in_9 : infoQ Try.prog 9 = some (some (.string ⟨#[]⟩), 1, 16) := by kernel_rfl
theorem z_9 : zeroOf Try.prog 9 = some (.string ⟨#[]⟩) := by kernel_rfl
theorem sz_23 : szOf Try.prog 23 = some 1 := by kernel_rfl
theorem in_44 : infoQ Try.prog 44 = some (some (.agg #[(.string ⟨#[]⟩), (.int .i64 0), (.int .i64 0), (.bool false), (.string ⟨#[]⟩), (.slice none 0 0)]), 6, 80) := by kernel_rfl
theorem sz_42 : szOf Try.prog 42 = some 1 := by kernel_rfl
theorem ca_39 : callable Try.prog 39 = true := by kernel_rfl
theorem ca_18 : callable Try.prog 18 = true := by kernel_rfl
theorem z_66 : zeroOf Try.prog 66 = some (.agg #[(.int .u8 0), (.int .u8 0), (.int .u8 0), (.int .u8 0), (.int .u8 0), (.int .u8 0), (.int .u8 0), (.int .u8 0), (.int .u8 0), (.int .u8 0), (.int .u8 0), (.int .u8 0), (.int .u8 0), (.int .u8 0), (.int .u8 0), (.int .u8 0), (.int .u8 0), (.int .u8 0), (.int .u8 0), (.int .u8 0)]) := by kernel_rfl
theorem u_66 : Try.prog.underlying 66 = some (.array 20 5) := by kernel_rfl
theorem ca_40 : callable Try.prog 40 = true := by kernel_rfl
theorem ca_19 : callable Try.prog 19 = true := by kernel_rfl
theorem ca_5 : callable Try.prog 5 = true := by kernel_rfl
theorem ca_7 : callable Try.prog 7 = true := by kernel_rfl
theorem ca_6 : callable Try.prog 6 = true := by kernel_rfl
theorem ca_4 : callable Try.prog 4 = true := by kernel_rfl
end F
mutual
def dossierplain_Case.l1 : Nat → Int → api_Case → Option Bool
 | 0, _, _ => none
 | k + 1, x6, a0 => if (decide (x6 < (a0.Docs.length : Int))) = true then ((rd a0.Docs x6).bind fun v8 => if (decide ((v8.Path.size : Int) > 400)) = true then (some false) else (if (decide ((v8.Refs.length : Int) > 40)) = true then (some false) else (dossierplain_Case.l1 k (IntKind.i64.wrap (x6 + 1)) a0))) else (if (decide ((a0.Insts.length : Int) ≤ 40)) = true then (some (decide ((a0.Docs.length : Int) ≤ 30))) else (some false))
def dossierplain_Case.l0 : Nat → Int → api_Case → Option Bool
 | 0, _, _ => none
 | k + 1, x1, a0 => if (decide (x1 < (a0.Insts.length : Int))) = true then ((rd a0.Insts x1).bind fun v3 => if (decide ((v3.Path.size : Int) > 400)) = true then (some false) else (if (decide ((v3.Latches.length : Int) > 40)) = true then (some false) else (dossierplain_Case.l0 k (IntKind.i64.wrap (x1 + 1)) a0))) else (dossierplain_Case.l1 k 0 a0)
end
def dossierplain_Case.f (k : Nat) (a0 : api_Case) : Option Bool := dossierplain_Case.l0 k 0 a0
theorem dossierplain_Case.meets (k : Nat) (a0 : api_Case) (r : Bool) (h : dossierplain_Case.f k a0 = some r) : Meets Try.prog 4 [(D.agg (c_api_Case a0))] [] (sc (.bool r)) [] := by
 unfold dossierplain_Case.f at h
 refine Meets.of_body (n := 53) Try.func4 rfl rfl (nl rfl) fun x hx => ?_
 replace hx : x.k = 0 := hx
 show AW _ x _ _ ⟨53, fr0 [(D.agg (c_api_Case a0))], []⟩
 refine AW.seq (AW.region ?_)
 refine s_box (cs := (c_api_Case a0)) rfl (List.cons_ne_nil _ _) rfl ?_
 refine s_assign (d := (sc (.bool false))) rfl (AWops.nil (AW.seq (AW.seq (AW.region ?_))))
 refine s_fieldRef F.fo_25_2 (by decide) rfl ?_
 refine s_load1 (c' := (C.p false (.sl a0.Insts.length (a0.Insts.flatMap e_api_Inst)))) F.ag_22 rfl rfl ?_
 refine s_len (n := a0.Insts.length) F.u_22 rfl (.inr ⟨(fun _ _ h => by cases h), ⟨_, rfl⟩⟩) ?_
 refine s_move (d := (sc (.int .i64 0))) rfl (AWops.nil (AW.block ?_))
 refine AW.loopw (st0 := ⟨53, (upd 53 (upd 53 (upd 53 (upd 53 topF 1 (D.one (C.ref 0 0))) 8 (D.one (C.p false (.sl a0.Insts.length (a0.Insts.flatMap e_api_Inst))))) 9 (sc (.int .i64 (a0.Insts.length : Int)))) 10 (sc (.int .i64 0))), [(some (AObj.cells true (c_api_Case a0)))]⟩) (fun kv st => kv ≤ k ∧ ∃ (x1 : Int), dossierplain_Case.l0 kv x1 a0 = some r ∧ st = ⟨53, (upd 53 (upd 53 (upd 53 (upd 53 topF 1 (D.one (C.ref 0 0))) 8 (D.one (C.p false (.sl a0.Insts.length (a0.Insts.flatMap e_api_Inst))))) 9 (sc (.int .i64 (a0.Insts.length : Int)))) 10 (sc (.int .i64 x1))), [(some (AObj.cells true (c_api_Case a0)))]⟩) (k := k) (Weak.gen (kk := 0) [0] [] hx rfl (by decide) (by decide) rfl rfl rfl (le_upd (le_upd (le_upd (le_upd (le_top _) (.t (.one (.ref rfl)))) (.t (.one .same))) (.t (.one .sc))) (.t (.one .sc))) (ac (.cells (fun h => h) (ac .sc (ac .sc (ac .same (ac .same (ac .sc an)))))) an)) ⟨Nat.le_refl _, 0, h, rfl⟩ ?_
 rintro ql0 st ⟨hkl0, x1, h, rfl⟩
 cases ql0 with
 | zero => exact absurd h (by simp [dossierplain_Case.l0])
 | succ ql0 =>
  replace h := (dossierplain_Case.l0.eq_2 _ _ _).symm.trans h
  refine AW.seq (AW.region ?_)
  refine s_binI (v := (.bool (decide (x1 < (a0.Insts.length : Int))))) rfl rfl rfl (AWops.nil (AW.seq ?_))
  rcases itH h with ⟨c2, h⟩ | ⟨c2, h⟩
  ·refine AW.cond_yes rfl c2 (AW.skip (AW.seq (AW.block (AW.seq (AW.region ?_)))))
   obtain ⟨v3, ev3, h⟩ := bnd h
   obtain ⟨pv3, qv3, gv3⟩ := rd_some ev3
   refine s_indexImm (ps := (p_api_Inst v3)) F.u_22 F.sz_30 rfl rfl pv3 qv3 (flat_at e_api_Inst_len gv3 (e_api_Inst_eq v3)) ?_
   refine s_loadN (ds := (c_api_Inst v3)) F.ag_30 F.sz_30 rfl rfl rfl ?_
   refine s_alloc (cs := [(C.p true (.v (.string (⟨#[]⟩ : ByteArray)))), (C.p true (.v (.string (⟨#[]⟩ : ByteArray)))), (C.p true (.v (.int .i64 0))), (C.p true (.v (.int .i64 0))), (C.p true (.v (.slice none 0 0))), (C.p true (.v (.int .i64 0)))]) F.z_30 rfl rfl ?_
   refine s_store (cs' := (c_api_Inst v3)) rfl rfl rfl (List.cons_ne_nil _ _) rfl F.sz_30 (nl rfl) rfl (AWops.nil (AW.seq (AW.region ?_)))
   refine s_fieldRef F.fo_30_0 (by decide) rfl ?_
   refine s_load1 (c' := (C.p true (.v (.string v3.Path)))) F.ag_9 rfl rfl ?_
   refine s_len (n := v3.Path.size) F.u_9 rfl (.inl ⟨⟨_, _, rfl⟩, rfl⟩) ?_
   refine s_binI (v := (.bool (decide ((v3.Path.size : Int) > 400)))) rfl rfl rfl ?_
   refine s_move (d := (sc (.bool (decide ((v3.Path.size : Int) > 400))))) rfl ?_
   rcases itH h with ⟨c4, h⟩ | ⟨c4, h⟩
   ·iterate 4 refine AWops.guard_no rfl (nl rfl) rfl c4 ?_
    refine s_pick_yes (d := (sc (.bool true))) rfl c4 rfl (AWops.nil ?_)
    refine AW.cond_yes rfl rfl (AW.seq (AW.region ?_))
    refine s_assign (d := (sc (.bool false))) rfl (AWops.nil (AW.ret ?_))
    obtain rfl := Option.some.inj h
    exact ⟨_, rfl, (Weak.gen (kk := 0) [] [] rfl rfl (by decide) (by decide) rfl rfl rfl (le_upd (le_top _) (.t (.one .sc))) an)⟩
   ·refine AWops.guard_yes rfl (nl rfl) rfl c4 ?_
    refine s_fieldRef F.fo_30_4 (by decide) rfl ?_
    refine AWops.guard_yes rfl (nl rfl) rfl c4 ?_
    refine s_load1 (c' := (C.p false (.sl v3.Latches.length (v3.Latches.flatMap e_i64)))) F.ag_28 rfl rfl ?_
    refine AWops.guard_yes rfl (nl rfl) rfl c4 ?_
    refine s_len (n := v3.Latches.length) F.u_28 rfl (.inr ⟨(fun _ _ h => by cases h), ⟨_, rfl⟩⟩) ?_
    refine AWops.guard_yes rfl (nl rfl) rfl c4 ?_
    refine s_binI (v := (.bool (decide ((v3.Latches.length : Int) > 40)))) rfl rfl rfl ?_
    refine s_pick_no (d := (sc (.bool (decide ((v3.Latches.length : Int) > 40))))) rfl c4 rfl (AWops.nil ?_)
    rcases itH h with ⟨c5, h⟩ | ⟨c5, h⟩
    ·refine AW.cond_yes rfl c5 (AW.seq (AW.region ?_))
     refine s_assign (d := (sc (.bool false))) rfl (AWops.nil (AW.ret ?_))
     obtain rfl := Option.some.inj h
     exact ⟨_, rfl, (Weak.gen (kk := 0) [] [] rfl rfl (by decide) (by decide) rfl rfl rfl (le_upd (le_top _) (.t (.one .sc))) an)⟩
    ·refine AW.cond_no rfl c5 (AW.skip (AW.region ?_))
     refine s_binI (v := (.int .i64 (IntKind.i64.wrap (x1 + 1)))) rfl rfl rfl ?_
     refine s_move (d := (sc (.int .i64 (IntKind.i64.wrap (x1 + 1))))) rfl (AWops.nil ?_)
     exact ⟨_, ⟨53, (upd 53 (upd 53 (upd 53 (upd 53 topF 1 (D.one (C.ref 0 0))) 8 (D.one (C.p false (.sl a0.Insts.length (a0.Insts.flatMap e_api_Inst))))) 9 (sc (.int .i64 (a0.Insts.length : Int)))) 10 (sc (.int .i64 (IntKind.i64.wrap (x1 + 1))))), [(some (AObj.cells true (c_api_Case a0)))]⟩, by omega, (Weak.gen (kk := 0) [0] [] hx rfl (by decide) (by decide) rfl rfl rfl (le_upd (le_upd (le_upd (le_upd (le_top _) (.t (.one (.ref rfl)))) (.t (.one .same))) (.t (.one .sc))) (.t (.one .sc))) (ac (.cells (fun h => h) (ac .sc (ac .sc (ac .same (ac .same (ac .sc an)))))) an)), by omega, IntKind.i64.wrap (x1 + 1), h, rfl⟩
  ·refine AW.cond_no rfl c2 (AW.exit (AW.seq (AW.seq (AW.region ?_))))
   refine s_fieldRef F.fo_25_3 (by decide) rfl ?_
   refine s_load1 (c' := (C.p false (.sl a0.Docs.length (a0.Docs.flatMap e_api_Doc)))) F.ag_23 rfl rfl ?_
   refine s_len (n := a0.Docs.length) F.u_23 rfl (.inr ⟨(fun _ _ h => by cases h), ⟨_, rfl⟩⟩) ?_
   refine s_move (d := (sc (.int .i64 0))) rfl (AWops.nil (AW.block ?_))
   refine AW.loopw (st0 := ⟨53, (upd 53 (upd 53 (upd 53 (upd 53 topF 1 (D.one (C.ref 0 0))) 26 (D.one (C.p false (.sl a0.Docs.length (a0.Docs.flatMap e_api_Doc))))) 27 (sc (.int .i64 (a0.Docs.length : Int)))) 28 (sc (.int .i64 0))), [(some (AObj.cells true (c_api_Case a0)))]⟩) (fun kv st => kv ≤ ql0 ∧ ∃ (x6 : Int), dossierplain_Case.l1 kv x6 a0 = some r ∧ st = ⟨53, (upd 53 (upd 53 (upd 53 (upd 53 topF 1 (D.one (C.ref 0 0))) 26 (D.one (C.p false (.sl a0.Docs.length (a0.Docs.flatMap e_api_Doc))))) 27 (sc (.int .i64 (a0.Docs.length : Int)))) 28 (sc (.int .i64 x6))), [(some (AObj.cells true (c_api_Case a0)))]⟩) (k := ql0) (Weak.gen (kk := 0) [0] [] hx rfl (by decide) (by decide) rfl rfl rfl (le_upd (le_upd (le_upd (le_upd (le_top _) (.t (.one (.ref rfl)))) (.t (.one .same))) (.t (.one .sc))) (.t (.one .sc))) (ac (.cells (fun h => h) (ac .sc (ac .sc (ac .same (ac .same (ac .sc an)))))) an)) ⟨Nat.le_refl _, 0, h, rfl⟩ ?_
   rintro ql1 st ⟨hkl1, x6, h, rfl⟩
   cases ql1 with
   | zero => exact absurd h (by simp [dossierplain_Case.l1])
   | succ ql1 =>
    replace h := (dossierplain_Case.l1.eq_2 _ _ _).symm.trans h
    refine AW.seq (AW.region ?_)
    refine s_binI (v := (.bool (decide (x6 < (a0.Docs.length : Int))))) rfl rfl rfl (AWops.nil (AW.seq ?_))
    rcases itH h with ⟨c7, h⟩ | ⟨c7, h⟩
    ·refine AW.cond_yes rfl c7 (AW.skip (AW.seq (AW.block (AW.seq (AW.region ?_)))))
     obtain ⟨v8, ev8, h⟩ := bnd h
     obtain ⟨pv8, qv8, gv8⟩ := rd_some ev8
     refine s_indexImm (ps := (p_api_Doc v8)) F.u_23 F.sz_44 rfl rfl pv8 qv8 (flat_at e_api_Doc_len gv8 (e_api_Doc_eq v8)) ?_
     refine s_loadN (ds := (c_api_Doc v8)) F.ag_44 F.sz_44 rfl rfl rfl ?_
     refine s_alloc (cs := [(C.p true (.v (.string (⟨#[]⟩ : ByteArray)))), (C.p true (.v (.int .i64 0))), (C.p true (.v (.int .i64 0))), (C.p true (.v (.bool false))), (C.p true (.v (.string (⟨#[]⟩ : ByteArray)))), (C.p true (.v (.slice none 0 0)))]) F.z_44 rfl rfl ?_
     refine s_store (cs' := (c_api_Doc v8)) rfl rfl rfl (List.cons_ne_nil _ _) rfl F.sz_44 (nl rfl) rfl (AWops.nil (AW.seq (AW.region ?_)))
     refine s_fieldRef F.fo_44_0 (by decide) rfl ?_
     refine s_load1 (c' := (C.p true (.v (.string v8.Path)))) F.ag_9 rfl rfl ?_
     refine s_len (n := v8.Path.size) F.u_9 rfl (.inl ⟨⟨_, _, rfl⟩, rfl⟩) ?_
     refine s_binI (v := (.bool (decide ((v8.Path.size : Int) > 400)))) rfl rfl rfl ?_
     refine s_move (d := (sc (.bool (decide ((v8.Path.size : Int) > 400))))) rfl ?_
     rcases itH h with ⟨c9, h⟩ | ⟨c9, h⟩
     ·iterate 4 refine AWops.guard_no rfl (nl rfl) rfl c9 ?_
      refine s_pick_yes (d := (sc (.bool true))) rfl c9 rfl (AWops.nil ?_)
      refine AW.cond_yes rfl rfl (AW.seq (AW.region ?_))
      refine s_assign (d := (sc (.bool false))) rfl (AWops.nil (AW.ret ?_))
      obtain rfl := Option.some.inj h
      exact ⟨_, rfl, (Weak.gen (kk := 0) [] [] rfl rfl (by decide) (by decide) rfl rfl rfl (le_upd (le_top _) (.t (.one .sc))) an)⟩
     ·refine AWops.guard_yes rfl (nl rfl) rfl c9 ?_
      refine s_fieldRef F.fo_44_2 (by decide) rfl ?_
      refine AWops.guard_yes rfl (nl rfl) rfl c9 ?_
      refine s_load1 (c' := (C.p false (.sl v8.Refs.length (v8.Refs.flatMap e_str)))) F.ag_42 rfl rfl ?_
      refine AWops.guard_yes rfl (nl rfl) rfl c9 ?_
      refine s_len (n := v8.Refs.length) F.u_42 rfl (.inr ⟨(fun _ _ h => by cases h), ⟨_, rfl⟩⟩) ?_
      refine AWops.guard_yes rfl (nl rfl) rfl c9 ?_
      refine s_binI (v := (.bool (decide ((v8.Refs.length : Int) > 40)))) rfl rfl rfl ?_
      refine s_pick_no (d := (sc (.bool (decide ((v8.Refs.length : Int) > 40))))) rfl c9 rfl (AWops.nil ?_)
      rcases itH h with ⟨c10, h⟩ | ⟨c10, h⟩
      ·refine AW.cond_yes rfl c10 (AW.seq (AW.region ?_))
       refine s_assign (d := (sc (.bool false))) rfl (AWops.nil (AW.ret ?_))
       obtain rfl := Option.some.inj h
       exact ⟨_, rfl, (Weak.gen (kk := 0) [] [] rfl rfl (by decide) (by decide) rfl rfl rfl (le_upd (le_top _) (.t (.one .sc))) an)⟩
      ·refine AW.cond_no rfl c10 (AW.skip (AW.region ?_))
       refine s_binI (v := (.int .i64 (IntKind.i64.wrap (x6 + 1)))) rfl rfl rfl ?_
       refine s_move (d := (sc (.int .i64 (IntKind.i64.wrap (x6 + 1))))) rfl (AWops.nil ?_)
       exact ⟨_, ⟨53, (upd 53 (upd 53 (upd 53 (upd 53 topF 1 (D.one (C.ref 0 0))) 26 (D.one (C.p false (.sl a0.Docs.length (a0.Docs.flatMap e_api_Doc))))) 27 (sc (.int .i64 (a0.Docs.length : Int)))) 28 (sc (.int .i64 (IntKind.i64.wrap (x6 + 1))))), [(some (AObj.cells true (c_api_Case a0)))]⟩, by omega, (Weak.gen (kk := 0) [0] [] hx rfl (by decide) (by decide) rfl rfl rfl (le_upd (le_upd (le_upd (le_upd (le_top _) (.t (.one (.ref rfl)))) (.t (.one .same))) (.t (.one .sc))) (.t (.one .sc))) (ac (.cells (fun h => h) (ac .sc (ac .sc (ac .same (ac .same (ac .sc an)))))) an)), by omega, IntKind.i64.wrap (x6 + 1), h, rfl⟩
    ·refine AW.cond_no rfl c7 (AW.exit (AW.seq (AW.region ?_)))
     refine s_fieldRef F.fo_25_2 (by decide) rfl ?_
     refine s_load1 (c' := (C.p false (.sl a0.Insts.length (a0.Insts.flatMap e_api_Inst)))) F.ag_22 rfl rfl ?_
     refine s_len (n := a0.Insts.length) F.u_22 rfl (.inr ⟨(fun _ _ h => by cases h), ⟨_, rfl⟩⟩) ?_
     refine s_binI (v := (.bool (decide ((a0.Insts.length : Int) ≤ 40)))) rfl rfl rfl ?_
     refine s_move (d := (sc (.bool (decide ((a0.Insts.length : Int) ≤ 40))))) rfl ?_
     rcases itH h with ⟨c11, h⟩ | ⟨c11, h⟩
     ·refine AWops.guard_yes rfl (nl rfl) rfl c11 ?_
      refine s_fieldRef F.fo_25_3 (by decide) rfl ?_
      refine AWops.guard_yes rfl (nl rfl) rfl c11 ?_
      refine s_load1 (c' := (C.p false (.sl a0.Docs.length (a0.Docs.flatMap e_api_Doc)))) F.ag_23 rfl rfl ?_
      refine AWops.guard_yes rfl (nl rfl) rfl c11 ?_
      refine s_len (n := a0.Docs.length) F.u_23 rfl (.inr ⟨(fun _ _ h => by cases h), ⟨_, rfl⟩⟩) ?_
      refine AWops.guard_yes rfl (nl rfl) rfl c11 ?_
      refine s_binI (v := (.bool (decide ((a0.Docs.length : Int) ≤ 30)))) rfl rfl rfl ?_
      refine s_pick_yes (d := (sc (.bool (decide ((a0.Docs.length : Int) ≤ 30))))) rfl c11 rfl ?_
      refine s_assign (d := (sc (.bool (decide ((a0.Docs.length : Int) ≤ 30))))) rfl (AWops.nil (AW.ret ?_))
      obtain rfl := Option.some.inj h
      exact ⟨_, rfl, (Weak.gen (kk := 0) [] [] rfl rfl (by decide) (by decide) rfl rfl rfl (le_upd (le_top _) (.t (.one .sc))) an)⟩
     ·iterate 4 refine AWops.guard_no rfl (nl rfl) rfl c11 ?_
      refine s_pick_no (d := (sc (.bool false))) rfl c11 rfl ?_
      refine s_assign (d := (sc (.bool false))) rfl (AWops.nil (AW.ret ?_))
      obtain rfl := Option.some.inj h
      exact ⟨_, rfl, (Weak.gen (kk := 0) [] [] rfl rfl (by decide) (by decide) rfl rfl rfl (le_upd (le_top _) (.t (.one .sc))) an)⟩
def tree_index_1.f (k : Nat) (a0 : api_Inst) (p0 : ByteArray) : Option (Bool × ByteArray) := some ((a0.Path.toList == p0.toList), p0)
theorem tree_index_1.meets (k : Nat) (a0 : api_Inst) (p0 : ByteArray) (r : Bool × ByteArray) (h : tree_index_1.f k a0 p0 = some r) : Meets Try.prog 43 [(D.agg (c_api_Inst a0)), (D.one (C.ref 0 0))] [(some (AObj.cells false [(C.p true (.v (.string p0)))]))] (sc (.bool r.1)) [(some (AObj.cells false [(C.p true (.v (.string r.2)))]))] := by
 unfold tree_index_1.f at h
 refine Meets.of_body (n := 8) Try.func43 rfl rfl (nl rfl) fun x hx => ?_
 replace hx : x.k = 1 := hx
 show AW _ x _ _ ⟨8, fr0 [(D.agg (c_api_Inst a0)), (D.one (C.ref 0 0))], [(some (AObj.cells false [(C.p true (.v (.string p0)))]))]⟩
 refine AW.seq (AW.region ?_)
 refine s_box (cs := (c_api_Inst a0)) rfl (List.cons_ne_nil _ _) rfl ?_
 refine s_assign (d := (sc (.bool false))) rfl (AWops.nil (AW.seq (AW.region ?_)))
 refine s_fieldRef F.fo_30_0 (by decide) rfl ?_
 refine s_load1 (c' := (C.p true (.v (.string a0.Path)))) F.ag_9 rfl rfl ?_
 refine s_load1 (c' := (C.p true (.v (.string p0)))) F.ag_9 rfl rfl ?_
 refine s_binS (v := (.bool (a0.Path.toList == p0.toList))) rfl rfl rfl ?_
 refine s_assign (d := (sc (.bool (a0.Path.toList == p0.toList)))) rfl (AWops.nil (AW.ret ?_))
 obtain rfl := Option.some.inj h
 exact ⟨_, rfl, (Weak.gen (kk := 1) [0] [] rfl rfl (by decide) (by decide) rfl rfl rfl (le_upd (le_top _) (.t (.one .sc))) (ac (.cells (fun h => h) (ac .sc an)) an))⟩
mutual
def slices_IndexFunc_api_Inst_api_Inst.l0 : Nat → ByteArray → Int → (List api_Inst) → Option (Int × ByteArray)
 | 0, _, _, _ => none
 | k + 1, x1, x2, a0 => if (decide (x2 < (a0.length : Int))) = true then ((rd a0 x2).bind fun v4 => (tree_index_1.f k v4 x1).bind fun r5 => if r5.1 = true then (some (x2, r5.2)) else (slices_IndexFunc_api_Inst_api_Inst.l0 k r5.2 (IntKind.i64.wrap (x2 + 1)) a0)) else (some ((-1), x1))
end
def slices_IndexFunc_api_Inst_api_Inst.f (k : Nat) (a0 : List api_Inst) (p0 : ByteArray) : Option (Int × ByteArray) := slices_IndexFunc_api_Inst_api_Inst.l0 k p0 0 a0
theorem slices_IndexFunc_api_Inst_api_Inst.meets (k : Nat) (a0 : List api_Inst) (p0 : ByteArray) (r : Int × ByteArray) (h : slices_IndexFunc_api_Inst_api_Inst.f k a0 p0 = some r) : Meets Try.prog 42 [(D.one (C.p false (.sl a0.length (a0.flatMap e_api_Inst)))), (D.one (C.clo 43 [(C.ref 0 0)]))] [(some (AObj.cells false [(C.p true (.v (.string p0)))]))] (sc (.int .i64 r.1)) [(some (AObj.cells false [(C.p true (.v (.string r.2)))]))] := by
 unfold slices_IndexFunc_api_Inst_api_Inst.f at h
 refine Meets.of_body (n := 19) Try.func42 rfl rfl (nl rfl) fun x hx => ?_
 replace hx : x.k = 1 := hx
 show AW _ x _ _ ⟨19, fr0 [(D.one (C.p false (.sl a0.length (a0.flatMap e_api_Inst)))), (D.one (C.clo 43 [(C.ref 0 0)]))], [(some (AObj.cells false [(C.p true (.v (.string p0)))]))]⟩
 refine AW.seq (AW.region ?_)
 refine s_assign (d := (sc (.int .i64 0))) rfl (AWops.nil (AW.seq (AW.seq (AW.region ?_))))
 refine s_move (d := (D.one (C.p false (.sl a0.length (a0.flatMap e_api_Inst))))) rfl ?_
 refine s_len (n := a0.length) F.u_22 rfl (.inr ⟨(fun _ _ h => by cases h), ⟨_, rfl⟩⟩) ?_
 refine s_move (d := (sc (.int .i64 0))) rfl (AWops.nil (AW.block ?_))
 refine AW.loopw (st0 := ⟨19, (upd 19 (upd 19 (upd 19 (upd 19 topF 0 (D.one (C.p false (.sl a0.length (a0.flatMap e_api_Inst))))) 1 (D.one (C.clo 43 [(C.ref 0 0)]))) 7 (sc (.int .i64 (a0.length : Int)))) 8 (sc (.int .i64 0))), [(some (AObj.cells false [(C.p true (.v (.string p0)))]))]⟩) (fun kv st => kv ≤ k ∧ ∃ (x1 : ByteArray) (x2 : Int), slices_IndexFunc_api_Inst_api_Inst.l0 kv x1 x2 a0 = some r ∧ st = ⟨19, (upd 19 (upd 19 (upd 19 (upd 19 topF 0 (D.one (C.p false (.sl a0.length (a0.flatMap e_api_Inst))))) 1 (D.one (C.clo 43 [(C.ref 0 0)]))) 7 (sc (.int .i64 (a0.length : Int)))) 8 (sc (.int .i64 x2))), [(some (AObj.cells false [(C.p true (.v (.string x1)))]))]⟩) (k := k) (Weak.gen (kk := 1) [0] [] hx rfl (by decide) (by decide) rfl rfl rfl (le_upd (le_upd (le_upd (le_upd (le_top _) (.t (.one .same))) (.t (.one (CLe.cloL (ac (.ref rfl) an))))) (.t (.one .sc))) (.t (.one .sc))) (ac (.cells (fun h => h) (ac .sc an)) an)) ⟨Nat.le_refl _, p0, 0, h, rfl⟩ ?_
 rintro ql0 st ⟨hkl0, x1, x2, h, rfl⟩
 cases ql0 with
 | zero => exact absurd h (by simp [slices_IndexFunc_api_Inst_api_Inst.l0])
 | succ ql0 =>
  replace h := (slices_IndexFunc_api_Inst_api_Inst.l0.eq_2 _ _ _ _).symm.trans h
  refine AW.seq (AW.region ?_)
  refine s_binI (v := (.bool (decide (x2 < (a0.length : Int))))) rfl rfl rfl (AWops.nil (AW.seq ?_))
  rcases itH h with ⟨c3, h⟩ | ⟨c3, h⟩
  ·refine AW.cond_yes rfl c3 (AW.skip (AW.seq (AW.block (AW.seq (AW.region ?_)))))
   refine s_move (d := (sc (.int .i64 x2))) rfl ?_
   refine s_assign (d := (sc (.int .i64 x2))) rfl (AWops.nil (AW.seq (AW.region ?_)))
   refine s_move (d := (D.one (C.clo 43 [(C.ref 0 0)]))) rfl ?_
   refine s_move (d := (D.one (C.p false (.sl a0.length (a0.flatMap e_api_Inst))))) rfl ?_
   refine s_move (d := (sc (.int .i64 x2))) rfl ?_
   obtain ⟨v4, ev4, h⟩ := bnd h
   obtain ⟨pv4, qv4, gv4⟩ := rd_some ev4
   refine s_indexImm (ps := (p_api_Inst v4)) F.u_22 F.sz_30 rfl rfl pv4 qv4 (flat_at e_api_Inst_len gv4 (e_api_Inst_eq v4)) ?_
   refine s_loadN (ds := (c_api_Inst v4)) F.ag_30 F.sz_30 rfl rfl rfl ?_
   obtain ⟨r5, er5, h⟩ := bnd h
   refine s_call2 (ρ := [0]) (br := false) (H2 := [(some (AObj.cells false [(C.p true (.v (.string r5.2)))]))]) (d := (sc (.bool r5.1))) F.ca_43 rfl rfl (ac (LendT.aggL (ac .sc (ac .sc (ac .sc (ac .sc (ac .imm (ac .sc an))))))) (ac (.one (.ref rfl)) an)) (ac (.cells (ac .sc an)) an) (by decide) rfl (tree_index_1.meets _ v4 x1 r5 er5) (.inl rfl) rfl rfl (AWops.nil ?_)
   rcases itH h with ⟨c6, h⟩ | ⟨c6, h⟩
   ·refine AW.cond_yes rfl c6 (AW.seq (AW.region ?_))
    refine s_move (d := (sc (.int .i64 x2))) rfl ?_
    refine s_assign (d := (sc (.int .i64 x2))) rfl (AWops.nil (AW.ret ?_))
    obtain rfl := Option.some.inj h
    exact ⟨_, rfl, (Weak.gen (kk := 1) [0] [] rfl rfl (by decide) (by decide) rfl rfl rfl (le_upd (le_top _) (.t (.one .sc))) (ac (.cells (fun h => h) (ac .sc an)) an))⟩
   ·refine AW.cond_no rfl c6 (AW.skip (AW.region ?_))
    refine s_binI (v := (.int .i64 (IntKind.i64.wrap (x2 + 1)))) rfl rfl rfl ?_
    refine s_move (d := (sc (.int .i64 (IntKind.i64.wrap (x2 + 1))))) rfl (AWops.nil ?_)
    exact ⟨_, ⟨19, (upd 19 (upd 19 (upd 19 (upd 19 topF 0 (D.one (C.p false (.sl a0.length (a0.flatMap e_api_Inst))))) 1 (D.one (C.clo 43 [(C.ref 0 0)]))) 7 (sc (.int .i64 (a0.length : Int)))) 8 (sc (.int .i64 (IntKind.i64.wrap (x2 + 1))))), [(some (AObj.cells false [(C.p true (.v (.string r5.2)))]))]⟩, by omega, (Weak.gen (kk := 1) [0] [] hx rfl (by decide) (by decide) rfl rfl rfl (le_upd (le_upd (le_upd (le_upd (le_top _) (.t (.one .same))) (.t (.one (CLe.cloL (ac (.ref rfl) an))))) (.t (.one .sc))) (.t (.one .sc))) (ac (.cells (fun h => h) (ac .sc an)) an)), by omega, r5.2, IntKind.i64.wrap (x2 + 1), h, rfl⟩
  ·refine AW.cond_no rfl c3 (AW.exit (AW.seq (AW.region ?_)))
   refine s_assign (d := (sc (.int .i64 (-1)))) rfl (AWops.nil (AW.ret ?_))
   obtain rfl := Option.some.inj h
   exact ⟨_, rfl, (Weak.gen (kk := 1) [0] [] rfl rfl (by decide) (by decide) rfl rfl rfl (le_upd (le_top _) (.t (.one .sc))) (ac (.cells (fun h => h) (ac .sc an)) an))⟩
def tree_index.f (k : Nat) (a0 : api_Case) (a1 : ByteArray) : Option Int := (slices_IndexFunc_api_Inst_api_Inst.f k a0.Insts a1).bind fun r1 => some r1.1
theorem tree_index.meets (k : Nat) (a0 : api_Case) (a1 : ByteArray) (r : Int) (h : tree_index.f k a0 a1 = some r) : Meets Try.prog 21 [(D.agg (c_api_Case a0)), (sc (.string a1))] [] (sc (.int .i64 r)) [] := by
 unfold tree_index.f at h
 refine Meets.of_body (n := 9) Try.func21 rfl rfl (nl rfl) fun x hx => ?_
 replace hx : x.k = 0 := hx
 show AW _ x _ _ ⟨9, fr0 [(D.agg (c_api_Case a0)), (sc (.string a1))], []⟩
 refine AW.seq (AW.region ?_)
 refine s_box (cs := (c_api_Case a0)) rfl (List.cons_ne_nil _ _) rfl ?_
 refine s_box (cs := [(C.p true (.v (.string a1)))]) rfl (List.cons_ne_nil _ _) rfl ?_
 refine s_assign (d := (sc (.int .i64 0))) rfl (AWops.nil (AW.seq (AW.region ?_)))
 refine s_fieldRef F.fo_25_2 (by decide) rfl ?_
 refine s_load1 (c' := (C.p false (.sl a0.Insts.length (a0.Insts.flatMap e_api_Inst)))) F.ag_22 rfl rfl ?_
 refine s_func (cs := [(C.ref 1 0)]) rfl ?_
 obtain ⟨r1, er1, h⟩ := bnd h
 refine s_call2 (ρ := [1]) (br := false) (H2 := [(some (AObj.cells true (c_api_Case a0))), (some (AObj.cells true [(C.p true (.v (.string r1.2)))]))]) (d := (sc (.int .i64 r1.1))) F.ca_42 rfl rfl (ac (.one .imm) (ac (.one (LendC.cloL (ac (.ref rfl) an))) an)) (ac (.cells (ac .sc an)) an) (by decide) rfl (slices_IndexFunc_api_Inst_api_Inst.meets _ a0.Insts a1 r1 er1) (.inl rfl) rfl rfl ?_
 refine s_assign (d := (sc (.int .i64 r1.1))) rfl (AWops.nil (AW.ret ?_))
 obtain rfl := Option.some.inj h
 exact ⟨_, rfl, (Weak.gen (kk := 0) [] [] rfl rfl (by decide) (by decide) rfl rfl rfl (le_upd (le_top _) (.t (.one .sc))) an)⟩
def slices_Clone_int_int.f (k : Nat) (a0 : List Int) : Option (List Int) := if (decide (([] : List Int).length + a0.length ≤ 17592186044416)) = true then (some a0) else none
theorem slices_Clone_int_int.meets (k : Nat) (a0 : List Int) (r : (List Int)) (h : slices_Clone_int_int.f k a0 = some r) : Meets Try.prog 44 [(D.one (C.p false (.sl a0.length (a0.flatMap e_i64))))] [] (D.one (C.own 0 0 r.length 1)) [(some (AObj.cells true (rowC e_i64 r)))] := by
 unfold slices_Clone_int_int.f at h
 refine Meets.of_body (n := 8) Try.func44 rfl rfl (nl rfl) fun x hx => ?_
 replace hx : x.k = 0 := hx
 show AW _ x _ _ ⟨8, fr0 [(D.one (C.p false (.sl a0.length (a0.flatMap e_i64))))], []⟩
 refine AW.seq (AW.region ?_)
 refine s_assign (d := (sc (.slice none 0 0))) rfl (AWops.nil (AW.seq (AW.seq (AW.region ?_))))
 refine s_move (d := (D.one (C.p false (.sl a0.length (a0.flatMap e_i64))))) rfl ?_
 refine s_eqNil (n := _) F.u_28 rfl (fun _ _ h => by cases h) rfl (.inl rfl) (fun b w => ?_)
 cases b with
 | false =>
  refine AWops.nil ?_
  refine AW.cond_no rfl rfl (AW.skip (AW.seq (AW.region ?_)))
  refine s_buildSlice (n := 0) (ps := []) (cs := rowC e_i64 ([] : List Int)) F.u_28 F.sz_3 F.z_3 rfl rfl (by decide) (by decide) rfl rfl ?_
  refine s_move (d := (D.one (C.p false (.sl a0.length (a0.flatMap e_i64))))) rfl ?_
  obtain ⟨c1, h⟩ := gdH h
  have dc1 := of_decide_eq_true c1
  refine t_append (xs := ([] : List Int)) (ys := a0) (zs := a0) (H' := [none, (some (AObj.cells true (rowC e_i64 a0)))]) F.u_28 F.in_3 rfl e_i64_len (.own rfl rfl) .imm F.u_28 (by omega) (by omega) rfl rfl ?_
  refine s_assign (d := (D.one (C.own 1 0 a0.length 1))) rfl (AWops.nil (AW.ret ?_))
  obtain rfl := Option.some.inj h
  exact ⟨_, rfl, (Weak.gen (kk := 0) [1] [] rfl rfl (by decide) (by decide) rfl rfl rfl (le_upd (le_top _) (.t (.one (.own rfl)))) (ac (.cells (fun h => h) (all2_row _)) an))⟩
 | true =>
  obtain rfl : a0 = [] := by cases a0 with | nil => rfl | cons _ _ => exact absurd (w (by simp)) (by decide)
  replace h : (some ([] : List Int)) = some r := by simpa [bytesI] using h
  skip
  refine AWops.nil ?_
  refine AW.cond_yes rfl rfl (AW.seq (AW.region ?_))
  refine s_assign (d := (sc (.slice none 0 0))) rfl (AWops.nil (AW.ret ?_))
  obtain rfl := Option.some.inj h
  exact ⟨_, rfl, (Weak.trans (Weak.nil (sz := 1) (i := 0) rfl) (Weak.gen (kk := 0) [0] [] rfl rfl (by decide) (by decide) rfl rfl rfl (le_upd (le_top _) (.t (.one (CLe.ownN rfl (by simp))))) (ac (.cells (fun h => h) an) an)))⟩
def tree_own.f (k : Nat) (a0 : api_Inst) : Option api_Inst := (slices_Clone_int_int.f k a0.Latches).bind fun r1 => some (⟨a0.Path, a0.Item, a0.State, a0.Before, r1, a0.Due⟩ : api_Inst)
theorem tree_own.meets (k : Nat) (a0 : api_Inst) (r : api_Inst) (h : tree_own.f k a0 = some r) : Meets Try.prog 22 [(D.agg (c_api_Inst a0))] [] (D.agg (c_api_Inst r)) [] := by
 unfold tree_own.f at h
 refine Meets.of_body (n := 8) Try.func22 rfl rfl (nl rfl) fun x hx => ?_
 replace hx : x.k = 0 := hx
 show AW _ x _ _ ⟨8, fr0 [(D.agg (c_api_Inst a0))], []⟩
 refine AW.seq (AW.region ?_)
 refine s_box (cs := (c_api_Inst a0)) rfl (List.cons_ne_nil _ _) rfl ?_
 refine s_alloc (cs := [(C.p true (.v (.string (⟨#[]⟩ : ByteArray)))), (C.p true (.v (.string (⟨#[]⟩ : ByteArray)))), (C.p true (.v (.int .i64 0))), (C.p true (.v (.int .i64 0))), (C.p true (.v (.slice none 0 0))), (C.p true (.v (.int .i64 0)))]) F.z_30 rfl rfl (AWops.nil (AW.seq (AW.region ?_)))
 refine s_fieldRef F.fo_30_4 (by decide) rfl ?_
 refine s_load1 (c' := (C.p false (.sl a0.Latches.length (a0.Latches.flatMap e_i64)))) F.ag_28 rfl rfl ?_
 obtain ⟨r1, er1, h⟩ := bnd h
 refine s_call2 (ρ := []) (br := false) (H2 := [(some (AObj.cells true (c_api_Inst a0))), (some (AObj.cells true [(C.p true (.v (.string (⟨#[]⟩ : ByteArray)))), (C.p true (.v (.string (⟨#[]⟩ : ByteArray)))), (C.p true (.v (.int .i64 0))), (C.p true (.v (.int .i64 0))), (C.p true (.v (.slice none 0 0))), (C.p true (.v (.int .i64 0)))])), (some (AObj.cells true (rowC e_i64 r1)))]) (d := (D.one (C.own 2 0 r1.length 1))) F.ca_44 rfl rfl (ac (.one .imm) an) an (by decide) rfl (slices_Clone_int_int.meets _ a0.Latches r1 er1) (.inl rfl) (by first | rfl | (simp only [mergeH2, orF, Bool.false_or, Bool.or_false, Bool.true_or, Bool.or_true, mergeAt, mergeObj, renO, ren_row, List.drop_succ_cons, List.drop_zero, List.map_cons, List.map_nil, Option.map_some, Option.map_none, List.length_cons, List.length_nil, Nat.zero_add, List.append_assoc, List.cons_append, List.nil_append]; done) | (simp only [mergeH2, orF, Bool.false_or, Bool.or_false, Bool.true_or, Bool.or_true, mergeAt, mergeObj, renO, ren_row, List.drop_succ_cons, List.drop_zero, List.map_cons, List.map_nil, Option.map_some, Option.map_none, List.length_cons, List.length_nil, Nat.zero_add, List.append_assoc, List.cons_append, List.nil_append]; rfl)) rfl ?_
 refine s_fieldRef F.fo_30_4 (by decide) rfl ?_
 refine s_store (cs' := [(C.p true (.v (.string a0.Path))), (C.p true (.v (.string a0.Item))), (C.p true (.v (.int .i64 a0.State))), (C.p true (.v (.int .i64 a0.Before))), (C.own 2 0 r1.length 1), (C.p true (.v (.int .i64 a0.Due)))]) rfl rfl rfl (List.cons_ne_nil _ _) rfl F.sz_28 (nl rfl) rfl (AWops.nil (AW.seq (AW.region ?_)))
 refine s_loadN (ds := [(C.p true (.v (.string a0.Path))), (C.p true (.v (.string a0.Item))), (C.p true (.v (.int .i64 a0.State))), (C.p true (.v (.int .i64 a0.Before))), (C.own 2 0 r1.length 1), (C.p true (.v (.int .i64 a0.Due)))]) F.ag_30 F.sz_30 rfl rfl rfl ?_
 refine s_store (cs' := [(C.p true (.v (.string a0.Path))), (C.p true (.v (.string a0.Item))), (C.p true (.v (.int .i64 a0.State))), (C.p true (.v (.int .i64 a0.Before))), (C.own 2 0 r1.length 1), (C.p true (.v (.int .i64 a0.Due)))]) rfl rfl rfl (List.cons_ne_nil _ _) rfl F.sz_30 (nl rfl) rfl (AWops.nil (AW.ret ?_))
 obtain rfl := Option.some.inj h
 exact ⟨_, rfl, (Weak.gen (kk := 0) [] [2] rfl rfl (by decide) (by decide) rfl rfl rfl (le_upd (le_top _) (.t (.agg (ac .sc (ac .sc (ac .sc (ac .sc (ac (CLe.frz e_i64_len rfl rfl rfl) (ac .sc an))))))))) an)⟩
def tree_Find.f (k : Nat) (a0 : api_Case) (a1 : ByteArray) : Option (api_Inst × Bool) := (tree_index.f k a0 a1).bind fun r1 => if (decide (r1 < 0)) = true then (some ((⟨(⟨#[]⟩ : ByteArray), (⟨#[]⟩ : ByteArray), 0, 0, ([] : List Int), 0⟩ : api_Inst), false)) else ((rd a0.Insts r1).bind fun v3 => (tree_own.f k v3).bind fun r4 => some (r4, true))
theorem tree_Find.meets (k : Nat) (a0 : api_Case) (a1 : ByteArray) (r : api_Inst × Bool) (h : tree_Find.f k a0 a1 = some r) : Meets Try.prog 6 [(D.agg (c_api_Case a0)), (sc (.string a1))] [] (D.tup [(D.agg (c_api_Inst r.1)), (sc (.bool r.2))]) [] := by
 unfold tree_Find.f at h
 refine Meets.of_body (n := 19) Try.func6 rfl rfl (nl rfl) fun x hx => ?_
 replace hx : x.k = 0 := hx
 show AW _ x _ _ ⟨19, fr0 [(D.agg (c_api_Case a0)), (sc (.string a1))], []⟩
 refine AW.seq (AW.region ?_)
 refine s_box (cs := (c_api_Case a0)) rfl (List.cons_ne_nil _ _) rfl ?_
 refine s_alloc (cs := [(C.p true (.v (.string (⟨#[]⟩ : ByteArray)))), (C.p true (.v (.string (⟨#[]⟩ : ByteArray)))), (C.p true (.v (.int .i64 0))), (C.p true (.v (.int .i64 0))), (C.p true (.v (.slice none 0 0))), (C.p true (.v (.int .i64 0)))]) F.z_30 rfl rfl ?_
 refine s_assign (d := (sc (.bool false))) rfl (AWops.nil (AW.seq (AW.region ?_)))
 refine s_loadN (ds := (c_api_Case a0)) F.ag_25 F.sz_25 rfl rfl rfl ?_
 refine s_move (d := (sc (.string a1))) rfl ?_
 obtain ⟨r1, er1, h⟩ := bnd h
 refine s_call2 (ρ := []) (br := false) (H2 := [(some (AObj.cells true (c_api_Case a0))), (some (AObj.cells true [(C.p true (.v (.string (⟨#[]⟩ : ByteArray)))), (C.p true (.v (.string (⟨#[]⟩ : ByteArray)))), (C.p true (.v (.int .i64 0))), (C.p true (.v (.int .i64 0))), (C.p true (.v (.slice none 0 0))), (C.p true (.v (.int .i64 0)))]))]) (d := (sc (.int .i64 r1))) F.ca_21 rfl rfl (ac (LendT.aggL (ac .sc (ac .sc (ac .imm (ac .imm (ac .sc an)))))) (ac (.one .sc) an)) an (by decide) rfl (tree_index.meets _ a0 a1 r1 er1) (.inl rfl) rfl rfl ?_
 refine s_assign (d := (sc (.int .i64 r1))) rfl (AWops.nil (AW.seq (AW.seq (AW.region ?_))))
 refine s_move (d := (sc (.int .i64 r1))) rfl ?_
 refine s_binI (v := (.bool (decide (r1 < 0)))) rfl rfl rfl (AWops.nil ?_)
 rcases itH h with ⟨c2, h⟩ | ⟨c2, h⟩
 ·refine AW.cond_yes rfl c2 (AW.seq (AW.region ?_))
  refine s_build (ps := []) (cs := [(C.p true (.v (.string (⟨#[]⟩ : ByteArray)))), (C.p true (.v (.string (⟨#[]⟩ : ByteArray)))), (C.p true (.v (.int .i64 0))), (C.p true (.v (.int .i64 0))), (C.p true (.v (.slice none 0 0))), (C.p true (.v (.int .i64 0)))]) F.z_30 rfl F.so_30 rfl rfl ?_
  refine s_store (cs' := [(C.p true (.v (.string (⟨#[]⟩ : ByteArray)))), (C.p true (.v (.string (⟨#[]⟩ : ByteArray)))), (C.p true (.v (.int .i64 0))), (C.p true (.v (.int .i64 0))), (C.p true (.v (.slice none 0 0))), (C.p true (.v (.int .i64 0)))]) rfl rfl rfl (List.cons_ne_nil _ _) rfl F.sz_30 (nl rfl) rfl ?_
  refine s_assign (d := (sc (.bool false))) rfl (AWops.nil (AW.ret ?_))
  obtain rfl := Option.some.inj h
  exact ⟨_, rfl, (Weak.gen (kk := 0) [] [] rfl rfl (by decide) (by decide) rfl rfl rfl (le_upd (le_top _) (DLe.tup (ac (TLe.agg (ac .sc (ac .sc (ac .sc (ac .sc (ac .nil (ac .sc an))))))) (ac (TLe.one .sc) an)))) an)⟩
 ·refine AW.cond_no rfl c2 (AW.skip (AW.seq (AW.region ?_)))
  refine s_fieldRef F.fo_25_2 (by decide) rfl ?_
  refine s_load1 (c' := (C.p false (.sl a0.Insts.length (a0.Insts.flatMap e_api_Inst)))) F.ag_22 rfl rfl ?_
  refine s_move (d := (sc (.int .i64 r1))) rfl ?_
  obtain ⟨v3, ev3, h⟩ := bnd h
  obtain ⟨pv3, qv3, gv3⟩ := rd_some ev3
  refine s_indexImm (ps := (p_api_Inst v3)) F.u_22 F.sz_30 rfl rfl pv3 qv3 (flat_at e_api_Inst_len gv3 (e_api_Inst_eq v3)) ?_
  refine s_loadN (ds := (c_api_Inst v3)) F.ag_30 F.sz_30 rfl rfl rfl ?_
  obtain ⟨r4, er4, h⟩ := bnd h
  refine s_call2 (ρ := []) (br := false) (H2 := [(some (AObj.cells true (c_api_Case a0))), (some (AObj.cells true [(C.p true (.v (.string (⟨#[]⟩ : ByteArray)))), (C.p true (.v (.string (⟨#[]⟩ : ByteArray)))), (C.p true (.v (.int .i64 0))), (C.p true (.v (.int .i64 0))), (C.p true (.v (.slice none 0 0))), (C.p true (.v (.int .i64 0)))]))]) (d := (D.agg (c_api_Inst r4))) F.ca_22 rfl rfl (ac (LendT.aggL (ac .sc (ac .sc (ac .sc (ac .sc (ac .imm (ac .sc an))))))) an) an (by decide) rfl (tree_own.meets _ v3 r4 er4) (.inl rfl) rfl rfl ?_
  refine s_store (cs' := (c_api_Inst r4)) rfl rfl rfl (List.cons_ne_nil _ _) rfl F.sz_30 (nl rfl) rfl ?_
  refine s_assign (d := (sc (.bool true))) rfl (AWops.nil (AW.ret ?_))
  obtain rfl := Option.some.inj h
  exact ⟨_, rfl, (Weak.gen (kk := 0) [] [] rfl rfl (by decide) (by decide) rfl rfl rfl (le_upd (le_top _) (DLe.tup (ac (TLe.agg (ac .sc (ac .sc (ac .sc (ac .sc (ac .same (ac .sc an))))))) (ac (TLe.one .sc) an)))) an)⟩
def dossierref18_CopyInst.f (k : Nat) (a0 : api_Inst) : Option api_Inst := if (decide (([] : List Int).length + a0.Latches.length ≤ 17592186044416)) = true then (some a0) else none
theorem dossierref18_CopyInst.meets (k : Nat) (a0 : api_Inst) (r : api_Inst) (h : dossierref18_CopyInst.f k a0 = some r) : Meets Try.prog 23 [(D.agg (c_api_Inst a0))] [] (D.agg (c_api_Inst r)) [] := by
 unfold dossierref18_CopyInst.f at h
 refine Meets.of_body (n := 9) Try.func23 rfl rfl (nl rfl) fun x hx => ?_
 replace hx : x.k = 0 := hx
 show AW _ x _ _ ⟨9, fr0 [(D.agg (c_api_Inst a0))], []⟩
 refine AW.seq (AW.region ?_)
 refine s_box (cs := (c_api_Inst a0)) rfl (List.cons_ne_nil _ _) rfl ?_
 refine s_alloc (cs := [(C.p true (.v (.string (⟨#[]⟩ : ByteArray)))), (C.p true (.v (.string (⟨#[]⟩ : ByteArray)))), (C.p true (.v (.int .i64 0))), (C.p true (.v (.int .i64 0))), (C.p true (.v (.slice none 0 0))), (C.p true (.v (.int .i64 0)))]) F.z_30 rfl rfl (AWops.nil (AW.seq (AW.region ?_)))
 refine s_buildSlice (n := 0) (ps := []) (cs := rowC e_i64 ([] : List Int)) F.u_28 F.sz_3 F.z_3 rfl rfl (by decide) (by decide) rfl rfl ?_
 refine s_fieldRef F.fo_30_4 (by decide) rfl ?_
 refine s_load1 (c' := (C.p false (.sl a0.Latches.length (a0.Latches.flatMap e_i64)))) F.ag_28 rfl rfl ?_
 obtain ⟨c1, h⟩ := gdH h
 have dc1 := of_decide_eq_true c1
 refine t_append (xs := ([] : List Int)) (ys := a0.Latches) (zs := a0.Latches) (H' := [(some (AObj.cells true (c_api_Inst a0))), (some (AObj.cells true [(C.p true (.v (.string (⟨#[]⟩ : ByteArray)))), (C.p true (.v (.string (⟨#[]⟩ : ByteArray)))), (C.p true (.v (.int .i64 0))), (C.p true (.v (.int .i64 0))), (C.p true (.v (.slice none 0 0))), (C.p true (.v (.int .i64 0)))])), none, (some (AObj.cells true (rowC e_i64 a0.Latches)))]) F.u_28 F.in_3 rfl e_i64_len (.own rfl rfl) .imm F.u_28 (by omega) (by omega) rfl rfl ?_
 refine s_fieldRef F.fo_30_4 (by decide) rfl ?_
 refine s_store (cs' := [(C.p true (.v (.string a0.Path))), (C.p true (.v (.string a0.Item))), (C.p true (.v (.int .i64 a0.State))), (C.p true (.v (.int .i64 a0.Before))), (C.own 3 0 a0.Latches.length 1), (C.p true (.v (.int .i64 a0.Due)))]) rfl rfl rfl (List.cons_ne_nil _ _) rfl F.sz_28 (nl rfl) rfl (AWops.nil (AW.seq (AW.region ?_)))
 refine s_loadN (ds := [(C.p true (.v (.string a0.Path))), (C.p true (.v (.string a0.Item))), (C.p true (.v (.int .i64 a0.State))), (C.p true (.v (.int .i64 a0.Before))), (C.own 3 0 a0.Latches.length 1), (C.p true (.v (.int .i64 a0.Due)))]) F.ag_30 F.sz_30 rfl rfl rfl ?_
 refine s_store (cs' := [(C.p true (.v (.string a0.Path))), (C.p true (.v (.string a0.Item))), (C.p true (.v (.int .i64 a0.State))), (C.p true (.v (.int .i64 a0.Before))), (C.own 3 0 a0.Latches.length 1), (C.p true (.v (.int .i64 a0.Due)))]) rfl rfl rfl (List.cons_ne_nil _ _) rfl F.sz_30 (nl rfl) rfl (AWops.nil (AW.ret ?_))
 obtain rfl := Option.some.inj h
 exact ⟨_, rfl, (Weak.gen (kk := 0) [] [3] rfl rfl (by decide) (by decide) rfl rfl rfl (le_upd (le_top _) (.t (.agg (ac .sc (ac .sc (ac .sc (ac .sc (ac (CLe.frz e_i64_len rfl rfl rfl) (ac .sc an))))))))) an)⟩
mutual
def dossierref18_Find.l0 : Nat → Int → api_Case → ByteArray → Option (api_Inst × Bool)
 | 0, _, _, _ => none
 | k + 1, x1, a0, a1 => if (decide (x1 < (a0.Insts.length : Int))) = true then ((rd a0.Insts x1).bind fun v3 => if (v3.Path.toList == a1.toList) = true then ((dossierref18_CopyInst.f k v3).bind fun r5 => some (r5, true)) else (dossierref18_Find.l0 k (IntKind.i64.wrap (x1 + 1)) a0 a1)) else (some ((⟨(⟨#[]⟩ : ByteArray), (⟨#[]⟩ : ByteArray), 0, 0, ([] : List Int), 0⟩ : api_Inst), false))
end
def dossierref18_Find.f (k : Nat) (a0 : api_Case) (a1 : ByteArray) : Option (api_Inst × Bool) := dossierref18_Find.l0 k 0 a0 a1
theorem dossierref18_Find.meets (k : Nat) (a0 : api_Case) (a1 : ByteArray) (r : api_Inst × Bool) (h : dossierref18_Find.f k a0 a1 = some r) : Meets Try.prog 7 [(D.agg (c_api_Case a0)), (sc (.string a1))] [] (D.tup [(D.agg (c_api_Inst r.1)), (sc (.bool r.2))]) [] := by
 unfold dossierref18_Find.f at h
 refine Meets.of_body (n := 23) Try.func7 rfl rfl (nl rfl) fun x hx => ?_
 replace hx : x.k = 0 := hx
 show AW _ x _ _ ⟨23, fr0 [(D.agg (c_api_Case a0)), (sc (.string a1))], []⟩
 refine AW.seq (AW.region ?_)
 refine s_box (cs := (c_api_Case a0)) rfl (List.cons_ne_nil _ _) rfl ?_
 refine s_alloc (cs := [(C.p true (.v (.string (⟨#[]⟩ : ByteArray)))), (C.p true (.v (.string (⟨#[]⟩ : ByteArray)))), (C.p true (.v (.int .i64 0))), (C.p true (.v (.int .i64 0))), (C.p true (.v (.slice none 0 0))), (C.p true (.v (.int .i64 0)))]) F.z_30 rfl rfl ?_
 refine s_assign (d := (sc (.bool false))) rfl (AWops.nil (AW.seq (AW.seq (AW.region ?_))))
 refine s_fieldRef F.fo_25_2 (by decide) rfl ?_
 refine s_load1 (c' := (C.p false (.sl a0.Insts.length (a0.Insts.flatMap e_api_Inst)))) F.ag_22 rfl rfl ?_
 refine s_len (n := a0.Insts.length) F.u_22 rfl (.inr ⟨(fun _ _ h => by cases h), ⟨_, rfl⟩⟩) ?_
 refine s_move (d := (sc (.int .i64 0))) rfl (AWops.nil (AW.block ?_))
 refine AW.loopw (st0 := ⟨23, (upd 23 (upd 23 (upd 23 (upd 23 (upd 23 topF 1 (sc (.string a1))) 4 (D.one (C.ref 0 0))) 9 (D.one (C.p false (.sl a0.Insts.length (a0.Insts.flatMap e_api_Inst))))) 10 (sc (.int .i64 (a0.Insts.length : Int)))) 11 (sc (.int .i64 0))), [(some (AObj.cells true [(C.p true (.v (.string (⟨#[]⟩ : ByteArray)))), (C.p true (.v (.string (⟨#[]⟩ : ByteArray)))), (C.p true (.v (.int .i64 0))), (C.p true (.v (.int .i64 0))), (C.p true (.v (.slice none 0 0))), (C.p true (.v (.int .i64 0)))]))]⟩) (fun kv st => kv ≤ k ∧ ∃ (x1 : Int), dossierref18_Find.l0 kv x1 a0 a1 = some r ∧ st = ⟨23, (upd 23 (upd 23 (upd 23 (upd 23 (upd 23 topF 1 (sc (.string a1))) 4 (D.one (C.ref 0 0))) 9 (D.one (C.p false (.sl a0.Insts.length (a0.Insts.flatMap e_api_Inst))))) 10 (sc (.int .i64 (a0.Insts.length : Int)))) 11 (sc (.int .i64 x1))), [(some (AObj.cells true [(C.p true (.v (.string (⟨#[]⟩ : ByteArray)))), (C.p true (.v (.string (⟨#[]⟩ : ByteArray)))), (C.p true (.v (.int .i64 0))), (C.p true (.v (.int .i64 0))), (C.p true (.v (.slice none 0 0))), (C.p true (.v (.int .i64 0)))]))]⟩) (k := k) (Weak.gen (kk := 0) [1] [] hx rfl (by decide) (by decide) rfl rfl rfl (le_upd (le_upd (le_upd (le_upd (le_upd (le_top _) (.t (.one .sc))) (.t (.one (.ref rfl)))) (.t (.one .same))) (.t (.one .sc))) (.t (.one .sc))) (ac (.cells (fun h => h) (ac .sc (ac .sc (ac .sc (ac .sc (ac .sc (ac .sc an))))))) an)) ⟨Nat.le_refl _, 0, h, rfl⟩ ?_
 rintro ql0 st ⟨hkl0, x1, h, rfl⟩
 cases ql0 with
 | zero => exact absurd h (by simp [dossierref18_Find.l0])
 | succ ql0 =>
  replace h := (dossierref18_Find.l0.eq_2 _ _ _ _).symm.trans h
  refine AW.seq (AW.region ?_)
  refine s_binI (v := (.bool (decide (x1 < (a0.Insts.length : Int))))) rfl rfl rfl (AWops.nil (AW.seq ?_))
  rcases itH h with ⟨c2, h⟩ | ⟨c2, h⟩
  ·refine AW.cond_yes rfl c2 (AW.skip (AW.seq (AW.block (AW.seq (AW.region ?_)))))
   obtain ⟨v3, ev3, h⟩ := bnd h
   obtain ⟨pv3, qv3, gv3⟩ := rd_some ev3
   refine s_indexImm (ps := (p_api_Inst v3)) F.u_22 F.sz_30 rfl rfl pv3 qv3 (flat_at e_api_Inst_len gv3 (e_api_Inst_eq v3)) ?_
   refine s_loadN (ds := (c_api_Inst v3)) F.ag_30 F.sz_30 rfl rfl rfl ?_
   refine s_alloc (cs := [(C.p true (.v (.string (⟨#[]⟩ : ByteArray)))), (C.p true (.v (.string (⟨#[]⟩ : ByteArray)))), (C.p true (.v (.int .i64 0))), (C.p true (.v (.int .i64 0))), (C.p true (.v (.slice none 0 0))), (C.p true (.v (.int .i64 0)))]) F.z_30 rfl rfl ?_
   refine s_store (cs' := (c_api_Inst v3)) rfl rfl rfl (List.cons_ne_nil _ _) rfl F.sz_30 (nl rfl) rfl (AWops.nil (AW.seq (AW.region ?_)))
   refine s_fieldRef F.fo_30_0 (by decide) rfl ?_
   refine s_load1 (c' := (C.p true (.v (.string v3.Path)))) F.ag_9 rfl rfl ?_
   refine s_move (d := (sc (.string a1))) rfl ?_
   refine s_binS (v := (.bool (v3.Path.toList == a1.toList))) rfl rfl rfl (AWops.nil ?_)
   rcases itH h with ⟨c4, h⟩ | ⟨c4, h⟩
   ·refine AW.cond_yes rfl c4 (AW.seq (AW.region ?_))
    refine s_loadN (ds := (c_api_Inst v3)) F.ag_30 F.sz_30 rfl rfl rfl ?_
    obtain ⟨r5, er5, h⟩ := bnd h
    refine s_call2 (ρ := []) (br := false) (H2 := [(some (AObj.cells true [(C.p true (.v (.string (⟨#[]⟩ : ByteArray)))), (C.p true (.v (.string (⟨#[]⟩ : ByteArray)))), (C.p true (.v (.int .i64 0))), (C.p true (.v (.int .i64 0))), (C.p true (.v (.slice none 0 0))), (C.p true (.v (.int .i64 0)))])), (some (AObj.cells true (c_api_Inst v3)))]) (d := (D.agg (c_api_Inst r5))) F.ca_23 rfl rfl (ac (LendT.aggL (ac .sc (ac .sc (ac .sc (ac .sc (ac .imm (ac .sc an))))))) an) an (by decide) rfl (dossierref18_CopyInst.meets _ v3 r5 er5) (.inl rfl) rfl rfl ?_
    refine s_store (cs' := (c_api_Inst r5)) rfl rfl rfl (List.cons_ne_nil _ _) rfl F.sz_30 (nl rfl) rfl ?_
    refine s_assign (d := (sc (.bool true))) rfl (AWops.nil (AW.ret ?_))
    obtain rfl := Option.some.inj h
    exact ⟨_, rfl, (Weak.gen (kk := 0) [] [] rfl rfl (by decide) (by decide) rfl rfl rfl (le_upd (le_top _) (DLe.tup (ac (TLe.agg (ac .sc (ac .sc (ac .sc (ac .sc (ac .same (ac .sc an))))))) (ac (TLe.one .sc) an)))) an)⟩
   ·refine AW.cond_no rfl c4 (AW.skip (AW.region ?_))
    refine s_binI (v := (.int .i64 (IntKind.i64.wrap (x1 + 1)))) rfl rfl rfl ?_
    refine s_move (d := (sc (.int .i64 (IntKind.i64.wrap (x1 + 1))))) rfl (AWops.nil ?_)
    exact ⟨_, ⟨23, (upd 23 (upd 23 (upd 23 (upd 23 (upd 23 topF 1 (sc (.string a1))) 4 (D.one (C.ref 0 0))) 9 (D.one (C.p false (.sl a0.Insts.length (a0.Insts.flatMap e_api_Inst))))) 10 (sc (.int .i64 (a0.Insts.length : Int)))) 11 (sc (.int .i64 (IntKind.i64.wrap (x1 + 1))))), [(some (AObj.cells true [(C.p true (.v (.string (⟨#[]⟩ : ByteArray)))), (C.p true (.v (.string (⟨#[]⟩ : ByteArray)))), (C.p true (.v (.int .i64 0))), (C.p true (.v (.int .i64 0))), (C.p true (.v (.slice none 0 0))), (C.p true (.v (.int .i64 0)))]))]⟩, by omega, (Weak.gen (kk := 0) [0] [] hx rfl (by decide) (by decide) rfl rfl rfl (le_upd (le_upd (le_upd (le_upd (le_upd (le_top _) (.t (.one .sc))) (.t (.one (.ref rfl)))) (.t (.one .same))) (.t (.one .sc))) (.t (.one .sc))) (ac (.cells (fun h => h) (ac .sc (ac .sc (ac .sc (ac .sc (ac .sc (ac .sc an))))))) an)), by omega, IntKind.i64.wrap (x1 + 1), h, rfl⟩
  ·refine AW.cond_no rfl c2 (AW.exit (AW.seq (AW.region ?_)))
   refine s_build (ps := []) (cs := [(C.p true (.v (.string (⟨#[]⟩ : ByteArray)))), (C.p true (.v (.string (⟨#[]⟩ : ByteArray)))), (C.p true (.v (.int .i64 0))), (C.p true (.v (.int .i64 0))), (C.p true (.v (.slice none 0 0))), (C.p true (.v (.int .i64 0)))]) F.z_30 rfl F.so_30 rfl rfl ?_
   refine s_store (cs' := [(C.p true (.v (.string (⟨#[]⟩ : ByteArray)))), (C.p true (.v (.string (⟨#[]⟩ : ByteArray)))), (C.p true (.v (.int .i64 0))), (C.p true (.v (.int .i64 0))), (C.p true (.v (.slice none 0 0))), (C.p true (.v (.int .i64 0)))]) rfl rfl rfl (List.cons_ne_nil _ _) rfl F.sz_30 (nl rfl) rfl ?_
   refine s_assign (d := (sc (.bool false))) rfl (AWops.nil (AW.ret ?_))
   obtain rfl := Option.some.inj h
   exact ⟨_, rfl, (Weak.gen (kk := 0) [] [] rfl rfl (by decide) (by decide) rfl rfl rfl (le_upd (le_top _) (DLe.tup (ac (TLe.agg (ac .sc (ac .sc (ac .sc (ac .sc (ac .nil (ac .sc an))))))) (ac (TLe.one .sc) an)))) an)⟩
mutual
def bytealg_LastIndexByteString.l0 : Nat → Int → ByteArray → Int → Option Int
 | 0, _, _, _ => none
 | k + 1, x1, a0, a1 => if (decide (x1 ≥ 0)) = true then ((bt a0 x1).bind fun v3 => if (v3 == a1) = true then (some x1) else (bytealg_LastIndexByteString.l0 k (IntKind.i64.wrap (x1 - 1)) a0 a1)) else (some (-1))
end
def bytealg_LastIndexByteString.f (k : Nat) (a0 : ByteArray) (a1 : Int) : Option Int := bytealg_LastIndexByteString.l0 k (IntKind.i64.wrap ((a0.size : Int) - 1)) a0 a1
theorem bytealg_LastIndexByteString.meets (k : Nat) (a0 : ByteArray) (a1 : Int) (r : Int) (h : bytealg_LastIndexByteString.f k a0 a1 = some r) : Meets Try.prog 50 [(sc (.string a0)), (sc (.int .u8 a1))] [] (sc (.int .i64 r)) [] := by
 unfold bytealg_LastIndexByteString.f at h
 refine Meets.of_body (n := 19) Try.func50 rfl rfl (nl rfl) fun x hx => ?_
 replace hx : x.k = 0 := hx
 show AW _ x _ _ ⟨19, fr0 [(sc (.string a0)), (sc (.int .u8 a1))], []⟩
 refine AW.seq (AW.region ?_)
 refine s_assign (d := (sc (.int .i64 0))) rfl (AWops.nil (AW.seq (AW.seq (AW.region ?_))))
 refine s_move (d := (sc (.string a0))) rfl ?_
 refine s_len (n := a0.size) F.u_9 rfl (.inl ⟨⟨_, _, rfl⟩, rfl⟩) ?_
 refine s_binI (v := (.int .i64 (IntKind.i64.wrap ((a0.size : Int) - 1)))) rfl rfl rfl ?_
 refine s_assign (d := (sc (.int .i64 (IntKind.i64.wrap ((a0.size : Int) - 1))))) rfl (AWops.nil (AW.block ?_))
 refine AW.loopw (st0 := ⟨19, (upd 19 (upd 19 (upd 19 topF 0 (sc (.string a0))) 1 (sc (.int .u8 a1))) 5 (sc (.int .i64 (IntKind.i64.wrap ((a0.size : Int) - 1))))), []⟩) (fun kv st => kv ≤ k ∧ ∃ (x1 : Int), bytealg_LastIndexByteString.l0 kv x1 a0 a1 = some r ∧ st = ⟨19, (upd 19 (upd 19 (upd 19 topF 0 (sc (.string a0))) 1 (sc (.int .u8 a1))) 5 (sc (.int .i64 x1))), []⟩) (k := k) (Weak.gen (kk := 0) [] [] hx rfl (by decide) (by decide) rfl rfl rfl (le_upd (le_upd (le_upd (le_top _) (.t (.one .sc))) (.t (.one .sc))) (.t (.one .sc))) an) ⟨Nat.le_refl _, IntKind.i64.wrap ((a0.size : Int) - 1), h, rfl⟩ ?_
 rintro ql0 st ⟨hkl0, x1, h, rfl⟩
 cases ql0 with
 | zero => exact absurd h (by simp [bytealg_LastIndexByteString.l0])
 | succ ql0 =>
  replace h := (bytealg_LastIndexByteString.l0.eq_2 _ _ _ _).symm.trans h
  refine AW.seq (AW.seq (AW.region ?_))
  refine s_move (d := (sc (.int .i64 x1))) rfl ?_
  refine s_binI (v := (.bool (decide (x1 ≥ 0)))) rfl rfl rfl (AWops.nil ?_)
  rcases itH h with ⟨c2, h⟩ | ⟨c2, h⟩
  ·refine AW.cond_yes rfl c2 (AW.skip (AW.seq (AW.block (AW.seq (AW.region ?_)))))
   refine s_move (d := (sc (.string a0))) rfl ?_
   refine s_move (d := (sc (.int .i64 x1))) rfl ?_
   obtain ⟨v3, ev3, h⟩ := bnd h
   obtain ⟨pv3, bv3, gv3, rfl⟩ := bt_some ev3
   refine s_indexStr F.u_9 rfl rfl pv3 gv3 ?_
   generalize hzv3 : ((bv3.toNat : Nat) : Int) = v3 at *
   refine s_move (d := (sc (.int .u8 a1))) rfl ?_
   refine s_binI (v := (.bool (v3 == a1))) rfl rfl rfl (AWops.nil ?_)
   rcases itH h with ⟨c4, h⟩ | ⟨c4, h⟩
   ·refine AW.cond_yes rfl c4 (AW.seq (AW.region ?_))
    refine s_move (d := (sc (.int .i64 x1))) rfl ?_
    refine s_assign (d := (sc (.int .i64 x1))) rfl (AWops.nil (AW.ret ?_))
    obtain rfl := Option.some.inj h
    exact ⟨_, rfl, (Weak.gen (kk := 0) [] [] rfl rfl (by decide) (by decide) rfl rfl rfl (le_upd (le_top _) (.t (.one .sc))) an)⟩
   ·refine AW.cond_no rfl c4 (AW.skip (AW.region ?_))
    refine s_move (d := (sc (.int .i64 x1))) rfl ?_
    refine s_binI (v := (.int .i64 (IntKind.i64.wrap (x1 - 1)))) rfl rfl rfl ?_
    refine s_assign (d := (sc (.int .i64 (IntKind.i64.wrap (x1 - 1))))) rfl (AWops.nil ?_)
    exact ⟨_, ⟨19, (upd 19 (upd 19 (upd 19 topF 0 (sc (.string a0))) 1 (sc (.int .u8 a1))) 5 (sc (.int .i64 (IntKind.i64.wrap (x1 - 1))))), []⟩, by omega, (Weak.gen (kk := 0) [] [] hx rfl (by decide) (by decide) rfl rfl rfl (le_upd (le_upd (le_upd (le_top _) (.t (.one .sc))) (.t (.one .sc))) (.t (.one .sc))) an), by omega, IntKind.i64.wrap (x1 - 1), h, rfl⟩
  ·refine AW.cond_no rfl c2 (AW.exit (AW.seq (AW.region ?_)))
   refine s_assign (d := (sc (.int .i64 (-1)))) rfl (AWops.nil (AW.ret ?_))
   obtain rfl := Option.some.inj h
   exact ⟨_, rfl, (Weak.gen (kk := 0) [] [] rfl rfl (by decide) (by decide) rfl rfl rfl (le_upd (le_top _) (.t (.one .sc))) an)⟩
def strings_LastIndexByte.f (k : Nat) (a0 : ByteArray) (a1 : Int) : Option Int := (bytealg_LastIndexByteString.f k a0 a1).bind fun r1 => some r1
theorem strings_LastIndexByte.meets (k : Nat) (a0 : ByteArray) (a1 : Int) (r : Int) (h : strings_LastIndexByte.f k a0 a1 = some r) : Meets Try.prog 41 [(sc (.string a0)), (sc (.int .u8 a1))] [] (sc (.int .i64 r)) [] := by
 unfold strings_LastIndexByte.f at h
 refine Meets.of_body (n := 8) Try.func41 rfl rfl (nl rfl) fun x hx => ?_
 replace hx : x.k = 0 := hx
 show AW _ x _ _ ⟨8, fr0 [(sc (.string a0)), (sc (.int .u8 a1))], []⟩
 refine AW.seq (AW.region ?_)
 refine s_assign (d := (sc (.int .i64 0))) rfl (AWops.nil (AW.seq (AW.region ?_)))
 refine s_move (d := (sc (.string a0))) rfl ?_
 refine s_move (d := (sc (.int .u8 a1))) rfl ?_
 obtain ⟨r1, er1, h⟩ := bnd h
 refine s_call2 (ρ := []) (br := false) (H2 := []) (d := (sc (.int .i64 r1))) F.ca_50 rfl rfl (ac (.one .sc) (ac (.one .sc) an)) an (by decide) rfl (bytealg_LastIndexByteString.meets _ a0 a1 r1 er1) (.inl rfl) rfl rfl ?_
 refine s_assign (d := (sc (.int .i64 r1))) rfl (AWops.nil (AW.ret ?_))
 obtain rfl := Option.some.inj h
 exact ⟨_, rfl, (Weak.gen (kk := 0) [] [] rfl rfl (by decide) (by decide) rfl rfl rfl (le_upd (le_top _) (.t (.one .sc))) an)⟩
def tree_Up.f (k : Nat) (a0 : ByteArray) : Option ByteArray := (strings_LastIndexByte.f k a0 47).bind fun r1 => if (decide (0 ≤ 0 ∧ 0 ≤ (if r1 > 0 then r1 else 0) ∧ (if r1 > 0 then r1 else 0) ≤ (a0.size : Int))) = true then (some (a0.extract 0 (if r1 > 0 then r1 else 0).toNat)) else none
theorem tree_Up.meets (k : Nat) (a0 : ByteArray) (r : ByteArray) (h : tree_Up.f k a0 = some r) : Meets Try.prog 20 [(sc (.string a0))] [] (sc (.string r)) [] := by
 unfold tree_Up.f at h
 refine Meets.of_body (n := 8) Try.func20 rfl rfl (nl rfl) fun x hx => ?_
 replace hx : x.k = 0 := hx
 show AW _ x _ _ ⟨8, fr0 [(sc (.string a0))], []⟩
 refine AW.seq (AW.region ?_)
 refine s_assign (d := (sc (.string (⟨#[]⟩ : ByteArray)))) rfl (AWops.nil (AW.seq (AW.region ?_)))
 refine s_move (d := (sc (.string a0))) rfl ?_
 refine s_move (d := (sc (.string a0))) rfl ?_
 obtain ⟨r1, er1, h⟩ := bnd h
 refine s_call2 (ρ := []) (br := false) (H2 := []) (d := (sc (.int .i64 r1))) F.ca_41 rfl rfl (ac (.one .sc) (ac (.one .sc) an)) an (by decide) rfl (strings_LastIndexByte.meets _ a0 47 r1 er1) (.inl rfl) rfl rfl ?_
 refine s_max2 (r := (if r1 > 0 then r1 else 0)) rfl rfl rfl ?_
 obtain ⟨c2, h⟩ := gdH h
 have dc2 := of_decide_eq_true c2
 refine s_sliceStr F.u_9 rfl .no (.yes rfl (by omega) rfl) (by omega) (by omega) ?_
 refine s_assign (d := (sc (.string (a0.extract 0 (if r1 > 0 then r1 else 0).toNat)))) rfl (AWops.nil (AW.ret ?_))
 obtain rfl := Option.some.inj h
 exact ⟨_, rfl, (Weak.gen (kk := 0) [] [] rfl rfl (by decide) (by decide) rfl rfl rfl (le_upd (le_top _) (.t (.one .sc))) an)⟩
def tree_Kids_1.f (k : Nat) (a0 : ByteArray) (p0 : ByteArray) : Option (Bool × ByteArray) := (tree_Up.f k a0).bind fun r1 => some ((r1.toList == p0.toList), p0)
theorem tree_Kids_1.meets (k : Nat) (a0 : ByteArray) (p0 : ByteArray) (r : Bool × ByteArray) (h : tree_Kids_1.f k a0 p0 = some r) : Meets Try.prog 26 [(sc (.string a0)), (D.one (C.ref 0 0))] [(some (AObj.cells false [(C.p true (.v (.string p0)))]))] (sc (.bool r.1)) [(some (AObj.cells false [(C.p true (.v (.string r.2)))]))] := by
 unfold tree_Kids_1.f at h
 refine Meets.of_body (n := 8) Try.func26 rfl rfl (nl rfl) fun x hx => ?_
 replace hx : x.k = 1 := hx
 show AW _ x _ _ ⟨8, fr0 [(sc (.string a0)), (D.one (C.ref 0 0))], [(some (AObj.cells false [(C.p true (.v (.string p0)))]))]⟩
 refine AW.seq (AW.region ?_)
 refine s_assign (d := (sc (.bool false))) rfl (AWops.nil (AW.seq ?_))
 refine AW.weak (st' := ⟨8, (upd 8 (upd 8 (upd 8 topF 0 (sc (.string a0))) 1 (D.one (C.ref 0 0))) 3 (sc (.bool false))), [(some (AObj.cells false [(C.p true (.v (.string p0)))]))]⟩) (Weak.gen (kk := 1) [0] [] hx rfl (by decide) (by decide) rfl rfl rfl (le_upd (le_upd (le_upd (le_top _) (.t (.one .sc))) (.t (.one (.ref rfl)))) (.t (.one .sc))) (ac (.cells (fun h => h) (ac .sc an)) an)) ?_
 obtain ⟨r1, er1, h⟩ := bnd h
 refine AW.draw (n := 8) (L := 2) [(0, ⟨some 4, (sc (.string a0)), [(0, (sc (.string a0)))], [], [], none⟩), (1, ⟨some 5, (sc (.string r1)), [(4, (sc (.string a0)))], [], [], none⟩), (2, ⟨some 6, (sc (.string p0)), [(1, (D.one (C.ref 0 0)))], [(0, (some (AObj.cells false [(C.p true (.v (.string p0)))])))], [], none⟩), (3, ⟨some 7, (sc (.bool (r1.toList == p0.toList))), [(5, (sc (.string r1))), (6, (sc (.string p0)))], [], [], none⟩), (4, ⟨some 3, (sc (.bool (r1.toList == p0.toList))), [(7, (sc (.bool (r1.toList == p0.toList))))], [], [], none⟩)] [[], [0], [], [0, 1, 2], [0, 1, 2, 3]] (nl rfl) [0, 1, 0, 2, 3] rfl (TK := []) rfl AllK.nil' (fC ⟨(sC rfl AllS.nil'), AllH.nil'⟩ (fC ⟨(sC rfl AllS.nil'), AllH.nil'⟩ (fC ⟨(sC rfl AllS.nil'), (hC rfl AllH.nil')⟩ (fC ⟨(sC rfl (sC rfl AllS.nil')), AllH.nil'⟩ (fC ⟨(sC rfl AllS.nil'), AllH.nil'⟩ AllF.nil'))))) ?_ ?_
 ·refine (pC ?_ (pC ?_ (pC ?_ (pC ?_ (pC ?_ AllStep.nil')))))
  ·intro K rest fr hv htk k
   show AWops _ x _ _ K ⟨8, (upd 8 fr 0 (sc (.string a0))), _⟩
   refine s_move (d := (sc (.string a0))) rfl k
  ·intro K rest fr hv htk k
   show AWops _ x _ _ K ⟨8, (upd 8 fr 4 (sc (.string a0))), [(hv 0), (hv 1)]⟩
   refine s_call2 (ρ := []) (br := false) (H2 := [(hv 0), (hv 1)]) (d := (sc (.string r1))) F.ca_20 rfl rfl (ac (.one .sc) an) an (by decide) rfl (tree_Up.meets _ a0 r1 er1) (.inl rfl) rfl rfl k
  ·intro K rest fr hv htk k
   show AWops _ x _ _ K ⟨8, (upd 8 fr 1 (D.one (C.ref 0 0))), [(some (AObj.cells false [(C.p true (.v (.string p0)))])), (hv 1)]⟩
   refine s_load1 (c' := (C.p true (.v (.string p0)))) F.ag_9 rfl rfl k
  ·intro K rest fr hv htk k
   show AWops _ x _ _ K ⟨8, (upd 8 (upd 8 fr 6 (sc (.string p0))) 5 (sc (.string r1))), [(hv 0), (hv 1)]⟩
   refine s_binS (v := (.bool (r1.toList == p0.toList))) rfl rfl rfl k
  ·intro K rest fr hv htk k
   show AWops _ x _ _ K ⟨8, (upd 8 fr 7 (sc (.bool (r1.toList == p0.toList)))), _⟩
   refine s_assign (d := (sc (.bool (r1.toList == p0.toList)))) rfl k
 ·refine AWops.weak (st' := ⟨8, (upd 8 topF 3 (sc (.bool (r1.toList == p0.toList)))), [(some (AObj.cells false [(C.p true (.v (.string p0)))]))]⟩) (Weak.gen (kk := 1) [0] [] hx rfl (by decide) (by decide) rfl rfl rfl (le_upd (le_top _) (.t (.one .sc))) (ac (.cells (fun h => h) (ac .sc an)) an)) (AWops.nil (AW.ret ?_))
  obtain rfl := Option.some.inj h
  exact ⟨_, rfl, (Weak.gen (kk := 1) [0] [] rfl rfl (by decide) (by decide) rfl rfl rfl (le_upd (le_top _) (.t (.one .sc))) (ac (.cells (fun h => h) (ac .sc an)) an))⟩
mutual
def tree_some.l0 : Nat → ByteArray → (List api_Inst) → Int → api_Case → Option ((List api_Inst) × ByteArray)
 | 0, _, _, _, _ => none
 | k + 1, x1, x2, x3, a0 => if (decide (x3 < (a0.Insts.length : Int))) = true then ((rd a0.Insts x3).bind fun v5 => (tree_Kids_1.f k v5.Path x1).bind fun r6 => if r6.1 = true then ((tree_own.f k v5).bind fun r8 => if (decide (x2.length + ([r8] : List api_Inst).length ≤ 1759218604441)) = true then (tree_some.l0 k r6.2 (x2 ++ ([r8] : List api_Inst)) (IntKind.i64.wrap (x3 + 1)) a0) else none) else (tree_some.l0 k r6.2 x2 (IntKind.i64.wrap (x3 + 1)) a0)) else (some (x2, x1))
end
def tree_some.f (k : Nat) (a0 : api_Case) (p0 : ByteArray) : Option ((List api_Inst) × ByteArray) := tree_some.l0 k p0 ([] : List api_Inst) 0 a0
theorem tree_some.meets (k : Nat) (a0 : api_Case) (p0 : ByteArray) (r : (List api_Inst) × ByteArray) (h : tree_some.f k a0 p0 = some r) : Meets Try.prog 25 [(D.agg (c_api_Case a0)), (D.one (C.clo 26 [(C.ref 0 0)]))] [(some (AObj.cells false [(C.p true (.v (.string p0)))]))] (D.one (C.own 1 0 r.1.length 6)) [(some (AObj.cells false [(C.p true (.v (.string r.2)))])), (some (AObj.cells true (rowC e_api_Inst r.1)))] := by
 unfold tree_some.f at h
 refine Meets.of_body (n := 26) Try.func25 rfl rfl (nl rfl) fun x hx => ?_
 replace hx : x.k = 1 := hx
 show AW _ x _ _ ⟨26, fr0 [(D.agg (c_api_Case a0)), (D.one (C.clo 26 [(C.ref 0 0)]))], [(some (AObj.cells false [(C.p true (.v (.string p0)))]))]⟩
 refine AW.seq (AW.region ?_)
 refine s_box (cs := (c_api_Case a0)) rfl (List.cons_ne_nil _ _) rfl ?_
 refine s_assign (d := (sc (.slice none 0 0))) rfl (AWops.nil (AW.seq (AW.region ?_)))
 refine s_assign (d := (sc (.slice none 0 0))) rfl (AWops.nil (AW.seq (AW.seq (AW.region ?_))))
 refine s_fieldRef F.fo_25_2 (by decide) rfl ?_
 refine s_load1 (c' := (C.p false (.sl a0.Insts.length (a0.Insts.flatMap e_api_Inst)))) F.ag_22 rfl rfl ?_
 refine s_len (n := a0.Insts.length) F.u_22 rfl (.inr ⟨(fun _ _ h => by cases h), ⟨_, rfl⟩⟩) ?_
 refine s_move (d := (sc (.int .i64 0))) rfl (AWops.nil (AW.block ?_))
 refine AW.loopw (st0 := ⟨26, (upd 26 (upd 26 (upd 26 (upd 26 (upd 26 topF 1 (D.one (C.clo 26 [(C.ref 0 0)]))) 5 (D.one (C.own 1 0 ([] : List api_Inst).length 6))) 9 (D.one (C.p false (.sl a0.Insts.length (a0.Insts.flatMap e_api_Inst))))) 10 (sc (.int .i64 (a0.Insts.length : Int)))) 11 (sc (.int .i64 0))), [(some (AObj.cells false [(C.p true (.v (.string p0)))])), (some (AObj.cells true (rowC e_api_Inst ([] : List api_Inst))))]⟩) (fun kv st => kv ≤ k ∧ ∃ (x1 : ByteArray) (x2 : List api_Inst) (x3 : Int), tree_some.l0 kv x1 x2 x3 a0 = some r ∧ st = ⟨26, (upd 26 (upd 26 (upd 26 (upd 26 (upd 26 topF 1 (D.one (C.clo 26 [(C.ref 0 0)]))) 5 (D.one (C.own 1 0 x2.length 6))) 9 (D.one (C.p false (.sl a0.Insts.length (a0.Insts.flatMap e_api_Inst))))) 10 (sc (.int .i64 (a0.Insts.length : Int)))) 11 (sc (.int .i64 x3))), [(some (AObj.cells false [(C.p true (.v (.string x1)))])), (some (AObj.cells true (rowC e_api_Inst x2)))]⟩) (k := k) (Weak.trans (Weak.nil (sz := 6) (i := 5) rfl) (Weak.gen (kk := 1) [0, 2] [] hx rfl (by decide) (by decide) rfl rfl rfl (le_upd (le_upd (le_upd (le_upd (le_upd (le_top _) (.t (.one (CLe.cloL (ac (.ref rfl) an))))) (.t (.one (.own rfl)))) (.t (.one .same))) (.t (.one .sc))) (.t (.one .sc))) (ac (.cells (fun h => h) (ac .sc an)) (ac (.cells (fun h => h) an) an)))) ⟨Nat.le_refl _, p0, ([] : List api_Inst), 0, h, rfl⟩ ?_
 rintro ql0 st ⟨hkl0, x1, x2, x3, h, rfl⟩
 cases ql0 with
 | zero => exact absurd h (by simp [tree_some.l0])
 | succ ql0 =>
  replace h := (tree_some.l0.eq_2 _ _ _ _ _).symm.trans h
  refine AW.seq (AW.region ?_)
  refine s_binI (v := (.bool (decide (x3 < (a0.Insts.length : Int))))) rfl rfl rfl (AWops.nil (AW.seq ?_))
  rcases itH h with ⟨c4, h⟩ | ⟨c4, h⟩
  ·refine AW.cond_yes rfl c4 (AW.skip (AW.seq (AW.block (AW.seq (AW.region ?_)))))
   obtain ⟨v5, ev5, h⟩ := bnd h
   obtain ⟨pv5, qv5, gv5⟩ := rd_some ev5
   refine s_indexImm (ps := (p_api_Inst v5)) F.u_22 F.sz_30 rfl rfl pv5 qv5 (flat_at e_api_Inst_len gv5 (e_api_Inst_eq v5)) ?_
   refine s_loadN (ds := (c_api_Inst v5)) F.ag_30 F.sz_30 rfl rfl rfl ?_
   refine s_alloc (cs := [(C.p true (.v (.string (⟨#[]⟩ : ByteArray)))), (C.p true (.v (.string (⟨#[]⟩ : ByteArray)))), (C.p true (.v (.int .i64 0))), (C.p true (.v (.int .i64 0))), (C.p true (.v (.slice none 0 0))), (C.p true (.v (.int .i64 0)))]) F.z_30 rfl rfl ?_
   refine s_store (cs' := (c_api_Inst v5)) rfl rfl rfl (List.cons_ne_nil _ _) rfl F.sz_30 (nl rfl) rfl (AWops.nil (AW.seq (AW.region ?_)))
   refine s_move (d := (D.one (C.clo 26 [(C.ref 0 0)]))) rfl ?_
   refine s_fieldRef F.fo_30_0 (by decide) rfl ?_
   refine s_load1 (c' := (C.p true (.v (.string v5.Path)))) F.ag_9 rfl rfl ?_
   obtain ⟨r6, er6, h⟩ := bnd h
   refine s_call2 (ρ := [0]) (br := false) (H2 := [(some (AObj.cells false [(C.p true (.v (.string r6.2)))])), (some (AObj.cells true (rowC e_api_Inst x2))), (some (AObj.cells true (c_api_Inst v5)))]) (d := (sc (.bool r6.1))) F.ca_26 rfl rfl (ac (.one .sc) (ac (.one (.ref rfl)) an)) (ac (.cells (ac .sc an)) an) (by decide) rfl (tree_Kids_1.meets _ v5.Path x1 r6 er6) (.inl rfl) rfl rfl (AWops.nil ?_)
   rcases itH h with ⟨c7, h⟩ | ⟨c7, h⟩
   ·refine AW.cond_yes rfl c7 (AW.region ?_)
    refine s_move (d := (D.one (C.own 1 0 x2.length 6))) rfl ?_
    refine s_loadN (ds := (c_api_Inst v5)) F.ag_30 F.sz_30 rfl rfl rfl ?_
    obtain ⟨r8, er8, h⟩ := bnd h
    refine s_call2 (ρ := []) (br := false) (H2 := [(some (AObj.cells false [(C.p true (.v (.string r6.2)))])), (some (AObj.cells true (rowC e_api_Inst x2))), (some (AObj.cells true (c_api_Inst v5)))]) (d := (D.agg (c_api_Inst r8))) F.ca_22 rfl rfl (ac (LendT.aggL (ac .sc (ac .sc (ac .sc (ac .sc (ac .imm (ac .sc an))))))) an) an (by decide) rfl (tree_own.meets _ v5 r8 er8) (.inl rfl) rfl rfl ?_
    refine s_buildSlice (n := 1) (ps := [(0, (D.agg (c_api_Inst r8)))]) (cs := rowC e_api_Inst ([r8] : List api_Inst)) F.u_22 F.sz_30 F.z_30 rfl rfl (by decide) (by decide) rfl rfl ?_
    obtain ⟨c9, h⟩ := gdH h
    have dc9 := of_decide_eq_true c9
    refine t_append (xs := x2) (ys := ([r8] : List api_Inst)) (zs := x2 ++ ([r8] : List api_Inst)) (H' := [(some (AObj.cells false [(C.p true (.v (.string r6.2)))])), none, (some (AObj.cells true (c_api_Inst v5))), (some (AObj.cells true (rowC e_api_Inst ([r8] : List api_Inst)))), (some (AObj.cells true (rowC e_api_Inst (x2 ++ ([r8] : List api_Inst)))))]) F.u_22 F.in_30 rfl e_api_Inst_len (.own rfl rfl) (.own rfl rfl) F.u_22 (by omega) (by omega) rfl rfl ?_
    refine s_assign (d := (D.one (C.own 4 0 ((x2 ++ ([r8] : List api_Inst)).length) 6))) rfl (AWops.nil (AW.region ?_))
    refine s_binI (v := (.int .i64 (IntKind.i64.wrap (x3 + 1)))) rfl rfl rfl ?_
    refine s_move (d := (sc (.int .i64 (IntKind.i64.wrap (x3 + 1))))) rfl (AWops.nil ?_)
    exact ⟨_, ⟨26, (upd 26 (upd 26 (upd 26 (upd 26 (upd 26 topF 1 (D.one (C.clo 26 [(C.ref 0 0)]))) 5 (D.one (C.own 1 0 (x2 ++ ([r8] : List api_Inst)).length 6))) 9 (D.one (C.p false (.sl a0.Insts.length (a0.Insts.flatMap e_api_Inst))))) 10 (sc (.int .i64 (a0.Insts.length : Int)))) 11 (sc (.int .i64 (IntKind.i64.wrap (x3 + 1))))), [(some (AObj.cells false [(C.p true (.v (.string r6.2)))])), (some (AObj.cells true (rowC e_api_Inst (x2 ++ ([r8] : List api_Inst)))))]⟩, by omega, (Weak.gen (kk := 1) [0, 4] [] hx rfl (by decide) (by decide) rfl rfl rfl (le_upd (le_upd (le_upd (le_upd (le_upd (le_top _) (.t (.one (CLe.cloL (ac (.ref rfl) an))))) (.t (.one (.own rfl)))) (.t (.one .same))) (.t (.one .sc))) (.t (.one .sc))) (ac (.cells (fun h => h) (ac .sc an)) (ac (.cells (fun h => h) (all2_row _)) an))), by omega, r6.2, x2 ++ ([r8] : List api_Inst), IntKind.i64.wrap (x3 + 1), h, rfl⟩
   ·refine AW.cond_no rfl c7 (AW.skip (AW.region ?_))
    refine s_binI (v := (.int .i64 (IntKind.i64.wrap (x3 + 1)))) rfl rfl rfl ?_
    refine s_move (d := (sc (.int .i64 (IntKind.i64.wrap (x3 + 1))))) rfl (AWops.nil ?_)
    exact ⟨_, ⟨26, (upd 26 (upd 26 (upd 26 (upd 26 (upd 26 topF 1 (D.one (C.clo 26 [(C.ref 0 0)]))) 5 (D.one (C.own 1 0 x2.length 6))) 9 (D.one (C.p false (.sl a0.Insts.length (a0.Insts.flatMap e_api_Inst))))) 10 (sc (.int .i64 (a0.Insts.length : Int)))) 11 (sc (.int .i64 (IntKind.i64.wrap (x3 + 1))))), [(some (AObj.cells false [(C.p true (.v (.string r6.2)))])), (some (AObj.cells true (rowC e_api_Inst x2)))]⟩, by omega, (Weak.gen (kk := 1) [0, 1] [] hx rfl (by decide) (by decide) rfl rfl rfl (le_upd (le_upd (le_upd (le_upd (le_upd (le_top _) (.t (.one (CLe.cloL (ac (.ref rfl) an))))) (.t (.one (.own rfl)))) (.t (.one .same))) (.t (.one .sc))) (.t (.one .sc))) (ac (.cells (fun h => h) (ac .sc an)) (ac (.cells (fun h => h) (all2_row _)) an))), by omega, r6.2, x2, IntKind.i64.wrap (x3 + 1), h, rfl⟩
  ·refine AW.cond_no rfl c4 (AW.exit (AW.seq (AW.region ?_)))
   refine s_move (d := (D.one (C.own 1 0 x2.length 6))) rfl ?_
   refine s_assign (d := (D.one (C.own 1 0 x2.length 6))) rfl (AWops.nil (AW.ret ?_))
   obtain rfl := Option.some.inj h
   exact ⟨_, rfl, (Weak.gen (kk := 1) [0, 1] [] rfl rfl (by decide) (by decide) rfl rfl rfl (le_upd (le_top _) (.t (.one (.own rfl)))) (ac (.cells (fun h => h) (ac .sc an)) (ac (.cells (fun h => h) (all2_row _)) an)))⟩
def tree_Kids.f (k : Nat) (a0 : api_Case) (a1 : ByteArray) : Option (List api_Inst) := (tree_some.f k a0 a1).bind fun r1 => some r1.1
theorem tree_Kids.meets (k : Nat) (a0 : api_Case) (a1 : ByteArray) (r : (List api_Inst)) (h : tree_Kids.f k a0 a1 = some r) : Meets Try.prog 9 [(D.agg (c_api_Case a0)), (sc (.string a1))] [] (D.one (C.own 0 0 r.length 6)) [(some (AObj.cells true (rowC e_api_Inst r)))] := by
 unfold tree_Kids.f at h
 refine Meets.of_body (n := 8) Try.func9 rfl rfl (nl rfl) fun x hx => ?_
 replace hx : x.k = 0 := hx
 show AW _ x _ _ ⟨8, fr0 [(D.agg (c_api_Case a0)), (sc (.string a1))], []⟩
 refine AW.seq (AW.region ?_)
 refine s_box (cs := (c_api_Case a0)) rfl (List.cons_ne_nil _ _) rfl ?_
 refine s_box (cs := [(C.p true (.v (.string a1)))]) rfl (List.cons_ne_nil _ _) rfl ?_
 refine s_assign (d := (sc (.slice none 0 0))) rfl (AWops.nil (AW.seq (AW.region ?_)))
 refine s_loadN (ds := (c_api_Case a0)) F.ag_25 F.sz_25 rfl rfl rfl ?_
 refine s_func (cs := [(C.ref 1 0)]) rfl ?_
 obtain ⟨r1, er1, h⟩ := bnd h
 refine s_call2 (ρ := [1]) (br := false) (H2 := [(some (AObj.cells true (c_api_Case a0))), (some (AObj.cells true [(C.p true (.v (.string r1.2)))])), (some (AObj.cells true (rowC e_api_Inst r1.1)))]) (d := (D.one (C.own 2 0 r1.1.length 6))) F.ca_25 rfl rfl (ac (LendT.aggL (ac .sc (ac .sc (ac .imm (ac .imm (ac .sc an)))))) (ac (.one (LendC.cloL (ac (.ref rfl) an))) an)) (ac (.cells (ac .sc an)) an) (by decide) rfl (tree_some.meets _ a0 a1 r1 er1) (.inl rfl) (by first | rfl | (simp only [mergeH2, orF, Bool.false_or, Bool.or_false, Bool.true_or, Bool.or_true, mergeAt, mergeObj, renO, ren_row, List.drop_succ_cons, List.drop_zero, List.map_cons, List.map_nil, Option.map_some, Option.map_none, List.length_cons, List.length_nil, Nat.zero_add, List.append_assoc, List.cons_append, List.nil_append]; done) | (simp only [mergeH2, orF, Bool.false_or, Bool.or_false, Bool.true_or, Bool.or_true, mergeAt, mergeObj, renO, ren_row, List.drop_succ_cons, List.drop_zero, List.map_cons, List.map_nil, Option.map_some, Option.map_none, List.length_cons, List.length_nil, Nat.zero_add, List.append_assoc, List.cons_append, List.nil_append]; rfl)) rfl ?_
 refine s_assign (d := (D.one (C.own 2 0 r1.1.length 6))) rfl (AWops.nil (AW.ret ?_))
 obtain rfl := Option.some.inj h
 exact ⟨_, rfl, (Weak.gen (kk := 0) [2] [] rfl rfl (by decide) (by decide) rfl rfl rfl (le_upd (le_top _) (.t (.one (.own rfl)))) (ac (.cells (fun h => h) (all2_row _)) an))⟩
mutual
def dossierref18_last.l0 : Nat → Int → ByteArray → Int → Option Int
 | 0, _, _, _ => none
 | k + 1, x1, a0, a1 => if (decide (x1 ≥ 0)) = true then ((bt a0 x1).bind fun v3 => if (v3 == a1) = true then (some x1) else (dossierref18_last.l0 k (IntKind.i64.wrap (x1 - 1)) a0 a1)) else (some (-1))
end
def dossierref18_last.f (k : Nat) (a0 : ByteArray) (a1 : Int) : Option Int := dossierref18_last.l0 k (IntKind.i64.wrap ((a0.size : Int) - 1)) a0 a1
theorem dossierref18_last.meets (k : Nat) (a0 : ByteArray) (a1 : Int) (r : Int) (h : dossierref18_last.f k a0 a1 = some r) : Meets Try.prog 45 [(sc (.string a0)), (sc (.int .u8 a1))] [] (sc (.int .i64 r)) [] := by
 unfold dossierref18_last.f at h
 refine Meets.of_body (n := 19) Try.func45 rfl rfl (nl rfl) fun x hx => ?_
 replace hx : x.k = 0 := hx
 show AW _ x _ _ ⟨19, fr0 [(sc (.string a0)), (sc (.int .u8 a1))], []⟩
 refine AW.seq (AW.region ?_)
 refine s_assign (d := (sc (.int .i64 0))) rfl (AWops.nil (AW.seq (AW.seq (AW.region ?_))))
 refine s_move (d := (sc (.string a0))) rfl ?_
 refine s_len (n := a0.size) F.u_9 rfl (.inl ⟨⟨_, _, rfl⟩, rfl⟩) ?_
 refine s_binI (v := (.int .i64 (IntKind.i64.wrap ((a0.size : Int) - 1)))) rfl rfl rfl ?_
 refine s_assign (d := (sc (.int .i64 (IntKind.i64.wrap ((a0.size : Int) - 1))))) rfl (AWops.nil (AW.block ?_))
 refine AW.loopw (st0 := ⟨19, (upd 19 (upd 19 (upd 19 topF 0 (sc (.string a0))) 1 (sc (.int .u8 a1))) 5 (sc (.int .i64 (IntKind.i64.wrap ((a0.size : Int) - 1))))), []⟩) (fun kv st => kv ≤ k ∧ ∃ (x1 : Int), dossierref18_last.l0 kv x1 a0 a1 = some r ∧ st = ⟨19, (upd 19 (upd 19 (upd 19 topF 0 (sc (.string a0))) 1 (sc (.int .u8 a1))) 5 (sc (.int .i64 x1))), []⟩) (k := k) (Weak.gen (kk := 0) [] [] hx rfl (by decide) (by decide) rfl rfl rfl (le_upd (le_upd (le_upd (le_top _) (.t (.one .sc))) (.t (.one .sc))) (.t (.one .sc))) an) ⟨Nat.le_refl _, IntKind.i64.wrap ((a0.size : Int) - 1), h, rfl⟩ ?_
 rintro ql0 st ⟨hkl0, x1, h, rfl⟩
 cases ql0 with
 | zero => exact absurd h (by simp [dossierref18_last.l0])
 | succ ql0 =>
  replace h := (dossierref18_last.l0.eq_2 _ _ _ _).symm.trans h
  refine AW.seq (AW.seq (AW.region ?_))
  refine s_move (d := (sc (.int .i64 x1))) rfl ?_
  refine s_binI (v := (.bool (decide (x1 ≥ 0)))) rfl rfl rfl (AWops.nil ?_)
  rcases itH h with ⟨c2, h⟩ | ⟨c2, h⟩
  ·refine AW.cond_yes rfl c2 (AW.skip (AW.seq (AW.block (AW.seq (AW.region ?_)))))
   refine s_move (d := (sc (.string a0))) rfl ?_
   refine s_move (d := (sc (.int .i64 x1))) rfl ?_
   obtain ⟨v3, ev3, h⟩ := bnd h
   obtain ⟨pv3, bv3, gv3, rfl⟩ := bt_some ev3
   refine s_indexStr F.u_9 rfl rfl pv3 gv3 ?_
   generalize hzv3 : ((bv3.toNat : Nat) : Int) = v3 at *
   refine s_move (d := (sc (.int .u8 a1))) rfl ?_
   refine s_binI (v := (.bool (v3 == a1))) rfl rfl rfl (AWops.nil ?_)
   rcases itH h with ⟨c4, h⟩ | ⟨c4, h⟩
   ·refine AW.cond_yes rfl c4 (AW.seq (AW.region ?_))
    refine s_move (d := (sc (.int .i64 x1))) rfl ?_
    refine s_assign (d := (sc (.int .i64 x1))) rfl (AWops.nil (AW.ret ?_))
    obtain rfl := Option.some.inj h
    exact ⟨_, rfl, (Weak.gen (kk := 0) [] [] rfl rfl (by decide) (by decide) rfl rfl rfl (le_upd (le_top _) (.t (.one .sc))) an)⟩
   ·refine AW.cond_no rfl c4 (AW.skip (AW.region ?_))
    refine s_move (d := (sc (.int .i64 x1))) rfl ?_
    refine s_binI (v := (.int .i64 (IntKind.i64.wrap (x1 - 1)))) rfl rfl rfl ?_
    refine s_assign (d := (sc (.int .i64 (IntKind.i64.wrap (x1 - 1))))) rfl (AWops.nil ?_)
    exact ⟨_, ⟨19, (upd 19 (upd 19 (upd 19 topF 0 (sc (.string a0))) 1 (sc (.int .u8 a1))) 5 (sc (.int .i64 (IntKind.i64.wrap (x1 - 1))))), []⟩, by omega, (Weak.gen (kk := 0) [] [] hx rfl (by decide) (by decide) rfl rfl rfl (le_upd (le_upd (le_upd (le_top _) (.t (.one .sc))) (.t (.one .sc))) (.t (.one .sc))) an), by omega, IntKind.i64.wrap (x1 - 1), h, rfl⟩
  ·refine AW.cond_no rfl c2 (AW.exit (AW.seq (AW.region ?_)))
   refine s_assign (d := (sc (.int .i64 (-1)))) rfl (AWops.nil (AW.ret ?_))
   obtain rfl := Option.some.inj h
   exact ⟨_, rfl, (Weak.gen (kk := 0) [] [] rfl rfl (by decide) (by decide) rfl rfl rfl (le_upd (le_top _) (.t (.one .sc))) an)⟩
def dossierref18_Up.f (k : Nat) (a0 : ByteArray) : Option ByteArray := (dossierref18_last.f k a0 47).bind fun r1 => if (decide (0 ≤ 0 ∧ 0 ≤ (if r1 > 0 then r1 else 0) ∧ (if r1 > 0 then r1 else 0) ≤ (a0.size : Int))) = true then (some (a0.extract 0 (if r1 > 0 then r1 else 0).toNat)) else none
theorem dossierref18_Up.meets (k : Nat) (a0 : ByteArray) (r : ByteArray) (h : dossierref18_Up.f k a0 = some r) : Meets Try.prog 27 [(sc (.string a0))] [] (sc (.string r)) [] := by
 unfold dossierref18_Up.f at h
 refine Meets.of_body (n := 8) Try.func27 rfl rfl (nl rfl) fun x hx => ?_
 replace hx : x.k = 0 := hx
 show AW _ x _ _ ⟨8, fr0 [(sc (.string a0))], []⟩
 refine AW.seq (AW.region ?_)
 refine s_assign (d := (sc (.string (⟨#[]⟩ : ByteArray)))) rfl (AWops.nil (AW.seq (AW.region ?_)))
 refine s_move (d := (sc (.string a0))) rfl ?_
 refine s_move (d := (sc (.string a0))) rfl ?_
 obtain ⟨r1, er1, h⟩ := bnd h
 refine s_call2 (ρ := []) (br := false) (H2 := []) (d := (sc (.int .i64 r1))) F.ca_45 rfl rfl (ac (.one .sc) (ac (.one .sc) an)) an (by decide) rfl (dossierref18_last.meets _ a0 47 r1 er1) (.inl rfl) rfl rfl ?_
 refine s_max2 (r := (if r1 > 0 then r1 else 0)) rfl rfl rfl ?_
 obtain ⟨c2, h⟩ := gdH h
 have dc2 := of_decide_eq_true c2
 refine s_sliceStr F.u_9 rfl .no (.yes rfl (by omega) rfl) (by omega) (by omega) ?_
 refine s_assign (d := (sc (.string (a0.extract 0 (if r1 > 0 then r1 else 0).toNat)))) rfl (AWops.nil (AW.ret ?_))
 obtain rfl := Option.some.inj h
 exact ⟨_, rfl, (Weak.gen (kk := 0) [] [] rfl rfl (by decide) (by decide) rfl rfl rfl (le_upd (le_top _) (.t (.one .sc))) an)⟩
mutual
def dossierref18_Kids.l0 : Nat → (List api_Inst) → Int → api_Case → ByteArray → Option (List api_Inst)
 | 0, _, _, _, _ => none
 | k + 1, x1, x2, a0, a1 => if (decide (x2 < (a0.Insts.length : Int))) = true then ((rd a0.Insts x2).bind fun v4 => (dossierref18_Up.f k v4.Path).bind fun r5 => if (r5.toList == a1.toList) = true then ((dossierref18_CopyInst.f k v4).bind fun r7 => if (decide (x1.length + ([r7] : List api_Inst).length ≤ 1759218604441)) = true then (dossierref18_Kids.l0 k (x1 ++ ([r7] : List api_Inst)) (IntKind.i64.wrap (x2 + 1)) a0 a1) else none) else (dossierref18_Kids.l0 k x1 (IntKind.i64.wrap (x2 + 1)) a0 a1)) else (some x1)
end
def dossierref18_Kids.f (k : Nat) (a0 : api_Case) (a1 : ByteArray) : Option (List api_Inst) := dossierref18_Kids.l0 k ([] : List api_Inst) 0 a0 a1
theorem dossierref18_Kids.meets (k : Nat) (a0 : api_Case) (a1 : ByteArray) (r : (List api_Inst)) (h : dossierref18_Kids.f k a0 a1 = some r) : Meets Try.prog 10 [(D.agg (c_api_Case a0)), (sc (.string a1))] [] (D.one (C.own 0 0 r.length 6)) [(some (AObj.cells true (rowC e_api_Inst r)))] := by
 unfold dossierref18_Kids.f at h
 refine Meets.of_body (n := 27) Try.func10 rfl rfl (nl rfl) fun x hx => ?_
 replace hx : x.k = 0 := hx
 show AW _ x _ _ ⟨27, fr0 [(D.agg (c_api_Case a0)), (sc (.string a1))], []⟩
 refine AW.seq (AW.region ?_)
 refine s_box (cs := (c_api_Case a0)) rfl (List.cons_ne_nil _ _) rfl ?_
 refine s_assign (d := (sc (.slice none 0 0))) rfl (AWops.nil (AW.seq (AW.region ?_)))
 refine s_assign (d := (sc (.slice none 0 0))) rfl (AWops.nil (AW.seq (AW.seq (AW.region ?_))))
 refine s_fieldRef F.fo_25_2 (by decide) rfl ?_
 refine s_load1 (c' := (C.p false (.sl a0.Insts.length (a0.Insts.flatMap e_api_Inst)))) F.ag_22 rfl rfl ?_
 refine s_len (n := a0.Insts.length) F.u_22 rfl (.inr ⟨(fun _ _ h => by cases h), ⟨_, rfl⟩⟩) ?_
 refine s_move (d := (sc (.int .i64 0))) rfl (AWops.nil (AW.block ?_))
 refine AW.loopw (st0 := ⟨27, (upd 27 (upd 27 (upd 27 (upd 27 (upd 27 topF 1 (sc (.string a1))) 5 (D.one (C.own 0 0 ([] : List api_Inst).length 6))) 9 (D.one (C.p false (.sl a0.Insts.length (a0.Insts.flatMap e_api_Inst))))) 10 (sc (.int .i64 (a0.Insts.length : Int)))) 11 (sc (.int .i64 0))), [(some (AObj.cells true (rowC e_api_Inst ([] : List api_Inst))))]⟩) (fun kv st => kv ≤ k ∧ ∃ (x1 : List api_Inst) (x2 : Int), dossierref18_Kids.l0 kv x1 x2 a0 a1 = some r ∧ st = ⟨27, (upd 27 (upd 27 (upd 27 (upd 27 (upd 27 topF 1 (sc (.string a1))) 5 (D.one (C.own 0 0 x1.length 6))) 9 (D.one (C.p false (.sl a0.Insts.length (a0.Insts.flatMap e_api_Inst))))) 10 (sc (.int .i64 (a0.Insts.length : Int)))) 11 (sc (.int .i64 x2))), [(some (AObj.cells true (rowC e_api_Inst x1)))]⟩) (k := k) (Weak.trans (Weak.nil (sz := 6) (i := 5) rfl) (Weak.gen (kk := 0) [1] [] hx rfl (by decide) (by decide) rfl rfl rfl (le_upd (le_upd (le_upd (le_upd (le_upd (le_top _) (.t (.one .sc))) (.t (.one (.own rfl)))) (.t (.one .same))) (.t (.one .sc))) (.t (.one .sc))) (ac (.cells (fun h => h) an) an))) ⟨Nat.le_refl _, ([] : List api_Inst), 0, h, rfl⟩ ?_
 rintro ql0 st ⟨hkl0, x1, x2, h, rfl⟩
 cases ql0 with
 | zero => exact absurd h (by simp [dossierref18_Kids.l0])
 | succ ql0 =>
  replace h := (dossierref18_Kids.l0.eq_2 _ _ _ _ _).symm.trans h
  refine AW.seq (AW.region ?_)
  refine s_binI (v := (.bool (decide (x2 < (a0.Insts.length : Int))))) rfl rfl rfl (AWops.nil (AW.seq ?_))
  rcases itH h with ⟨c3, h⟩ | ⟨c3, h⟩
  ·refine AW.cond_yes rfl c3 (AW.skip (AW.seq (AW.block (AW.seq (AW.region ?_)))))
   obtain ⟨v4, ev4, h⟩ := bnd h
   obtain ⟨pv4, qv4, gv4⟩ := rd_some ev4
   refine s_indexImm (ps := (p_api_Inst v4)) F.u_22 F.sz_30 rfl rfl pv4 qv4 (flat_at e_api_Inst_len gv4 (e_api_Inst_eq v4)) ?_
   refine s_loadN (ds := (c_api_Inst v4)) F.ag_30 F.sz_30 rfl rfl rfl ?_
   refine s_alloc (cs := [(C.p true (.v (.string (⟨#[]⟩ : ByteArray)))), (C.p true (.v (.string (⟨#[]⟩ : ByteArray)))), (C.p true (.v (.int .i64 0))), (C.p true (.v (.int .i64 0))), (C.p true (.v (.slice none 0 0))), (C.p true (.v (.int .i64 0)))]) F.z_30 rfl rfl ?_
   refine s_store (cs' := (c_api_Inst v4)) rfl rfl rfl (List.cons_ne_nil _ _) rfl F.sz_30 (nl rfl) rfl (AWops.nil (AW.seq (AW.region ?_)))
   refine s_fieldRef F.fo_30_0 (by decide) rfl ?_
   refine s_load1 (c' := (C.p true (.v (.string v4.Path)))) F.ag_9 rfl rfl ?_
   obtain ⟨r5, er5, h⟩ := bnd h
   refine s_call2 (ρ := []) (br := false) (H2 := [(some (AObj.cells true (rowC e_api_Inst x1))), (some (AObj.cells true (c_api_Inst v4)))]) (d := (sc (.string r5))) F.ca_27 rfl rfl (ac (.one .sc) an) an (by decide) rfl (dossierref18_Up.meets _ v4.Path r5 er5) (.inl rfl) rfl rfl ?_
   refine s_move (d := (sc (.string a1))) rfl ?_
   refine s_binS (v := (.bool (r5.toList == a1.toList))) rfl rfl rfl (AWops.nil ?_)
   rcases itH h with ⟨c6, h⟩ | ⟨c6, h⟩
   ·refine AW.cond_yes rfl c6 (AW.region ?_)
    refine s_move (d := (D.one (C.own 0 0 x1.length 6))) rfl ?_
    refine s_loadN (ds := (c_api_Inst v4)) F.ag_30 F.sz_30 rfl rfl rfl ?_
    obtain ⟨r7, er7, h⟩ := bnd h
    refine s_call2 (ρ := []) (br := false) (H2 := [(some (AObj.cells true (rowC e_api_Inst x1))), (some (AObj.cells true (c_api_Inst v4)))]) (d := (D.agg (c_api_Inst r7))) F.ca_23 rfl rfl (ac (LendT.aggL (ac .sc (ac .sc (ac .sc (ac .sc (ac .imm (ac .sc an))))))) an) an (by decide) rfl (dossierref18_CopyInst.meets _ v4 r7 er7) (.inl rfl) rfl rfl ?_
    refine s_buildSlice (n := 1) (ps := [(0, (D.agg (c_api_Inst r7)))]) (cs := rowC e_api_Inst ([r7] : List api_Inst)) F.u_22 F.sz_30 F.z_30 rfl rfl (by decide) (by decide) rfl rfl ?_
    obtain ⟨c8, h⟩ := gdH h
    have dc8 := of_decide_eq_true c8
    refine t_append (xs := x1) (ys := ([r7] : List api_Inst)) (zs := x1 ++ ([r7] : List api_Inst)) (H' := [none, (some (AObj.cells true (c_api_Inst v4))), (some (AObj.cells true (rowC e_api_Inst ([r7] : List api_Inst)))), (some (AObj.cells true (rowC e_api_Inst (x1 ++ ([r7] : List api_Inst)))))]) F.u_22 F.in_30 rfl e_api_Inst_len (.own rfl rfl) (.own rfl rfl) F.u_22 (by omega) (by omega) rfl rfl ?_
    refine s_assign (d := (D.one (C.own 3 0 ((x1 ++ ([r7] : List api_Inst)).length) 6))) rfl (AWops.nil (AW.region ?_))
    refine s_binI (v := (.int .i64 (IntKind.i64.wrap (x2 + 1)))) rfl rfl rfl ?_
    refine s_move (d := (sc (.int .i64 (IntKind.i64.wrap (x2 + 1))))) rfl (AWops.nil ?_)
    exact ⟨_, ⟨27, (upd 27 (upd 27 (upd 27 (upd 27 (upd 27 topF 1 (sc (.string a1))) 5 (D.one (C.own 0 0 (x1 ++ ([r7] : List api_Inst)).length 6))) 9 (D.one (C.p false (.sl a0.Insts.length (a0.Insts.flatMap e_api_Inst))))) 10 (sc (.int .i64 (a0.Insts.length : Int)))) 11 (sc (.int .i64 (IntKind.i64.wrap (x2 + 1))))), [(some (AObj.cells true (rowC e_api_Inst (x1 ++ ([r7] : List api_Inst)))))]⟩, by omega, (Weak.gen (kk := 0) [3] [] hx rfl (by decide) (by decide) rfl rfl rfl (le_upd (le_upd (le_upd (le_upd (le_upd (le_top _) (.t (.one .sc))) (.t (.one (.own rfl)))) (.t (.one .same))) (.t (.one .sc))) (.t (.one .sc))) (ac (.cells (fun h => h) (all2_row _)) an)), by omega, x1 ++ ([r7] : List api_Inst), IntKind.i64.wrap (x2 + 1), h, rfl⟩
   ·refine AW.cond_no rfl c6 (AW.skip (AW.region ?_))
    refine s_binI (v := (.int .i64 (IntKind.i64.wrap (x2 + 1)))) rfl rfl rfl ?_
    refine s_move (d := (sc (.int .i64 (IntKind.i64.wrap (x2 + 1))))) rfl (AWops.nil ?_)
    exact ⟨_, ⟨27, (upd 27 (upd 27 (upd 27 (upd 27 (upd 27 topF 1 (sc (.string a1))) 5 (D.one (C.own 0 0 x1.length 6))) 9 (D.one (C.p false (.sl a0.Insts.length (a0.Insts.flatMap e_api_Inst))))) 10 (sc (.int .i64 (a0.Insts.length : Int)))) 11 (sc (.int .i64 (IntKind.i64.wrap (x2 + 1))))), [(some (AObj.cells true (rowC e_api_Inst x1)))]⟩, by omega, (Weak.gen (kk := 0) [0] [] hx rfl (by decide) (by decide) rfl rfl rfl (le_upd (le_upd (le_upd (le_upd (le_upd (le_top _) (.t (.one .sc))) (.t (.one (.own rfl)))) (.t (.one .same))) (.t (.one .sc))) (.t (.one .sc))) (ac (.cells (fun h => h) (all2_row _)) an)), by omega, x1, IntKind.i64.wrap (x2 + 1), h, rfl⟩
  ·refine AW.cond_no rfl c3 (AW.exit (AW.seq (AW.region ?_)))
   refine s_move (d := (D.one (C.own 0 0 x1.length 6))) rfl ?_
   refine s_assign (d := (D.one (C.own 0 0 x1.length 6))) rfl (AWops.nil (AW.ret ?_))
   obtain rfl := Option.some.inj h
   exact ⟨_, rfl, (Weak.gen (kk := 0) [0] [] rfl rfl (by decide) (by decide) rfl rfl rfl (le_upd (le_top _) (.t (.one (.own rfl)))) (ac (.cells (fun h => h) (all2_row _)) an))⟩
mutual
def dossierref18_SameInst.l0 : Nat → Int → api_Inst → api_Inst → Option Bool
 | 0, _, _, _ => none
 | k + 1, x7, a0, a1 => if (decide (x7 < (a0.Latches.length : Int))) = true then ((rd a0.Latches x7).bind fun v9 => (rd a1.Latches x7).bind fun v10 => if (v9 != v10) = true then (some false) else (dossierref18_SameInst.l0 k (IntKind.i64.wrap (x7 + 1)) a0 a1)) else (some true)
end
def dossierref18_SameInst.f (k : Nat) (a0 : api_Inst) (a1 : api_Inst) : Option Bool := if (a0.Path.toList == a1.Path.toList) = true then (if (a0.Item.toList == a1.Item.toList) = true then (if (a0.State != a1.State) = true then (some false) else (if (a0.Before != a1.Before) = true then (some false) else (if (a0.Due != a1.Due) = true then (some false) else (if ((a0.Latches.length : Int) != (a1.Latches.length : Int)) = true then (some false) else (dossierref18_SameInst.l0 k 0 a0 a1))))) else (some false)) else (some false)
theorem dossierref18_SameInst.meets (k : Nat) (a0 : api_Inst) (a1 : api_Inst) (r : Bool) (h : dossierref18_SameInst.f k a0 a1 = some r) : Meets Try.prog 13 [(D.agg (c_api_Inst a0)), (D.agg (c_api_Inst a1))] [] (sc (.bool r)) [] := by
 unfold dossierref18_SameInst.f at h
 refine Meets.of_body (n := 66) Try.func13 rfl rfl (nl rfl) fun x hx => ?_
 replace hx : x.k = 0 := hx
 show AW _ x _ _ ⟨66, fr0 [(D.agg (c_api_Inst a0)), (D.agg (c_api_Inst a1))], []⟩
 refine AW.seq (AW.region ?_)
 refine s_box (cs := (c_api_Inst a0)) rfl (List.cons_ne_nil _ _) rfl ?_
 refine s_box (cs := (c_api_Inst a1)) rfl (List.cons_ne_nil _ _) rfl ?_
 refine s_assign (d := (sc (.bool false))) rfl (AWops.nil (AW.seq (AW.seq (AW.region ?_))))
 refine s_fieldRef F.fo_30_0 (by decide) rfl ?_
 refine s_load1 (c' := (C.p true (.v (.string a0.Path)))) F.ag_9 rfl rfl ?_
 refine s_fieldRef F.fo_30_0 (by decide) rfl ?_
 refine s_load1 (c' := (C.p true (.v (.string a1.Path)))) F.ag_9 rfl rfl ?_
 refine s_binS (v := (.bool (!(a0.Path.toList == a1.Path.toList)))) rfl rfl rfl ?_
 refine s_move (d := (sc (.bool (!(a0.Path.toList == a1.Path.toList))))) rfl ?_
 rcases itH h with ⟨c1, h⟩ | ⟨c1, h⟩
 ·refine AWops.guard_yes rfl (nl rfl) rfl (by rw [c1] <;> rfl) ?_
  refine s_fieldRef F.fo_30_1 (by decide) rfl ?_
  refine AWops.guard_yes rfl (nl rfl) rfl (by rw [c1] <;> rfl) ?_
  refine s_load1 (c' := (C.p true (.v (.string a0.Item)))) F.ag_9 rfl rfl ?_
  refine AWops.guard_yes rfl (nl rfl) rfl (by rw [c1] <;> rfl) ?_
  refine s_fieldRef F.fo_30_1 (by decide) rfl ?_
  refine AWops.guard_yes rfl (nl rfl) rfl (by rw [c1] <;> rfl) ?_
  refine s_load1 (c' := (C.p true (.v (.string a1.Item)))) F.ag_9 rfl rfl ?_
  refine AWops.guard_yes rfl (nl rfl) rfl (by rw [c1] <;> rfl) ?_
  refine s_binS (v := (.bool (!(a0.Item.toList == a1.Item.toList)))) rfl rfl rfl ?_
  refine s_pick_no (d := (sc (.bool (!(a0.Item.toList == a1.Item.toList))))) rfl (by rw [c1] <;> rfl) rfl ?_
  refine s_move (d := (sc (.bool (!(a0.Item.toList == a1.Item.toList))))) rfl ?_
  rcases itH h with ⟨c2, h⟩ | ⟨c2, h⟩
  ·refine AWops.guard_yes rfl (nl rfl) rfl (by rw [c2] <;> rfl) ?_
   refine s_fieldRef F.fo_30_2 (by decide) rfl ?_
   refine AWops.guard_yes rfl (nl rfl) rfl (by rw [c2] <;> rfl) ?_
   refine s_load1 (c' := (C.p true (.v (.int .i64 a0.State)))) F.ag_3 rfl rfl ?_
   refine AWops.guard_yes rfl (nl rfl) rfl (by rw [c2] <;> rfl) ?_
   refine s_fieldRef F.fo_30_2 (by decide) rfl ?_
   refine AWops.guard_yes rfl (nl rfl) rfl (by rw [c2] <;> rfl) ?_
   refine s_load1 (c' := (C.p true (.v (.int .i64 a1.State)))) F.ag_3 rfl rfl ?_
   refine AWops.guard_yes rfl (nl rfl) rfl (by rw [c2] <;> rfl) ?_
   refine s_binI (v := (.bool (a0.State != a1.State))) rfl rfl rfl ?_
   refine s_pick_no (d := (sc (.bool (a0.State != a1.State)))) rfl (by rw [c2] <;> rfl) rfl ?_
   refine s_move (d := (sc (.bool (a0.State != a1.State)))) rfl ?_
   rcases itH h with ⟨c3, h⟩ | ⟨c3, h⟩
   ·iterate 5 refine AWops.guard_no rfl (nl rfl) rfl c3 ?_
    refine s_pick_yes (d := (sc (.bool true))) rfl c3 rfl ?_
    refine s_move (d := (sc (.bool true))) rfl ?_
    iterate 5 refine AWops.guard_no rfl (nl rfl) rfl rfl ?_
    refine s_pick_yes (d := (sc (.bool true))) rfl rfl rfl ?_
    refine s_move (d := (sc (.bool true))) rfl ?_
    iterate 7 refine AWops.guard_no rfl (nl rfl) rfl rfl ?_
    refine s_pick_yes (d := (sc (.bool true))) rfl rfl rfl (AWops.nil ?_)
    refine AW.cond_yes rfl rfl (AW.seq (AW.region ?_))
    refine s_assign (d := (sc (.bool false))) rfl (AWops.nil (AW.ret ?_))
    obtain rfl := Option.some.inj h
    exact ⟨_, rfl, (Weak.gen (kk := 0) [] [] rfl rfl (by decide) (by decide) rfl rfl rfl (le_upd (le_top _) (.t (.one .sc))) an)⟩
   ·refine AWops.guard_yes rfl (nl rfl) rfl c3 ?_
    refine s_fieldRef F.fo_30_3 (by decide) rfl ?_
    refine AWops.guard_yes rfl (nl rfl) rfl c3 ?_
    refine s_load1 (c' := (C.p true (.v (.int .i64 a0.Before)))) F.ag_3 rfl rfl ?_
    refine AWops.guard_yes rfl (nl rfl) rfl c3 ?_
    refine s_fieldRef F.fo_30_3 (by decide) rfl ?_
    refine AWops.guard_yes rfl (nl rfl) rfl c3 ?_
    refine s_load1 (c' := (C.p true (.v (.int .i64 a1.Before)))) F.ag_3 rfl rfl ?_
    refine AWops.guard_yes rfl (nl rfl) rfl c3 ?_
    refine s_binI (v := (.bool (a0.Before != a1.Before))) rfl rfl rfl ?_
    refine s_pick_no (d := (sc (.bool (a0.Before != a1.Before)))) rfl c3 rfl ?_
    refine s_move (d := (sc (.bool (a0.Before != a1.Before)))) rfl ?_
    rcases itH h with ⟨c4, h⟩ | ⟨c4, h⟩
    ·iterate 5 refine AWops.guard_no rfl (nl rfl) rfl c4 ?_
     refine s_pick_yes (d := (sc (.bool true))) rfl c4 rfl ?_
     refine s_move (d := (sc (.bool true))) rfl ?_
     iterate 7 refine AWops.guard_no rfl (nl rfl) rfl rfl ?_
     refine s_pick_yes (d := (sc (.bool true))) rfl rfl rfl (AWops.nil ?_)
     refine AW.cond_yes rfl rfl (AW.seq (AW.region ?_))
     refine s_assign (d := (sc (.bool false))) rfl (AWops.nil (AW.ret ?_))
     obtain rfl := Option.some.inj h
     exact ⟨_, rfl, (Weak.gen (kk := 0) [] [] rfl rfl (by decide) (by decide) rfl rfl rfl (le_upd (le_top _) (.t (.one .sc))) an)⟩
    ·refine AWops.guard_yes rfl (nl rfl) rfl c4 ?_
     refine s_fieldRef F.fo_30_5 (by decide) rfl ?_
     refine AWops.guard_yes rfl (nl rfl) rfl c4 ?_
     refine s_load1 (c' := (C.p true (.v (.int .i64 a0.Due)))) F.ag_3 rfl rfl ?_
     refine AWops.guard_yes rfl (nl rfl) rfl c4 ?_
     refine s_fieldRef F.fo_30_5 (by decide) rfl ?_
     refine AWops.guard_yes rfl (nl rfl) rfl c4 ?_
     refine s_load1 (c' := (C.p true (.v (.int .i64 a1.Due)))) F.ag_3 rfl rfl ?_
     refine AWops.guard_yes rfl (nl rfl) rfl c4 ?_
     refine s_binI (v := (.bool (a0.Due != a1.Due))) rfl rfl rfl ?_
     refine s_pick_no (d := (sc (.bool (a0.Due != a1.Due)))) rfl c4 rfl ?_
     refine s_move (d := (sc (.bool (a0.Due != a1.Due)))) rfl ?_
     rcases itH h with ⟨c5, h⟩ | ⟨c5, h⟩
     ·iterate 7 refine AWops.guard_no rfl (nl rfl) rfl c5 ?_
      refine s_pick_yes (d := (sc (.bool true))) rfl c5 rfl (AWops.nil ?_)
      refine AW.cond_yes rfl rfl (AW.seq (AW.region ?_))
      refine s_assign (d := (sc (.bool false))) rfl (AWops.nil (AW.ret ?_))
      obtain rfl := Option.some.inj h
      exact ⟨_, rfl, (Weak.gen (kk := 0) [] [] rfl rfl (by decide) (by decide) rfl rfl rfl (le_upd (le_top _) (.t (.one .sc))) an)⟩
     ·refine AWops.guard_yes rfl (nl rfl) rfl c5 ?_
      refine s_fieldRef F.fo_30_4 (by decide) rfl ?_
      refine AWops.guard_yes rfl (nl rfl) rfl c5 ?_
      refine s_load1 (c' := (C.p false (.sl a0.Latches.length (a0.Latches.flatMap e_i64)))) F.ag_28 rfl rfl ?_
      refine AWops.guard_yes rfl (nl rfl) rfl c5 ?_
      refine s_len (n := a0.Latches.length) F.u_28 rfl (.inr ⟨(fun _ _ h => by cases h), ⟨_, rfl⟩⟩) ?_
      refine AWops.guard_yes rfl (nl rfl) rfl c5 ?_
      refine s_fieldRef F.fo_30_4 (by decide) rfl ?_
      refine AWops.guard_yes rfl (nl rfl) rfl c5 ?_
      refine s_load1 (c' := (C.p false (.sl a1.Latches.length (a1.Latches.flatMap e_i64)))) F.ag_28 rfl rfl ?_
      refine AWops.guard_yes rfl (nl rfl) rfl c5 ?_
      refine s_len (n := a1.Latches.length) F.u_28 rfl (.inr ⟨(fun _ _ h => by cases h), ⟨_, rfl⟩⟩) ?_
      refine AWops.guard_yes rfl (nl rfl) rfl c5 ?_
      refine s_binI (v := (.bool ((a0.Latches.length : Int) != (a1.Latches.length : Int)))) rfl rfl rfl ?_
      refine s_pick_no (d := (sc (.bool ((a0.Latches.length : Int) != (a1.Latches.length : Int))))) rfl c5 rfl (AWops.nil ?_)
      rcases itH h with ⟨c6, h⟩ | ⟨c6, h⟩
      ·refine AW.cond_yes rfl c6 (AW.seq (AW.region ?_))
       refine s_assign (d := (sc (.bool false))) rfl (AWops.nil (AW.ret ?_))
       obtain rfl := Option.some.inj h
       exact ⟨_, rfl, (Weak.gen (kk := 0) [] [] rfl rfl (by decide) (by decide) rfl rfl rfl (le_upd (le_top _) (.t (.one .sc))) an)⟩
      ·refine AW.cond_no rfl c6 (AW.skip (AW.seq (AW.seq (AW.region ?_))))
       refine s_fieldRef F.fo_30_4 (by decide) rfl ?_
       refine s_load1 (c' := (C.p false (.sl a0.Latches.length (a0.Latches.flatMap e_i64)))) F.ag_28 rfl rfl ?_
       refine s_len (n := a0.Latches.length) F.u_28 rfl (.inr ⟨(fun _ _ h => by cases h), ⟨_, rfl⟩⟩) ?_
       refine s_move (d := (sc (.int .i64 0))) rfl (AWops.nil (AW.block ?_))
       refine AW.loopw (st0 := ⟨66, (upd 66 (upd 66 (upd 66 (upd 66 topF 2 (D.one (C.ref 0 0))) 3 (D.one (C.ref 1 0))) 50 (sc (.int .i64 (a0.Latches.length : Int)))) 51 (sc (.int .i64 0))), [(some (AObj.cells true (c_api_Inst a0))), (some (AObj.cells true (c_api_Inst a1)))]⟩) (fun kv st => kv ≤ k ∧ ∃ (x7 : Int), dossierref18_SameInst.l0 kv x7 a0 a1 = some r ∧ st = ⟨66, (upd 66 (upd 66 (upd 66 (upd 66 topF 2 (D.one (C.ref 0 0))) 3 (D.one (C.ref 1 0))) 50 (sc (.int .i64 (a0.Latches.length : Int)))) 51 (sc (.int .i64 x7))), [(some (AObj.cells true (c_api_Inst a0))), (some (AObj.cells true (c_api_Inst a1)))]⟩) (k := k) (Weak.gen (kk := 0) [0, 1] [] hx rfl (by decide) (by decide) rfl rfl rfl (le_upd (le_upd (le_upd (le_upd (le_top _) (.t (.one (.ref rfl)))) (.t (.one (.ref rfl)))) (.t (.one .sc))) (.t (.one .sc))) (ac (.cells (fun h => h) (ac .sc (ac .sc (ac .sc (ac .sc (ac .same (ac .sc an))))))) (ac (.cells (fun h => h) (ac .sc (ac .sc (ac .sc (ac .sc (ac .same (ac .sc an))))))) an))) ⟨Nat.le_refl _, 0, h, rfl⟩ ?_
       rintro ql0 st ⟨hkl0, x7, h, rfl⟩
       cases ql0 with
       | zero => exact absurd h (by simp [dossierref18_SameInst.l0])
       | succ ql0 =>
        replace h := (dossierref18_SameInst.l0.eq_2 _ _ _ _).symm.trans h
        refine AW.seq (AW.region ?_)
        refine s_binI (v := (.bool (decide (x7 < (a0.Latches.length : Int))))) rfl rfl rfl (AWops.nil (AW.seq ?_))
        rcases itH h with ⟨c8, h⟩ | ⟨c8, h⟩
        ·refine AW.cond_yes rfl c8 (AW.skip (AW.seq (AW.block (AW.seq (AW.region ?_)))))
         refine s_move (d := (sc (.int .i64 x7))) rfl ?_
         refine s_assign (d := (sc (.int .i64 x7))) rfl (AWops.nil (AW.seq ?_))
         refine AW.weak (st' := ⟨66, (upd 66 (upd 66 (upd 66 (upd 66 (upd 66 topF 2 (D.one (C.ref 0 0))) 3 (D.one (C.ref 1 0))) 5 (sc (.int .i64 x7))) 50 (sc (.int .i64 (a0.Latches.length : Int)))) 51 (sc (.int .i64 x7))), [(some (AObj.cells true (c_api_Inst a0))), (some (AObj.cells true (c_api_Inst a1)))]⟩) (Weak.gen (kk := 0) [0, 1] [] hx rfl (by decide) (by decide) rfl rfl rfl (le_upd (le_upd (le_upd (le_upd (le_upd (le_top _) (.t (.one (.ref rfl)))) (.t (.one (.ref rfl)))) (.t (.one .sc))) (.t (.one .sc))) (.t (.one .sc))) (ac (.cells (fun h => h) (ac .sc (ac .sc (ac .sc (ac .sc (ac .same (ac .sc an))))))) (ac (.cells (fun h => h) (ac .sc (ac .sc (ac .sc (ac .sc (ac .same (ac .sc an))))))) an))) ?_
         obtain ⟨v9, ev9, h⟩ := bnd h
         obtain ⟨pv9, qv9, gv9⟩ := rd_some ev9
         obtain ⟨v10, ev10, h⟩ := bnd h
         obtain ⟨pv10, qv10, gv10⟩ := rd_some ev10
         refine AW.draw (n := 66) (L := 2) [(0, ⟨some 54, (D.one (C.ref 0 4)), [(2, (D.one (C.ref 0 0)))], [], [], none⟩), (1, ⟨some 55, (D.one (C.p false (.sl a0.Latches.length (a0.Latches.flatMap e_i64)))), [(54, (D.one (C.ref 0 4)))], [(0, (some (AObj.cells true (c_api_Inst a0))))], [], none⟩), (2, ⟨some 56, (sc (.int .i64 x7)), [(5, (sc (.int .i64 x7)))], [], [], none⟩), (3, ⟨some 57, (D.one (C.peek false [P.v (.int .i64 v9)])), [(55, (D.one (C.p false (.sl a0.Latches.length (a0.Latches.flatMap e_i64))))), (56, (sc (.int .i64 x7)))], [], [], none⟩), (4, ⟨some 58, (sc (.int .i64 v9)), [(57, (D.one (C.peek false [P.v (.int .i64 v9)])))], [], [], none⟩), (5, ⟨some 59, (D.one (C.ref 1 4)), [(3, (D.one (C.ref 1 0)))], [], [], none⟩), (6, ⟨some 60, (D.one (C.p false (.sl a1.Latches.length (a1.Latches.flatMap e_i64)))), [(59, (D.one (C.ref 1 4)))], [(1, (some (AObj.cells true (c_api_Inst a1))))], [], none⟩), (7, ⟨some 61, (sc (.int .i64 x7)), [(5, (sc (.int .i64 x7)))], [], [], none⟩), (8, ⟨some 62, (D.one (C.peek false [P.v (.int .i64 v10)])), [(60, (D.one (C.p false (.sl a1.Latches.length (a1.Latches.flatMap e_i64))))), (61, (sc (.int .i64 x7)))], [], [], none⟩), (9, ⟨some 63, (sc (.int .i64 v10)), [(62, (D.one (C.peek false [P.v (.int .i64 v10)])))], [], [], none⟩), (10, ⟨some 64, (sc (.bool (v9 != v10))), [(58, (sc (.int .i64 v9))), (63, (sc (.int .i64 v10)))], [], [], none⟩)] [[], [0], [], [0, 1, 2], [0, 1, 2, 3], [], [5], [], [5, 6, 7], [5, 6, 7, 8], [0, 1, 2, 3, 4, 5, 6, 7, 8, 9]] (nl rfl) [0, 1, 0, 2, 3, 0, 1, 0, 2, 3, 4] rfl (TK := []) rfl AllK.nil' (fC ⟨(sC rfl AllS.nil'), AllH.nil'⟩ (fC ⟨(sC rfl AllS.nil'), (hC rfl AllH.nil')⟩ (fC ⟨(sC rfl AllS.nil'), AllH.nil'⟩ (fC ⟨(sC rfl (sC rfl AllS.nil')), AllH.nil'⟩ (fC ⟨(sC rfl AllS.nil'), AllH.nil'⟩ (fC ⟨(sC rfl AllS.nil'), AllH.nil'⟩ (fC ⟨(sC rfl AllS.nil'), (hC rfl AllH.nil')⟩ (fC ⟨(sC rfl AllS.nil'), AllH.nil'⟩ (fC ⟨(sC rfl (sC rfl AllS.nil')), AllH.nil'⟩ (fC ⟨(sC rfl AllS.nil'), AllH.nil'⟩ (fC ⟨(sC rfl (sC rfl AllS.nil')), AllH.nil'⟩ AllF.nil'))))))))))) ?_ ?_
         ·refine (pC ?_ (pC ?_ (pC ?_ (pC ?_ (pC ?_ (pC ?_ (pC ?_ (pC ?_ (pC ?_ (pC ?_ (pC ?_ AllStep.nil')))))))))))
          ·intro K rest fr hv htk k
           show AWops _ x _ _ K ⟨66, (upd 66 fr 2 (D.one (C.ref 0 0))), [(hv 0), (hv 1)]⟩
           refine s_fieldRef F.fo_30_4 (by decide) rfl k
          ·intro K rest fr hv htk k
           show AWops _ x _ _ K ⟨66, (upd 66 fr 54 (D.one (C.ref 0 4))), [(some (AObj.cells true (c_api_Inst a0))), (hv 1)]⟩
           refine s_load1 (c' := (C.p false (.sl a0.Latches.length (a0.Latches.flatMap e_i64)))) F.ag_28 rfl rfl k
          ·intro K rest fr hv htk k
           show AWops _ x _ _ K ⟨66, (upd 66 fr 5 (sc (.int .i64 x7))), _⟩
           refine s_move (d := (sc (.int .i64 x7))) rfl k
          ·intro K rest fr hv htk k
           show AWops _ x _ _ K ⟨66, (upd 66 (upd 66 fr 56 (sc (.int .i64 x7))) 55 (D.one (C.p false (.sl a0.Latches.length (a0.Latches.flatMap e_i64))))), [(hv 0), (hv 1)]⟩
           refine s_indexImm (ps := [P.v (.int .i64 v9)]) F.u_28 F.sz_3 rfl rfl pv9 qv9 (flat_at e_i64_len gv9 (e_i64_eq v9)) k
          ·intro K rest fr hv htk k
           show AWops _ x _ _ K ⟨66, (upd 66 fr 57 (D.one (C.peek false [P.v (.int .i64 v9)]))), [(hv 0), (hv 1)]⟩
           refine s_load1 (c' := (C.p true (.v (.int .i64 v9)))) F.ag_3 rfl rfl k
          ·intro K rest fr hv htk k
           show AWops _ x _ _ K ⟨66, (upd 66 fr 3 (D.one (C.ref 1 0))), [(hv 0), (hv 1)]⟩
           refine s_fieldRef F.fo_30_4 (by decide) rfl k
          ·intro K rest fr hv htk k
           show AWops _ x _ _ K ⟨66, (upd 66 fr 59 (D.one (C.ref 1 4))), [(hv 0), (some (AObj.cells true (c_api_Inst a1)))]⟩
           refine s_load1 (c' := (C.p false (.sl a1.Latches.length (a1.Latches.flatMap e_i64)))) F.ag_28 rfl rfl k
          ·intro K rest fr hv htk k
           show AWops _ x _ _ K ⟨66, (upd 66 fr 5 (sc (.int .i64 x7))), _⟩
           refine s_move (d := (sc (.int .i64 x7))) rfl k
          ·intro K rest fr hv htk k
           show AWops _ x _ _ K ⟨66, (upd 66 (upd 66 fr 61 (sc (.int .i64 x7))) 60 (D.one (C.p false (.sl a1.Latches.length (a1.Latches.flatMap e_i64))))), [(hv 0), (hv 1)]⟩
           refine s_indexImm (ps := [P.v (.int .i64 v10)]) F.u_28 F.sz_3 rfl rfl pv10 qv10 (flat_at e_i64_len gv10 (e_i64_eq v10)) k
          ·intro K rest fr hv htk k
           show AWops _ x _ _ K ⟨66, (upd 66 fr 62 (D.one (C.peek false [P.v (.int .i64 v10)]))), [(hv 0), (hv 1)]⟩
           refine s_load1 (c' := (C.p true (.v (.int .i64 v10)))) F.ag_3 rfl rfl k
          ·intro K rest fr hv htk k
           show AWops _ x _ _ K ⟨66, (upd 66 (upd 66 fr 63 (sc (.int .i64 v10))) 58 (sc (.int .i64 v9))), _⟩
           refine s_binI (v := (.bool (v9 != v10))) rfl rfl rfl k
         ·refine AWops.weak (st' := ⟨66, (upd 66 (upd 66 (upd 66 (upd 66 (upd 66 topF 2 (D.one (C.ref 0 0))) 3 (D.one (C.ref 1 0))) 50 (sc (.int .i64 (a0.Latches.length : Int)))) 51 (sc (.int .i64 x7))) 64 (sc (.bool (v9 != v10)))), [(some (AObj.cells true (c_api_Inst a0))), (some (AObj.cells true (c_api_Inst a1)))]⟩) (Weak.gen (kk := 0) [0, 1] [] hx rfl (by decide) (by decide) rfl rfl rfl (le_upd (le_upd (le_upd (le_upd (le_upd (le_top _) (.t (.one (.ref rfl)))) (.t (.one (.ref rfl)))) (.t (.one .sc))) (.t (.one .sc))) (.t (.one .sc))) (ac (.cells (fun h => h) (ac .sc (ac .sc (ac .sc (ac .sc (ac .same (ac .sc an))))))) (ac (.cells (fun h => h) (ac .sc (ac .sc (ac .sc (ac .sc (ac .same (ac .sc an))))))) an))) (AWops.nil ?_)
          rcases itH h with ⟨c11, h⟩ | ⟨c11, h⟩
          ·refine AW.cond_yes rfl c11 (AW.seq (AW.region ?_))
           refine s_assign (d := (sc (.bool false))) rfl (AWops.nil (AW.ret ?_))
           obtain rfl := Option.some.inj h
           exact ⟨_, rfl, (Weak.gen (kk := 0) [] [] rfl rfl (by decide) (by decide) rfl rfl rfl (le_upd (le_top _) (.t (.one .sc))) an)⟩
          ·refine AW.cond_no rfl c11 (AW.skip (AW.region ?_))
           refine s_binI (v := (.int .i64 (IntKind.i64.wrap (x7 + 1)))) rfl rfl rfl ?_
           refine s_move (d := (sc (.int .i64 (IntKind.i64.wrap (x7 + 1))))) rfl (AWops.nil ?_)
           exact ⟨_, ⟨66, (upd 66 (upd 66 (upd 66 (upd 66 topF 2 (D.one (C.ref 0 0))) 3 (D.one (C.ref 1 0))) 50 (sc (.int .i64 (a0.Latches.length : Int)))) 51 (sc (.int .i64 (IntKind.i64.wrap (x7 + 1))))), [(some (AObj.cells true (c_api_Inst a0))), (some (AObj.cells true (c_api_Inst a1)))]⟩, by omega, (Weak.gen (kk := 0) [0, 1] [] hx rfl (by decide) (by decide) rfl rfl rfl (le_upd (le_upd (le_upd (le_upd (le_top _) (.t (.one (.ref rfl)))) (.t (.one (.ref rfl)))) (.t (.one .sc))) (.t (.one .sc))) (ac (.cells (fun h => h) (ac .sc (ac .sc (ac .sc (ac .sc (ac .same (ac .sc an))))))) (ac (.cells (fun h => h) (ac .sc (ac .sc (ac .sc (ac .sc (ac .same (ac .sc an))))))) an))), by omega, IntKind.i64.wrap (x7 + 1), h, rfl⟩
        ·refine AW.cond_no rfl c8 (AW.exit (AW.seq (AW.region ?_)))
         refine s_assign (d := (sc (.bool true))) rfl (AWops.nil (AW.ret ?_))
         obtain rfl := Option.some.inj h
         exact ⟨_, rfl, (Weak.gen (kk := 0) [] [] rfl rfl (by decide) (by decide) rfl rfl rfl (le_upd (le_top _) (.t (.one .sc))) an)⟩
  ·iterate 5 refine AWops.guard_no rfl (nl rfl) rfl (by rw [c2] <;> rfl) ?_
   refine s_pick_yes (d := (sc (.bool true))) rfl (by rw [c2] <;> rfl) rfl ?_
   refine s_move (d := (sc (.bool true))) rfl ?_
   iterate 5 refine AWops.guard_no rfl (nl rfl) rfl rfl ?_
   refine s_pick_yes (d := (sc (.bool true))) rfl rfl rfl ?_
   refine s_move (d := (sc (.bool true))) rfl ?_
   iterate 5 refine AWops.guard_no rfl (nl rfl) rfl rfl ?_
   refine s_pick_yes (d := (sc (.bool true))) rfl rfl rfl ?_
   refine s_move (d := (sc (.bool true))) rfl ?_
   iterate 7 refine AWops.guard_no rfl (nl rfl) rfl rfl ?_
   refine s_pick_yes (d := (sc (.bool true))) rfl rfl rfl (AWops.nil ?_)
   refine AW.cond_yes rfl rfl (AW.seq (AW.region ?_))
   refine s_assign (d := (sc (.bool false))) rfl (AWops.nil (AW.ret ?_))
   obtain rfl := Option.some.inj h
   exact ⟨_, rfl, (Weak.gen (kk := 0) [] [] rfl rfl (by decide) (by decide) rfl rfl rfl (le_upd (le_top _) (.t (.one .sc))) an)⟩
 ·iterate 5 refine AWops.guard_no rfl (nl rfl) rfl (by rw [c1] <;> rfl) ?_
  refine s_pick_yes (d := (sc (.bool true))) rfl (by rw [c1] <;> rfl) rfl ?_
  refine s_move (d := (sc (.bool true))) rfl ?_
  iterate 5 refine AWops.guard_no rfl (nl rfl) rfl rfl ?_
  refine s_pick_yes (d := (sc (.bool true))) rfl rfl rfl ?_
  refine s_move (d := (sc (.bool true))) rfl ?_
  iterate 5 refine AWops.guard_no rfl (nl rfl) rfl rfl ?_
  refine s_pick_yes (d := (sc (.bool true))) rfl rfl rfl ?_
  refine s_move (d := (sc (.bool true))) rfl ?_
  iterate 5 refine AWops.guard_no rfl (nl rfl) rfl rfl ?_
  refine s_pick_yes (d := (sc (.bool true))) rfl rfl rfl ?_
  refine s_move (d := (sc (.bool true))) rfl ?_
  iterate 7 refine AWops.guard_no rfl (nl rfl) rfl rfl ?_
  refine s_pick_yes (d := (sc (.bool true))) rfl rfl rfl (AWops.nil ?_)
  refine AW.cond_yes rfl rfl (AW.seq (AW.region ?_))
  refine s_assign (d := (sc (.bool false))) rfl (AWops.nil (AW.ret ?_))
  obtain rfl := Option.some.inj h
  exact ⟨_, rfl, (Weak.gen (kk := 0) [] [] rfl rfl (by decide) (by decide) rfl rfl rfl (le_upd (le_top _) (.t (.one .sc))) an)⟩
mutual
def slices_EqualFunc_api_Inst_api_Inst_api_Inst_api_Inst.l0 : Nat → Int → (List api_Inst) → (List api_Inst) → Option Bool
 | 0, _, _, _ => none
 | k + 1, x2, a0, a1 => if (decide (x2 < (a0.length : Int))) = true then ((rd a0 x2).bind fun v4 => (rd a1 x2).bind fun v5 => (dossierref18_SameInst.f k v4 v5).bind fun r6 => if r6 = true then (slices_EqualFunc_api_Inst_api_Inst_api_Inst_api_Inst.l0 k (IntKind.i64.wrap (x2 + 1)) a0 a1) else (some false)) else (some true)
end
def slices_EqualFunc_api_Inst_api_Inst_api_Inst_api_Inst.f (k : Nat) (a0 : List api_Inst) (a1 : List api_Inst) : Option Bool := if ((a0.length : Int) != (a1.length : Int)) = true then (some false) else (slices_EqualFunc_api_Inst_api_Inst_api_Inst_api_Inst.l0 k 0 a0 a1)
theorem slices_EqualFunc_api_Inst_api_Inst_api_Inst_api_Inst.meets (k : Nat) (a0 : List api_Inst) (a1 : List api_Inst) (r : Bool) (h : slices_EqualFunc_api_Inst_api_Inst_api_Inst_api_Inst.f k a0 a1 = some r) : Meets Try.prog 24 [(D.one (C.p false (.sl a0.length (a0.flatMap e_api_Inst)))), (D.one (C.p false (.sl a1.length (a1.flatMap e_api_Inst)))), (D.one (C.clo 13 []))] [] (sc (.bool r)) [] := by
 unfold slices_EqualFunc_api_Inst_api_Inst_api_Inst_api_Inst.f at h
 refine Meets.of_body (n := 32) Try.func24 rfl rfl (nl rfl) fun x hx => ?_
 replace hx : x.k = 0 := hx
 show AW _ x _ _ ⟨32, fr0 [(D.one (C.p false (.sl a0.length (a0.flatMap e_api_Inst)))), (D.one (C.p false (.sl a1.length (a1.flatMap e_api_Inst)))), (D.one (C.clo 13 []))], []⟩
 refine AW.seq (AW.region ?_)
 refine s_assign (d := (sc (.bool false))) rfl (AWops.nil (AW.seq (AW.seq (AW.region ?_))))
 refine s_move (d := (D.one (C.p false (.sl a0.length (a0.flatMap e_api_Inst))))) rfl ?_
 refine s_len (n := a0.length) F.u_22 rfl (.inr ⟨(fun _ _ h => by cases h), ⟨_, rfl⟩⟩) ?_
 refine s_move (d := (D.one (C.p false (.sl a1.length (a1.flatMap e_api_Inst))))) rfl ?_
 refine s_len (n := a1.length) F.u_22 rfl (.inr ⟨(fun _ _ h => by cases h), ⟨_, rfl⟩⟩) ?_
 refine s_binI (v := (.bool ((a0.length : Int) != (a1.length : Int)))) rfl rfl rfl (AWops.nil ?_)
 rcases itH h with ⟨c1, h⟩ | ⟨c1, h⟩
 ·refine AW.cond_yes rfl c1 (AW.seq (AW.region ?_))
  refine s_assign (d := (sc (.bool false))) rfl (AWops.nil (AW.ret ?_))
  obtain rfl := Option.some.inj h
  exact ⟨_, rfl, (Weak.gen (kk := 0) [] [] rfl rfl (by decide) (by decide) rfl rfl rfl (le_upd (le_top _) (.t (.one .sc))) an)⟩
 ·refine AW.cond_no rfl c1 (AW.skip (AW.seq (AW.seq (AW.region ?_))))
  refine s_move (d := (D.one (C.p false (.sl a0.length (a0.flatMap e_api_Inst))))) rfl ?_
  refine s_len (n := a0.length) F.u_22 rfl (.inr ⟨(fun _ _ h => by cases h), ⟨_, rfl⟩⟩) ?_
  refine s_move (d := (sc (.int .i64 0))) rfl (AWops.nil (AW.block ?_))
  refine AW.loopw (st0 := ⟨32, (upd 32 (upd 32 (upd 32 (upd 32 (upd 32 topF 1 (D.one (C.p false (.sl a1.length (a1.flatMap e_api_Inst))))) 2 (D.one (C.clo 13 []))) 15 (D.one (C.p false (.sl a0.length (a0.flatMap e_api_Inst))))) 16 (sc (.int .i64 (a0.length : Int)))) 17 (sc (.int .i64 0))), []⟩) (fun kv st => kv ≤ k ∧ ∃ (x2 : Int), slices_EqualFunc_api_Inst_api_Inst_api_Inst_api_Inst.l0 kv x2 a0 a1 = some r ∧ st = ⟨32, (upd 32 (upd 32 (upd 32 (upd 32 (upd 32 topF 1 (D.one (C.p false (.sl a1.length (a1.flatMap e_api_Inst))))) 2 (D.one (C.clo 13 []))) 15 (D.one (C.p false (.sl a0.length (a0.flatMap e_api_Inst))))) 16 (sc (.int .i64 (a0.length : Int)))) 17 (sc (.int .i64 x2))), []⟩) (k := k) (Weak.gen (kk := 0) [] [] hx rfl (by decide) (by decide) rfl rfl rfl (le_upd (le_upd (le_upd (le_upd (le_upd (le_top _) (.t (.one .same))) (.t (.one (CLe.cloL an)))) (.t (.one .same))) (.t (.one .sc))) (.t (.one .sc))) an) ⟨Nat.le_refl _, 0, h, rfl⟩ ?_
  rintro ql0 st ⟨hkl0, x2, h, rfl⟩
  cases ql0 with
  | zero => exact absurd h (by simp [slices_EqualFunc_api_Inst_api_Inst_api_Inst_api_Inst.l0])
  | succ ql0 =>
   replace h := (slices_EqualFunc_api_Inst_api_Inst_api_Inst_api_Inst.l0.eq_2 _ _ _ _).symm.trans h
   refine AW.seq (AW.region ?_)
   refine s_binI (v := (.bool (decide (x2 < (a0.length : Int))))) rfl rfl rfl (AWops.nil (AW.seq ?_))
   rcases itH h with ⟨c3, h⟩ | ⟨c3, h⟩
   ·refine AW.cond_yes rfl c3 (AW.skip (AW.seq (AW.block (AW.seq (AW.region ?_)))))
    refine s_move (d := (sc (.int .i64 x2))) rfl ?_
    obtain ⟨v4, ev4, h⟩ := bnd h
    obtain ⟨pv4, qv4, gv4⟩ := rd_some ev4
    refine s_indexImm (ps := (p_api_Inst v4)) F.u_22 F.sz_30 rfl rfl pv4 qv4 (flat_at e_api_Inst_len gv4 (e_api_Inst_eq v4)) ?_
    refine s_loadN (ds := (c_api_Inst v4)) F.ag_30 F.sz_30 rfl rfl rfl ?_
    refine s_alloc (cs := [(C.p true (.v (.string (⟨#[]⟩ : ByteArray)))), (C.p true (.v (.string (⟨#[]⟩ : ByteArray)))), (C.p true (.v (.int .i64 0))), (C.p true (.v (.int .i64 0))), (C.p true (.v (.slice none 0 0))), (C.p true (.v (.int .i64 0)))]) F.z_30 rfl rfl ?_
    refine s_assign (d := (sc (.int .i64 x2))) rfl ?_
    refine s_store (cs' := (c_api_Inst v4)) rfl rfl rfl (List.cons_ne_nil _ _) rfl F.sz_30 (nl rfl) rfl (AWops.nil (AW.seq (AW.region ?_)))
    refine s_move (d := (D.one (C.p false (.sl a1.length (a1.flatMap e_api_Inst))))) rfl ?_
    refine s_move (d := (sc (.int .i64 x2))) rfl ?_
    obtain ⟨v5, ev5, h⟩ := bnd h
    obtain ⟨pv5, qv5, gv5⟩ := rd_some ev5
    refine s_indexImm (ps := (p_api_Inst v5)) F.u_22 F.sz_30 rfl rfl pv5 qv5 (flat_at e_api_Inst_len gv5 (e_api_Inst_eq v5)) ?_
    refine s_loadN (ds := (c_api_Inst v5)) F.ag_30 F.sz_30 rfl rfl rfl ?_
    refine s_alloc (cs := [(C.p true (.v (.string (⟨#[]⟩ : ByteArray)))), (C.p true (.v (.string (⟨#[]⟩ : ByteArray)))), (C.p true (.v (.int .i64 0))), (C.p true (.v (.int .i64 0))), (C.p true (.v (.slice none 0 0))), (C.p true (.v (.int .i64 0)))]) F.z_30 rfl rfl ?_
    refine s_store (cs' := (c_api_Inst v5)) rfl rfl rfl (List.cons_ne_nil _ _) rfl F.sz_30 (nl rfl) rfl (AWops.nil (AW.seq (AW.region ?_)))
    refine s_move (d := (D.one (C.clo 13 []))) rfl ?_
    refine s_loadN (ds := (c_api_Inst v4)) F.ag_30 F.sz_30 rfl rfl rfl ?_
    refine s_loadN (ds := (c_api_Inst v5)) F.ag_30 F.sz_30 rfl rfl rfl ?_
    obtain ⟨r6, er6, h⟩ := bnd h
    refine s_call2 (ρ := []) (br := false) (H2 := [(some (AObj.cells true (c_api_Inst v4))), (some (AObj.cells true (c_api_Inst v5)))]) (d := (sc (.bool r6))) F.ca_13 rfl rfl (ac (LendT.aggL (ac .sc (ac .sc (ac .sc (ac .sc (ac .imm (ac .sc an))))))) (ac (LendT.aggL (ac .sc (ac .sc (ac .sc (ac .sc (ac .imm (ac .sc an))))))) an)) an (by decide) rfl (dossierref18_SameInst.meets _ v4 v5 r6 er6) (.inl rfl) rfl rfl ?_
    refine s_not rfl (AWops.nil ?_)
    rcases itH h with ⟨c7, h⟩ | ⟨c7, h⟩
    ·refine AW.cond_no rfl (by rw [c7] <;> rfl) (AW.skip (AW.region ?_))
     refine s_binI (v := (.int .i64 (IntKind.i64.wrap (x2 + 1)))) rfl rfl rfl ?_
     refine s_move (d := (sc (.int .i64 (IntKind.i64.wrap (x2 + 1))))) rfl (AWops.nil ?_)
     exact ⟨_, ⟨32, (upd 32 (upd 32 (upd 32 (upd 32 (upd 32 topF 1 (D.one (C.p false (.sl a1.length (a1.flatMap e_api_Inst))))) 2 (D.one (C.clo 13 []))) 15 (D.one (C.p false (.sl a0.length (a0.flatMap e_api_Inst))))) 16 (sc (.int .i64 (a0.length : Int)))) 17 (sc (.int .i64 (IntKind.i64.wrap (x2 + 1))))), []⟩, by omega, (Weak.gen (kk := 0) [] [] hx rfl (by decide) (by decide) rfl rfl rfl (le_upd (le_upd (le_upd (le_upd (le_upd (le_top _) (.t (.one .same))) (.t (.one (CLe.cloL an)))) (.t (.one .same))) (.t (.one .sc))) (.t (.one .sc))) an), by omega, IntKind.i64.wrap (x2 + 1), h, rfl⟩
    ·refine AW.cond_yes rfl (by rw [c7] <;> rfl) (AW.seq (AW.region ?_))
     refine s_assign (d := (sc (.bool false))) rfl (AWops.nil (AW.ret ?_))
     obtain rfl := Option.some.inj h
     exact ⟨_, rfl, (Weak.gen (kk := 0) [] [] rfl rfl (by decide) (by decide) rfl rfl rfl (le_upd (le_top _) (.t (.one .sc))) an)⟩
   ·refine AW.cond_no rfl c3 (AW.exit (AW.seq (AW.region ?_)))
    refine s_assign (d := (sc (.bool true))) rfl (AWops.nil (AW.ret ?_))
    obtain rfl := Option.some.inj h
    exact ⟨_, rfl, (Weak.gen (kk := 0) [] [] rfl rfl (by decide) (by decide) rfl rfl rfl (le_upd (le_top _) (.t (.one .sc))) an)⟩
def dossierplain_SameInsts.f (k : Nat) (a0 : List api_Inst) (a1 : List api_Inst) : Option Bool := (slices_EqualFunc_api_Inst_api_Inst_api_Inst_api_Inst.f k a0 a1).bind fun r1 => some r1
theorem dossierplain_SameInsts.meets (k : Nat) (a0 : List api_Inst) (a1 : List api_Inst) (r : Bool) (h : dossierplain_SameInsts.f k a0 a1 = some r) : Meets Try.prog 8 [(D.one (C.p false (.sl a0.length (a0.flatMap e_api_Inst)))), (D.one (C.p false (.sl a1.length (a1.flatMap e_api_Inst))))] [] (sc (.bool r)) [] := by
 unfold dossierplain_SameInsts.f at h
 refine Meets.of_body (n := 8) Try.func8 rfl rfl (nl rfl) fun x hx => ?_
 replace hx : x.k = 0 := hx
 show AW _ x _ _ ⟨8, fr0 [(D.one (C.p false (.sl a0.length (a0.flatMap e_api_Inst)))), (D.one (C.p false (.sl a1.length (a1.flatMap e_api_Inst))))], []⟩
 refine AW.seq (AW.region ?_)
 refine s_assign (d := (sc (.bool false))) rfl (AWops.nil (AW.seq (AW.region ?_)))
 refine s_move (d := (D.one (C.p false (.sl a0.length (a0.flatMap e_api_Inst))))) rfl ?_
 refine s_move (d := (D.one (C.p false (.sl a1.length (a1.flatMap e_api_Inst))))) rfl ?_
 obtain ⟨r1, er1, h⟩ := bnd h
 refine s_call2 (ρ := []) (br := false) (H2 := []) (d := (sc (.bool r1))) F.ca_24 rfl rfl (ac (.one .imm) (ac (.one .imm) (ac (.one (LendC.cloL an)) an))) an (by decide) rfl (slices_EqualFunc_api_Inst_api_Inst_api_Inst_api_Inst.meets _ a0 a1 r1 er1) (.inl rfl) rfl rfl ?_
 refine s_assign (d := (sc (.bool r1))) rfl (AWops.nil (AW.ret ?_))
 obtain rfl := Option.some.inj h
 exact ⟨_, rfl, (Weak.gen (kk := 0) [] [] rfl rfl (by decide) (by decide) rfl rfl rfl (le_upd (le_top _) (.t (.one .sc))) an)⟩
def stringslite_HasPrefix.f (k : Nat) (a0 : ByteArray) (a1 : ByteArray) : Option Bool := if (decide ((a0.size : Int) ≥ (a1.size : Int))) = true then (if (decide (0 ≤ 0 ∧ 0 ≤ (a1.size : Int) ∧ (a1.size : Int) ≤ (a0.size : Int))) = true then (some ((a0.extract 0 (a1.size : Int).toNat).toList == a1.toList)) else none) else (some false)
theorem stringslite_HasPrefix.meets (k : Nat) (a0 : ByteArray) (a1 : ByteArray) (r : Bool) (h : stringslite_HasPrefix.f k a0 a1 = some r) : Meets Try.prog 51 [(sc (.string a0)), (sc (.string a1))] [] (sc (.bool r)) [] := by
 unfold stringslite_HasPrefix.f at h
 refine Meets.of_body (n := 18) Try.func51 rfl rfl (nl rfl) fun x hx => ?_
 replace hx : x.k = 0 := hx
 show AW _ x _ _ ⟨18, fr0 [(sc (.string a0)), (sc (.string a1))], []⟩
 refine AW.seq (AW.region ?_)
 refine s_assign (d := (sc (.bool false))) rfl (AWops.nil (AW.seq (AW.region ?_)))
 refine s_move (d := (sc (.string a0))) rfl ?_
 refine s_len (n := a0.size) F.u_9 rfl (.inl ⟨⟨_, _, rfl⟩, rfl⟩) ?_
 refine s_move (d := (sc (.string a1))) rfl ?_
 refine s_len (n := a1.size) F.u_9 rfl (.inl ⟨⟨_, _, rfl⟩, rfl⟩) ?_
 refine s_binI (v := (.bool (decide ((a0.size : Int) ≥ (a1.size : Int))))) rfl rfl rfl ?_
 refine s_move (d := (sc (.bool (decide ((a0.size : Int) ≥ (a1.size : Int)))))) rfl ?_
 rcases itH h with ⟨c1, h⟩ | ⟨c1, h⟩
 ·refine AWops.guard_yes rfl (nl rfl) rfl c1 ?_
  refine s_move (d := (sc (.string a0))) rfl ?_
  refine AWops.guard_yes rfl (nl rfl) rfl c1 ?_
  refine s_move (d := (sc (.string a1))) rfl ?_
  refine AWops.guard_yes rfl (nl rfl) rfl c1 ?_
  refine s_len (n := a1.size) F.u_9 rfl (.inl ⟨⟨_, _, rfl⟩, rfl⟩) ?_
  refine AWops.guard_yes rfl (nl rfl) rfl c1 ?_
  obtain ⟨c2, h⟩ := gdH h
  have dc2 := of_decide_eq_true c2
  refine s_sliceStr F.u_9 rfl .no (.yes rfl (by omega) rfl) (by omega) (by omega) ?_
  refine AWops.guard_yes rfl (nl rfl) rfl c1 ?_
  refine s_move (d := (sc (.string a1))) rfl ?_
  refine AWops.guard_yes rfl (nl rfl) rfl c1 ?_
  refine s_binS (v := (.bool ((a0.extract 0 (a1.size : Int).toNat).toList == a1.toList))) rfl rfl rfl ?_
  refine s_pick_yes (d := (sc (.bool ((a0.extract 0 (a1.size : Int).toNat).toList == a1.toList)))) rfl c1 rfl ?_
  refine s_assign (d := (sc (.bool ((a0.extract 0 (a1.size : Int).toNat).toList == a1.toList)))) rfl (AWops.nil (AW.ret ?_))
  obtain rfl := Option.some.inj h
  exact ⟨_, rfl, (Weak.gen (kk := 0) [] [] rfl rfl (by decide) (by decide) rfl rfl rfl (le_upd (le_top _) (.t (.one .sc))) an)⟩
 ·iterate 6 refine AWops.guard_no rfl (nl rfl) rfl c1 ?_
  refine s_pick_no (d := (sc (.bool false))) rfl c1 rfl ?_
  refine s_assign (d := (sc (.bool false))) rfl (AWops.nil (AW.ret ?_))
  obtain rfl := Option.some.inj h
  exact ⟨_, rfl, (Weak.gen (kk := 0) [] [] rfl rfl (by decide) (by decide) rfl rfl rfl (le_upd (le_top _) (.t (.one .sc))) an)⟩
def strings_HasPrefix.f (k : Nat) (a0 : ByteArray) (a1 : ByteArray) : Option Bool := (stringslite_HasPrefix.f k a0 a1).bind fun r1 => some r1
theorem strings_HasPrefix.meets (k : Nat) (a0 : ByteArray) (a1 : ByteArray) (r : Bool) (h : strings_HasPrefix.f k a0 a1 = some r) : Meets Try.prog 46 [(sc (.string a0)), (sc (.string a1))] [] (sc (.bool r)) [] := by
 unfold strings_HasPrefix.f at h
 refine Meets.of_body (n := 8) Try.func46 rfl rfl (nl rfl) fun x hx => ?_
 replace hx : x.k = 0 := hx
 show AW _ x _ _ ⟨8, fr0 [(sc (.string a0)), (sc (.string a1))], []⟩
 refine AW.seq (AW.region ?_)
 refine s_assign (d := (sc (.bool false))) rfl (AWops.nil (AW.seq (AW.region ?_)))
 refine s_move (d := (sc (.string a0))) rfl ?_
 refine s_move (d := (sc (.string a1))) rfl ?_
 obtain ⟨r1, er1, h⟩ := bnd h
 refine s_call2 (ρ := []) (br := false) (H2 := []) (d := (sc (.bool r1))) F.ca_51 rfl rfl (ac (.one .sc) (ac (.one .sc) an)) an (by decide) rfl (stringslite_HasPrefix.meets _ a0 a1 r1 er1) (.inl rfl) rfl rfl ?_
 refine s_assign (d := (sc (.bool r1))) rfl (AWops.nil (AW.ret ?_))
 obtain rfl := Option.some.inj h
 exact ⟨_, rfl, (Weak.gen (kk := 0) [] [] rfl rfl (by decide) (by decide) rfl rfl rfl (le_upd (le_top _) (.t (.one .sc))) an)⟩
def tree_Under.f (k : Nat) (a0 : ByteArray) (a1 : ByteArray) : Option Bool := if (decide (a1.size + (⟨#[47]⟩ : ByteArray).size ≤ 9223372036854775807)) = true then ((strings_HasPrefix.f k a0 (a1 ++ (⟨#[47]⟩ : ByteArray))).bind fun r2 => some r2) else none
theorem tree_Under.meets (k : Nat) (a0 : ByteArray) (a1 : ByteArray) (r : Bool) (h : tree_Under.f k a0 a1 = some r) : Meets Try.prog 29 [(sc (.string a0)), (sc (.string a1))] [] (sc (.bool r)) [] := by
 unfold tree_Under.f at h
 refine Meets.of_body (n := 9) Try.func29 rfl rfl (nl rfl) fun x hx => ?_
 replace hx : x.k = 0 := hx
 show AW _ x _ _ ⟨9, fr0 [(sc (.string a0)), (sc (.string a1))], []⟩
 refine AW.seq (AW.region ?_)
 refine s_assign (d := (sc (.bool false))) rfl (AWops.nil (AW.seq (AW.region ?_)))
 refine s_move (d := (sc (.string a0))) rfl ?_
 refine s_move (d := (sc (.string a1))) rfl ?_
 obtain ⟨c1, h⟩ := gdH h
 refine s_binS (v := (.string (a1 ++ (⟨#[47]⟩ : ByteArray)))) rfl rfl (if_neg (by have := of_decide_eq_true c1; omega)) ?_
 obtain ⟨r2, er2, h⟩ := bnd h
 refine s_call2 (ρ := []) (br := false) (H2 := []) (d := (sc (.bool r2))) F.ca_46 rfl rfl (ac (.one .sc) (ac (.one .sc) an)) an (by decide) rfl (strings_HasPrefix.meets _ a0 (a1 ++ (⟨#[47]⟩ : ByteArray)) r2 er2) (.inl rfl) rfl rfl ?_
 refine s_assign (d := (sc (.bool r2))) rfl (AWops.nil (AW.ret ?_))
 obtain rfl := Option.some.inj h
 exact ⟨_, rfl, (Weak.gen (kk := 0) [] [] rfl rfl (by decide) (by decide) rfl rfl rfl (le_upd (le_top _) (.t (.one .sc))) an)⟩
def tree_Below_1.f (k : Nat) (a0 : ByteArray) (p0 : ByteArray) : Option (Bool × ByteArray) := (tree_Under.f k a0 p0).bind fun r1 => some (r1, p0)
theorem tree_Below_1.meets (k : Nat) (a0 : ByteArray) (p0 : ByteArray) (r : Bool × ByteArray) (h : tree_Below_1.f k a0 p0 = some r) : Meets Try.prog 28 [(sc (.string a0)), (D.one (C.ref 0 0))] [(some (AObj.cells false [(C.p true (.v (.string p0)))]))] (sc (.bool r.1)) [(some (AObj.cells false [(C.p true (.v (.string r.2)))]))] := by
 unfold tree_Below_1.f at h
 refine Meets.of_body (n := 7) Try.func28 rfl rfl (nl rfl) fun x hx => ?_
 replace hx : x.k = 1 := hx
 show AW _ x _ _ ⟨7, fr0 [(sc (.string a0)), (D.one (C.ref 0 0))], [(some (AObj.cells false [(C.p true (.v (.string p0)))]))]⟩
 refine AW.seq (AW.region ?_)
 refine s_assign (d := (sc (.bool false))) rfl (AWops.nil (AW.seq (AW.region ?_)))
 refine s_move (d := (sc (.string a0))) rfl ?_
 refine s_load1 (c' := (C.p true (.v (.string p0)))) F.ag_9 rfl rfl ?_
 obtain ⟨r1, er1, h⟩ := bnd h
 refine s_call2 (ρ := []) (br := false) (H2 := [(some (AObj.cells false [(C.p true (.v (.string p0)))]))]) (d := (sc (.bool r1))) F.ca_29 rfl rfl (ac (.one .sc) (ac (.one .sc) an)) an (by decide) rfl (tree_Under.meets _ a0 p0 r1 er1) (.inl rfl) rfl rfl ?_
 refine s_assign (d := (sc (.bool r1))) rfl (AWops.nil (AW.ret ?_))
 obtain rfl := Option.some.inj h
 exact ⟨_, rfl, (Weak.gen (kk := 1) [0] [] rfl rfl (by decide) (by decide) rfl rfl rfl (le_upd (le_top _) (.t (.one .sc))) (ac (.cells (fun h => h) (ac .sc an)) an))⟩
mutual
def tree_some_25.l0 : Nat → ByteArray → (List api_Inst) → Int → api_Case → Option ((List api_Inst) × ByteArray)
 | 0, _, _, _, _ => none
 | k + 1, x1, x2, x3, a0 => if (decide (x3 < (a0.Insts.length : Int))) = true then ((rd a0.Insts x3).bind fun v5 => (tree_Below_1.f k v5.Path x1).bind fun r6 => if r6.1 = true then ((tree_own.f k v5).bind fun r8 => if (decide (x2.length + ([r8] : List api_Inst).length ≤ 1759218604441)) = true then (tree_some_25.l0 k r6.2 (x2 ++ ([r8] : List api_Inst)) (IntKind.i64.wrap (x3 + 1)) a0) else none) else (tree_some_25.l0 k r6.2 x2 (IntKind.i64.wrap (x3 + 1)) a0)) else (some (x2, x1))
end
def tree_some_25.f (k : Nat) (a0 : api_Case) (p0 : ByteArray) : Option ((List api_Inst) × ByteArray) := tree_some_25.l0 k p0 ([] : List api_Inst) 0 a0
theorem tree_some_25.meets (k : Nat) (a0 : api_Case) (p0 : ByteArray) (r : (List api_Inst) × ByteArray) (h : tree_some_25.f k a0 p0 = some r) : Meets Try.prog 25 [(D.agg (c_api_Case a0)), (D.one (C.clo 28 [(C.ref 0 0)]))] [(some (AObj.cells false [(C.p true (.v (.string p0)))]))] (D.one (C.own 1 0 r.1.length 6)) [(some (AObj.cells false [(C.p true (.v (.string r.2)))])), (some (AObj.cells true (rowC e_api_Inst r.1)))] := by
 unfold tree_some_25.f at h
 refine Meets.of_body (n := 26) Try.func25 rfl rfl (nl rfl) fun x hx => ?_
 replace hx : x.k = 1 := hx
 show AW _ x _ _ ⟨26, fr0 [(D.agg (c_api_Case a0)), (D.one (C.clo 28 [(C.ref 0 0)]))], [(some (AObj.cells false [(C.p true (.v (.string p0)))]))]⟩
 refine AW.seq (AW.region ?_)
 refine s_box (cs := (c_api_Case a0)) rfl (List.cons_ne_nil _ _) rfl ?_
 refine s_assign (d := (sc (.slice none 0 0))) rfl (AWops.nil (AW.seq (AW.region ?_)))
 refine s_assign (d := (sc (.slice none 0 0))) rfl (AWops.nil (AW.seq (AW.seq (AW.region ?_))))
 refine s_fieldRef F.fo_25_2 (by decide) rfl ?_
 refine s_load1 (c' := (C.p false (.sl a0.Insts.length (a0.Insts.flatMap e_api_Inst)))) F.ag_22 rfl rfl ?_
 refine s_len (n := a0.Insts.length) F.u_22 rfl (.inr ⟨(fun _ _ h => by cases h), ⟨_, rfl⟩⟩) ?_
 refine s_move (d := (sc (.int .i64 0))) rfl (AWops.nil (AW.block ?_))
 refine AW.loopw (st0 := ⟨26, (upd 26 (upd 26 (upd 26 (upd 26 (upd 26 topF 1 (D.one (C.clo 28 [(C.ref 0 0)]))) 5 (D.one (C.own 1 0 ([] : List api_Inst).length 6))) 9 (D.one (C.p false (.sl a0.Insts.length (a0.Insts.flatMap e_api_Inst))))) 10 (sc (.int .i64 (a0.Insts.length : Int)))) 11 (sc (.int .i64 0))), [(some (AObj.cells false [(C.p true (.v (.string p0)))])), (some (AObj.cells true (rowC e_api_Inst ([] : List api_Inst))))]⟩) (fun kv st => kv ≤ k ∧ ∃ (x1 : ByteArray) (x2 : List api_Inst) (x3 : Int), tree_some_25.l0 kv x1 x2 x3 a0 = some r ∧ st = ⟨26, (upd 26 (upd 26 (upd 26 (upd 26 (upd 26 topF 1 (D.one (C.clo 28 [(C.ref 0 0)]))) 5 (D.one (C.own 1 0 x2.length 6))) 9 (D.one (C.p false (.sl a0.Insts.length (a0.Insts.flatMap e_api_Inst))))) 10 (sc (.int .i64 (a0.Insts.length : Int)))) 11 (sc (.int .i64 x3))), [(some (AObj.cells false [(C.p true (.v (.string x1)))])), (some (AObj.cells true (rowC e_api_Inst x2)))]⟩) (k := k) (Weak.trans (Weak.nil (sz := 6) (i := 5) rfl) (Weak.gen (kk := 1) [0, 2] [] hx rfl (by decide) (by decide) rfl rfl rfl (le_upd (le_upd (le_upd (le_upd (le_upd (le_top _) (.t (.one (CLe.cloL (ac (.ref rfl) an))))) (.t (.one (.own rfl)))) (.t (.one .same))) (.t (.one .sc))) (.t (.one .sc))) (ac (.cells (fun h => h) (ac .sc an)) (ac (.cells (fun h => h) an) an)))) ⟨Nat.le_refl _, p0, ([] : List api_Inst), 0, h, rfl⟩ ?_
 rintro ql0 st ⟨hkl0, x1, x2, x3, h, rfl⟩
 cases ql0 with
 | zero => exact absurd h (by simp [tree_some_25.l0])
 | succ ql0 =>
  replace h := (tree_some_25.l0.eq_2 _ _ _ _ _).symm.trans h
  refine AW.seq (AW.region ?_)
  refine s_binI (v := (.bool (decide (x3 < (a0.Insts.length : Int))))) rfl rfl rfl (AWops.nil (AW.seq ?_))
  rcases itH h with ⟨c4, h⟩ | ⟨c4, h⟩
  ·refine AW.cond_yes rfl c4 (AW.skip (AW.seq (AW.block (AW.seq (AW.region ?_)))))
   obtain ⟨v5, ev5, h⟩ := bnd h
   obtain ⟨pv5, qv5, gv5⟩ := rd_some ev5
   refine s_indexImm (ps := (p_api_Inst v5)) F.u_22 F.sz_30 rfl rfl pv5 qv5 (flat_at e_api_Inst_len gv5 (e_api_Inst_eq v5)) ?_
   refine s_loadN (ds := (c_api_Inst v5)) F.ag_30 F.sz_30 rfl rfl rfl ?_
   refine s_alloc (cs := [(C.p true (.v (.string (⟨#[]⟩ : ByteArray)))), (C.p true (.v (.string (⟨#[]⟩ : ByteArray)))), (C.p true (.v (.int .i64 0))), (C.p true (.v (.int .i64 0))), (C.p true (.v (.slice none 0 0))), (C.p true (.v (.int .i64 0)))]) F.z_30 rfl rfl ?_
   refine s_store (cs' := (c_api_Inst v5)) rfl rfl rfl (List.cons_ne_nil _ _) rfl F.sz_30 (nl rfl) rfl (AWops.nil (AW.seq (AW.region ?_)))
   refine s_move (d := (D.one (C.clo 28 [(C.ref 0 0)]))) rfl ?_
   refine s_fieldRef F.fo_30_0 (by decide) rfl ?_
   refine s_load1 (c' := (C.p true (.v (.string v5.Path)))) F.ag_9 rfl rfl ?_
   obtain ⟨r6, er6, h⟩ := bnd h
   refine s_call2 (ρ := [0]) (br := false) (H2 := [(some (AObj.cells false [(C.p true (.v (.string r6.2)))])), (some (AObj.cells true (rowC e_api_Inst x2))), (some (AObj.cells true (c_api_Inst v5)))]) (d := (sc (.bool r6.1))) F.ca_28 rfl rfl (ac (.one .sc) (ac (.one (.ref rfl)) an)) (ac (.cells (ac .sc an)) an) (by decide) rfl (tree_Below_1.meets _ v5.Path x1 r6 er6) (.inl rfl) rfl rfl (AWops.nil ?_)
   rcases itH h with ⟨c7, h⟩ | ⟨c7, h⟩
   ·refine AW.cond_yes rfl c7 (AW.region ?_)
    refine s_move (d := (D.one (C.own 1 0 x2.length 6))) rfl ?_
    refine s_loadN (ds := (c_api_Inst v5)) F.ag_30 F.sz_30 rfl rfl rfl ?_
    obtain ⟨r8, er8, h⟩ := bnd h
    refine s_call2 (ρ := []) (br := false) (H2 := [(some (AObj.cells false [(C.p true (.v (.string r6.2)))])), (some (AObj.cells true (rowC e_api_Inst x2))), (some (AObj.cells true (c_api_Inst v5)))]) (d := (D.agg (c_api_Inst r8))) F.ca_22 rfl rfl (ac (LendT.aggL (ac .sc (ac .sc (ac .sc (ac .sc (ac .imm (ac .sc an))))))) an) an (by decide) rfl (tree_own.meets _ v5 r8 er8) (.inl rfl) rfl rfl ?_
    refine s_buildSlice (n := 1) (ps := [(0, (D.agg (c_api_Inst r8)))]) (cs := rowC e_api_Inst ([r8] : List api_Inst)) F.u_22 F.sz_30 F.z_30 rfl rfl (by decide) (by decide) rfl rfl ?_
    obtain ⟨c9, h⟩ := gdH h
    have dc9 := of_decide_eq_true c9
    refine t_append (xs := x2) (ys := ([r8] : List api_Inst)) (zs := x2 ++ ([r8] : List api_Inst)) (H' := [(some (AObj.cells false [(C.p true (.v (.string r6.2)))])), none, (some (AObj.cells true (c_api_Inst v5))), (some (AObj.cells true (rowC e_api_Inst ([r8] : List api_Inst)))), (some (AObj.cells true (rowC e_api_Inst (x2 ++ ([r8] : List api_Inst)))))]) F.u_22 F.in_30 rfl e_api_Inst_len (.own rfl rfl) (.own rfl rfl) F.u_22 (by omega) (by omega) rfl rfl ?_
    refine s_assign (d := (D.one (C.own 4 0 ((x2 ++ ([r8] : List api_Inst)).length) 6))) rfl (AWops.nil (AW.region ?_))
    refine s_binI (v := (.int .i64 (IntKind.i64.wrap (x3 + 1)))) rfl rfl rfl ?_
    refine s_move (d := (sc (.int .i64 (IntKind.i64.wrap (x3 + 1))))) rfl (AWops.nil ?_)
    exact ⟨_, ⟨26, (upd 26 (upd 26 (upd 26 (upd 26 (upd 26 topF 1 (D.one (C.clo 28 [(C.ref 0 0)]))) 5 (D.one (C.own 1 0 (x2 ++ ([r8] : List api_Inst)).length 6))) 9 (D.one (C.p false (.sl a0.Insts.length (a0.Insts.flatMap e_api_Inst))))) 10 (sc (.int .i64 (a0.Insts.length : Int)))) 11 (sc (.int .i64 (IntKind.i64.wrap (x3 + 1))))), [(some (AObj.cells false [(C.p true (.v (.string r6.2)))])), (some (AObj.cells true (rowC e_api_Inst (x2 ++ ([r8] : List api_Inst)))))]⟩, by omega, (Weak.gen (kk := 1) [0, 4] [] hx rfl (by decide) (by decide) rfl rfl rfl (le_upd (le_upd (le_upd (le_upd (le_upd (le_top _) (.t (.one (CLe.cloL (ac (.ref rfl) an))))) (.t (.one (.own rfl)))) (.t (.one .same))) (.t (.one .sc))) (.t (.one .sc))) (ac (.cells (fun h => h) (ac .sc an)) (ac (.cells (fun h => h) (all2_row _)) an))), by omega, r6.2, x2 ++ ([r8] : List api_Inst), IntKind.i64.wrap (x3 + 1), h, rfl⟩
   ·refine AW.cond_no rfl c7 (AW.skip (AW.region ?_))
    refine s_binI (v := (.int .i64 (IntKind.i64.wrap (x3 + 1)))) rfl rfl rfl ?_
    refine s_move (d := (sc (.int .i64 (IntKind.i64.wrap (x3 + 1))))) rfl (AWops.nil ?_)
    exact ⟨_, ⟨26, (upd 26 (upd 26 (upd 26 (upd 26 (upd 26 topF 1 (D.one (C.clo 28 [(C.ref 0 0)]))) 5 (D.one (C.own 1 0 x2.length 6))) 9 (D.one (C.p false (.sl a0.Insts.length (a0.Insts.flatMap e_api_Inst))))) 10 (sc (.int .i64 (a0.Insts.length : Int)))) 11 (sc (.int .i64 (IntKind.i64.wrap (x3 + 1))))), [(some (AObj.cells false [(C.p true (.v (.string r6.2)))])), (some (AObj.cells true (rowC e_api_Inst x2)))]⟩, by omega, (Weak.gen (kk := 1) [0, 1] [] hx rfl (by decide) (by decide) rfl rfl rfl (le_upd (le_upd (le_upd (le_upd (le_upd (le_top _) (.t (.one (CLe.cloL (ac (.ref rfl) an))))) (.t (.one (.own rfl)))) (.t (.one .same))) (.t (.one .sc))) (.t (.one .sc))) (ac (.cells (fun h => h) (ac .sc an)) (ac (.cells (fun h => h) (all2_row _)) an))), by omega, r6.2, x2, IntKind.i64.wrap (x3 + 1), h, rfl⟩
  ·refine AW.cond_no rfl c4 (AW.exit (AW.seq (AW.region ?_)))
   refine s_move (d := (D.one (C.own 1 0 x2.length 6))) rfl ?_
   refine s_assign (d := (D.one (C.own 1 0 x2.length 6))) rfl (AWops.nil (AW.ret ?_))
   obtain rfl := Option.some.inj h
   exact ⟨_, rfl, (Weak.gen (kk := 1) [0, 1] [] rfl rfl (by decide) (by decide) rfl rfl rfl (le_upd (le_top _) (.t (.one (.own rfl)))) (ac (.cells (fun h => h) (ac .sc an)) (ac (.cells (fun h => h) (all2_row _)) an)))⟩
def tree_Below.f (k : Nat) (a0 : api_Case) (a1 : ByteArray) : Option (List api_Inst) := (tree_some_25.f k a0 a1).bind fun r1 => some r1.1
theorem tree_Below.meets (k : Nat) (a0 : api_Case) (a1 : ByteArray) (r : (List api_Inst)) (h : tree_Below.f k a0 a1 = some r) : Meets Try.prog 11 [(D.agg (c_api_Case a0)), (sc (.string a1))] [] (D.one (C.own 0 0 r.length 6)) [(some (AObj.cells true (rowC e_api_Inst r)))] := by
 unfold tree_Below.f at h
 refine Meets.of_body (n := 8) Try.func11 rfl rfl (nl rfl) fun x hx => ?_
 replace hx : x.k = 0 := hx
 show AW _ x _ _ ⟨8, fr0 [(D.agg (c_api_Case a0)), (sc (.string a1))], []⟩
 refine AW.seq (AW.region ?_)
 refine s_box (cs := (c_api_Case a0)) rfl (List.cons_ne_nil _ _) rfl ?_
 refine s_box (cs := [(C.p true (.v (.string a1)))]) rfl (List.cons_ne_nil _ _) rfl ?_
 refine s_assign (d := (sc (.slice none 0 0))) rfl (AWops.nil (AW.seq (AW.region ?_)))
 refine s_loadN (ds := (c_api_Case a0)) F.ag_25 F.sz_25 rfl rfl rfl ?_
 refine s_func (cs := [(C.ref 1 0)]) rfl ?_
 obtain ⟨r1, er1, h⟩ := bnd h
 refine s_call2 (ρ := [1]) (br := false) (H2 := [(some (AObj.cells true (c_api_Case a0))), (some (AObj.cells true [(C.p true (.v (.string r1.2)))])), (some (AObj.cells true (rowC e_api_Inst r1.1)))]) (d := (D.one (C.own 2 0 r1.1.length 6))) F.ca_25 rfl rfl (ac (LendT.aggL (ac .sc (ac .sc (ac .imm (ac .imm (ac .sc an)))))) (ac (.one (LendC.cloL (ac (.ref rfl) an))) an)) (ac (.cells (ac .sc an)) an) (by decide) rfl (tree_some_25.meets _ a0 a1 r1 er1) (.inl rfl) (by first | rfl | (simp only [mergeH2, orF, Bool.false_or, Bool.or_false, Bool.true_or, Bool.or_true, mergeAt, mergeObj, renO, ren_row, List.drop_succ_cons, List.drop_zero, List.map_cons, List.map_nil, Option.map_some, Option.map_none, List.length_cons, List.length_nil, Nat.zero_add, List.append_assoc, List.cons_append, List.nil_append]; done) | (simp only [mergeH2, orF, Bool.false_or, Bool.or_false, Bool.true_or, Bool.or_true, mergeAt, mergeObj, renO, ren_row, List.drop_succ_cons, List.drop_zero, List.map_cons, List.map_nil, Option.map_some, Option.map_none, List.length_cons, List.length_nil, Nat.zero_add, List.append_assoc, List.cons_append, List.nil_append]; rfl)) rfl ?_
 refine s_assign (d := (D.one (C.own 2 0 r1.1.length 6))) rfl (AWops.nil (AW.ret ?_))
 obtain rfl := Option.some.inj h
 exact ⟨_, rfl, (Weak.gen (kk := 0) [2] [] rfl rfl (by decide) (by decide) rfl rfl rfl (le_upd (le_top _) (.t (.one (.own rfl)))) (ac (.cells (fun h => h) (all2_row _)) an))⟩
def dossierref18_Under.f (k : Nat) (a0 : ByteArray) (a1 : ByteArray) : Option Bool := if (decide ((a0.size : Int) > (a1.size : Int))) = true then (if (decide (0 ≤ 0 ∧ 0 ≤ (IntKind.i64.wrap ((a1.size : Int) + 1)) ∧ (IntKind.i64.wrap ((a1.size : Int) + 1)) ≤ (a0.size : Int))) = true then (if (decide (a1.size + (⟨#[47]⟩ : ByteArray).size ≤ 9223372036854775807)) = true then (some ((a0.extract 0 (IntKind.i64.wrap ((a1.size : Int) + 1)).toNat).toList == (a1 ++ (⟨#[47]⟩ : ByteArray)).toList)) else none) else none) else (some false)
theorem dossierref18_Under.meets (k : Nat) (a0 : ByteArray) (a1 : ByteArray) (r : Bool) (h : dossierref18_Under.f k a0 a1 = some r) : Meets Try.prog 30 [(sc (.string a0)), (sc (.string a1))] [] (sc (.bool r)) [] := by
 unfold dossierref18_Under.f at h
 refine Meets.of_body (n := 20) Try.func30 rfl rfl (nl rfl) fun x hx => ?_
 replace hx : x.k = 0 := hx
 show AW _ x _ _ ⟨20, fr0 [(sc (.string a0)), (sc (.string a1))], []⟩
 refine AW.seq (AW.region ?_)
 refine s_assign (d := (sc (.bool false))) rfl (AWops.nil (AW.seq (AW.region ?_)))
 refine s_move (d := (sc (.string a0))) rfl ?_
 refine s_len (n := a0.size) F.u_9 rfl (.inl ⟨⟨_, _, rfl⟩, rfl⟩) ?_
 refine s_move (d := (sc (.string a1))) rfl ?_
 refine s_len (n := a1.size) F.u_9 rfl (.inl ⟨⟨_, _, rfl⟩, rfl⟩) ?_
 refine s_binI (v := (.bool (decide ((a0.size : Int) > (a1.size : Int))))) rfl rfl rfl ?_
 refine s_move (d := (sc (.bool (decide ((a0.size : Int) > (a1.size : Int)))))) rfl ?_
 rcases itH h with ⟨c1, h⟩ | ⟨c1, h⟩
 ·refine AWops.guard_yes rfl (nl rfl) rfl c1 ?_
  refine s_move (d := (sc (.string a0))) rfl ?_
  refine AWops.guard_yes rfl (nl rfl) rfl c1 ?_
  refine s_move (d := (sc (.string a1))) rfl ?_
  refine AWops.guard_yes rfl (nl rfl) rfl c1 ?_
  refine s_len (n := a1.size) F.u_9 rfl (.inl ⟨⟨_, _, rfl⟩, rfl⟩) ?_
  refine AWops.guard_yes rfl (nl rfl) rfl c1 ?_
  refine s_binI (v := (.int .i64 (IntKind.i64.wrap ((a1.size : Int) + 1)))) rfl rfl rfl ?_
  refine AWops.guard_yes rfl (nl rfl) rfl c1 ?_
  obtain ⟨c2, h⟩ := gdH h
  have dc2 := of_decide_eq_true c2
  refine s_sliceStr F.u_9 rfl .no (.yes rfl (by omega) rfl) (by omega) (by omega) ?_
  refine AWops.guard_yes rfl (nl rfl) rfl c1 ?_
  refine s_move (d := (sc (.string a1))) rfl ?_
  refine AWops.guard_yes rfl (nl rfl) rfl c1 ?_
  obtain ⟨c3, h⟩ := gdH h
  refine s_binS (v := (.string (a1 ++ (⟨#[47]⟩ : ByteArray)))) rfl rfl (if_neg (by have := of_decide_eq_true c3; omega)) ?_
  refine AWops.guard_yes rfl (nl rfl) rfl c1 ?_
  refine s_binS (v := (.bool ((a0.extract 0 (IntKind.i64.wrap ((a1.size : Int) + 1)).toNat).toList == (a1 ++ (⟨#[47]⟩ : ByteArray)).toList))) rfl rfl rfl ?_
  refine s_pick_yes (d := (sc (.bool ((a0.extract 0 (IntKind.i64.wrap ((a1.size : Int) + 1)).toNat).toList == (a1 ++ (⟨#[47]⟩ : ByteArray)).toList)))) rfl c1 rfl ?_
  refine s_assign (d := (sc (.bool ((a0.extract 0 (IntKind.i64.wrap ((a1.size : Int) + 1)).toNat).toList == (a1 ++ (⟨#[47]⟩ : ByteArray)).toList)))) rfl (AWops.nil (AW.ret ?_))
  obtain rfl := Option.some.inj h
  exact ⟨_, rfl, (Weak.gen (kk := 0) [] [] rfl rfl (by decide) (by decide) rfl rfl rfl (le_upd (le_top _) (.t (.one .sc))) an)⟩
 ·iterate 8 refine AWops.guard_no rfl (nl rfl) rfl c1 ?_
  refine s_pick_no (d := (sc (.bool false))) rfl c1 rfl ?_
  refine s_assign (d := (sc (.bool false))) rfl (AWops.nil (AW.ret ?_))
  obtain rfl := Option.some.inj h
  exact ⟨_, rfl, (Weak.gen (kk := 0) [] [] rfl rfl (by decide) (by decide) rfl rfl rfl (le_upd (le_top _) (.t (.one .sc))) an)⟩
mutual
def dossierref18_Below.l0 : Nat → (List api_Inst) → Int → api_Case → ByteArray → Option (List api_Inst)
 | 0, _, _, _, _ => none
 | k + 1, x1, x2, a0, a1 => if (decide (x2 < (a0.Insts.length : Int))) = true then ((rd a0.Insts x2).bind fun v4 => (dossierref18_Under.f k v4.Path a1).bind fun r5 => if r5 = true then ((dossierref18_CopyInst.f k v4).bind fun r7 => if (decide (x1.length + ([r7] : List api_Inst).length ≤ 1759218604441)) = true then (dossierref18_Below.l0 k (x1 ++ ([r7] : List api_Inst)) (IntKind.i64.wrap (x2 + 1)) a0 a1) else none) else (dossierref18_Below.l0 k x1 (IntKind.i64.wrap (x2 + 1)) a0 a1)) else (some x1)
end
def dossierref18_Below.f (k : Nat) (a0 : api_Case) (a1 : ByteArray) : Option (List api_Inst) := dossierref18_Below.l0 k ([] : List api_Inst) 0 a0 a1
theorem dossierref18_Below.meets (k : Nat) (a0 : api_Case) (a1 : ByteArray) (r : (List api_Inst)) (h : dossierref18_Below.f k a0 a1 = some r) : Meets Try.prog 12 [(D.agg (c_api_Case a0)), (sc (.string a1))] [] (D.one (C.own 0 0 r.length 6)) [(some (AObj.cells true (rowC e_api_Inst r)))] := by
 unfold dossierref18_Below.f at h
 refine Meets.of_body (n := 26) Try.func12 rfl rfl (nl rfl) fun x hx => ?_
 replace hx : x.k = 0 := hx
 show AW _ x _ _ ⟨26, fr0 [(D.agg (c_api_Case a0)), (sc (.string a1))], []⟩
 refine AW.seq (AW.region ?_)
 refine s_box (cs := (c_api_Case a0)) rfl (List.cons_ne_nil _ _) rfl ?_
 refine s_assign (d := (sc (.slice none 0 0))) rfl (AWops.nil (AW.seq (AW.region ?_)))
 refine s_assign (d := (sc (.slice none 0 0))) rfl (AWops.nil (AW.seq (AW.seq (AW.region ?_))))
 refine s_fieldRef F.fo_25_2 (by decide) rfl ?_
 refine s_load1 (c' := (C.p false (.sl a0.Insts.length (a0.Insts.flatMap e_api_Inst)))) F.ag_22 rfl rfl ?_
 refine s_len (n := a0.Insts.length) F.u_22 rfl (.inr ⟨(fun _ _ h => by cases h), ⟨_, rfl⟩⟩) ?_
 refine s_move (d := (sc (.int .i64 0))) rfl (AWops.nil (AW.block ?_))
 refine AW.loopw (st0 := ⟨26, (upd 26 (upd 26 (upd 26 (upd 26 (upd 26 topF 1 (sc (.string a1))) 5 (D.one (C.own 0 0 ([] : List api_Inst).length 6))) 9 (D.one (C.p false (.sl a0.Insts.length (a0.Insts.flatMap e_api_Inst))))) 10 (sc (.int .i64 (a0.Insts.length : Int)))) 11 (sc (.int .i64 0))), [(some (AObj.cells true (rowC e_api_Inst ([] : List api_Inst))))]⟩) (fun kv st => kv ≤ k ∧ ∃ (x1 : List api_Inst) (x2 : Int), dossierref18_Below.l0 kv x1 x2 a0 a1 = some r ∧ st = ⟨26, (upd 26 (upd 26 (upd 26 (upd 26 (upd 26 topF 1 (sc (.string a1))) 5 (D.one (C.own 0 0 x1.length 6))) 9 (D.one (C.p false (.sl a0.Insts.length (a0.Insts.flatMap e_api_Inst))))) 10 (sc (.int .i64 (a0.Insts.length : Int)))) 11 (sc (.int .i64 x2))), [(some (AObj.cells true (rowC e_api_Inst x1)))]⟩) (k := k) (Weak.trans (Weak.nil (sz := 6) (i := 5) rfl) (Weak.gen (kk := 0) [1] [] hx rfl (by decide) (by decide) rfl rfl rfl (le_upd (le_upd (le_upd (le_upd (le_upd (le_top _) (.t (.one .sc))) (.t (.one (.own rfl)))) (.t (.one .same))) (.t (.one .sc))) (.t (.one .sc))) (ac (.cells (fun h => h) an) an))) ⟨Nat.le_refl _, ([] : List api_Inst), 0, h, rfl⟩ ?_
 rintro ql0 st ⟨hkl0, x1, x2, h, rfl⟩
 cases ql0 with
 | zero => exact absurd h (by simp [dossierref18_Below.l0])
 | succ ql0 =>
  replace h := (dossierref18_Below.l0.eq_2 _ _ _ _ _).symm.trans h
  refine AW.seq (AW.region ?_)
  refine s_binI (v := (.bool (decide (x2 < (a0.Insts.length : Int))))) rfl rfl rfl (AWops.nil (AW.seq ?_))
  rcases itH h with ⟨c3, h⟩ | ⟨c3, h⟩
  ·refine AW.cond_yes rfl c3 (AW.skip (AW.seq (AW.block (AW.seq (AW.region ?_)))))
   obtain ⟨v4, ev4, h⟩ := bnd h
   obtain ⟨pv4, qv4, gv4⟩ := rd_some ev4
   refine s_indexImm (ps := (p_api_Inst v4)) F.u_22 F.sz_30 rfl rfl pv4 qv4 (flat_at e_api_Inst_len gv4 (e_api_Inst_eq v4)) ?_
   refine s_loadN (ds := (c_api_Inst v4)) F.ag_30 F.sz_30 rfl rfl rfl ?_
   refine s_alloc (cs := [(C.p true (.v (.string (⟨#[]⟩ : ByteArray)))), (C.p true (.v (.string (⟨#[]⟩ : ByteArray)))), (C.p true (.v (.int .i64 0))), (C.p true (.v (.int .i64 0))), (C.p true (.v (.slice none 0 0))), (C.p true (.v (.int .i64 0)))]) F.z_30 rfl rfl ?_
   refine s_store (cs' := (c_api_Inst v4)) rfl rfl rfl (List.cons_ne_nil _ _) rfl F.sz_30 (nl rfl) rfl (AWops.nil (AW.seq (AW.region ?_)))
   refine s_fieldRef F.fo_30_0 (by decide) rfl ?_
   refine s_load1 (c' := (C.p true (.v (.string v4.Path)))) F.ag_9 rfl rfl ?_
   refine s_move (d := (sc (.string a1))) rfl ?_
   obtain ⟨r5, er5, h⟩ := bnd h
   refine s_call2 (ρ := []) (br := false) (H2 := [(some (AObj.cells true (rowC e_api_Inst x1))), (some (AObj.cells true (c_api_Inst v4)))]) (d := (sc (.bool r5))) F.ca_30 rfl rfl (ac (.one .sc) (ac (.one .sc) an)) an (by decide) rfl (dossierref18_Under.meets _ v4.Path a1 r5 er5) (.inl rfl) rfl rfl (AWops.nil ?_)
   rcases itH h with ⟨c6, h⟩ | ⟨c6, h⟩
   ·refine AW.cond_yes rfl c6 (AW.region ?_)
    refine s_move (d := (D.one (C.own 0 0 x1.length 6))) rfl ?_
    refine s_loadN (ds := (c_api_Inst v4)) F.ag_30 F.sz_30 rfl rfl rfl ?_
    obtain ⟨r7, er7, h⟩ := bnd h
    refine s_call2 (ρ := []) (br := false) (H2 := [(some (AObj.cells true (rowC e_api_Inst x1))), (some (AObj.cells true (c_api_Inst v4)))]) (d := (D.agg (c_api_Inst r7))) F.ca_23 rfl rfl (ac (LendT.aggL (ac .sc (ac .sc (ac .sc (ac .sc (ac .imm (ac .sc an))))))) an) an (by decide) rfl (dossierref18_CopyInst.meets _ v4 r7 er7) (.inl rfl) rfl rfl ?_
    refine s_buildSlice (n := 1) (ps := [(0, (D.agg (c_api_Inst r7)))]) (cs := rowC e_api_Inst ([r7] : List api_Inst)) F.u_22 F.sz_30 F.z_30 rfl rfl (by decide) (by decide) rfl rfl ?_
    obtain ⟨c8, h⟩ := gdH h
    have dc8 := of_decide_eq_true c8
    refine t_append (xs := x1) (ys := ([r7] : List api_Inst)) (zs := x1 ++ ([r7] : List api_Inst)) (H' := [none, (some (AObj.cells true (c_api_Inst v4))), (some (AObj.cells true (rowC e_api_Inst ([r7] : List api_Inst)))), (some (AObj.cells true (rowC e_api_Inst (x1 ++ ([r7] : List api_Inst)))))]) F.u_22 F.in_30 rfl e_api_Inst_len (.own rfl rfl) (.own rfl rfl) F.u_22 (by omega) (by omega) rfl rfl ?_
    refine s_assign (d := (D.one (C.own 3 0 ((x1 ++ ([r7] : List api_Inst)).length) 6))) rfl (AWops.nil (AW.region ?_))
    refine s_binI (v := (.int .i64 (IntKind.i64.wrap (x2 + 1)))) rfl rfl rfl ?_
    refine s_move (d := (sc (.int .i64 (IntKind.i64.wrap (x2 + 1))))) rfl (AWops.nil ?_)
    exact ⟨_, ⟨26, (upd 26 (upd 26 (upd 26 (upd 26 (upd 26 topF 1 (sc (.string a1))) 5 (D.one (C.own 0 0 (x1 ++ ([r7] : List api_Inst)).length 6))) 9 (D.one (C.p false (.sl a0.Insts.length (a0.Insts.flatMap e_api_Inst))))) 10 (sc (.int .i64 (a0.Insts.length : Int)))) 11 (sc (.int .i64 (IntKind.i64.wrap (x2 + 1))))), [(some (AObj.cells true (rowC e_api_Inst (x1 ++ ([r7] : List api_Inst)))))]⟩, by omega, (Weak.gen (kk := 0) [3] [] hx rfl (by decide) (by decide) rfl rfl rfl (le_upd (le_upd (le_upd (le_upd (le_upd (le_top _) (.t (.one .sc))) (.t (.one (.own rfl)))) (.t (.one .same))) (.t (.one .sc))) (.t (.one .sc))) (ac (.cells (fun h => h) (all2_row _)) an)), by omega, x1 ++ ([r7] : List api_Inst), IntKind.i64.wrap (x2 + 1), h, rfl⟩
   ·refine AW.cond_no rfl c6 (AW.skip (AW.region ?_))
    refine s_binI (v := (.int .i64 (IntKind.i64.wrap (x2 + 1)))) rfl rfl rfl ?_
    refine s_move (d := (sc (.int .i64 (IntKind.i64.wrap (x2 + 1))))) rfl (AWops.nil ?_)
    exact ⟨_, ⟨26, (upd 26 (upd 26 (upd 26 (upd 26 (upd 26 topF 1 (sc (.string a1))) 5 (D.one (C.own 0 0 x1.length 6))) 9 (D.one (C.p false (.sl a0.Insts.length (a0.Insts.flatMap e_api_Inst))))) 10 (sc (.int .i64 (a0.Insts.length : Int)))) 11 (sc (.int .i64 (IntKind.i64.wrap (x2 + 1))))), [(some (AObj.cells true (rowC e_api_Inst x1)))]⟩, by omega, (Weak.gen (kk := 0) [0] [] hx rfl (by decide) (by decide) rfl rfl rfl (le_upd (le_upd (le_upd (le_upd (le_upd (le_top _) (.t (.one .sc))) (.t (.one (.own rfl)))) (.t (.one .same))) (.t (.one .sc))) (.t (.one .sc))) (ac (.cells (fun h => h) (all2_row _)) an)), by omega, x1, IntKind.i64.wrap (x2 + 1), h, rfl⟩
  ·refine AW.cond_no rfl c3 (AW.exit (AW.seq (AW.region ?_)))
   refine s_move (d := (D.one (C.own 0 0 x1.length 6))) rfl ?_
   refine s_assign (d := (D.one (C.own 0 0 x1.length 6))) rfl (AWops.nil (AW.ret ?_))
   obtain rfl := Option.some.inj h
   exact ⟨_, rfl, (Weak.gen (kk := 0) [0] [] rfl rfl (by decide) (by decide) rfl rfl rfl (le_upd (le_top _) (.t (.one (.own rfl)))) (ac (.cells (fun h => h) (all2_row _)) an))⟩
end Go.Abs.GenG
