import Derived.Test.YtknfjmongeddgaaGenRa
set_option linter.unusedVariables false
set_option linter.unusedSimpArgs false
set_option maxRecDepth 100000
set_option maxHeartbeats 4000000
namespace Go.Abs.GenR
open Go.Abs Go.Proofs
mutual
def model_own.f : Nat → api_Item → Option api_Item
  | 0, _ => none
  | k + 1, a0 => (model_own_1.f k a0.Entry).bind fun r1 => (model_own_1.f k a0.Exit).bind fun r2 => (slices_Clone_string_string.f k a0.Roles).bind fun r3 => (model_own_2.f k a0.Kids).bind fun r4 => (model_own_2.f k a0.Table).bind fun r5 => some (⟨a0.ID, a0.Name, a0.Kind, r1, r2, a0.Manual, a0.Required, a0.Repeat, a0.Auto, a0.Free, a0.After, r3, r4, r5⟩ : api_Item)
def model_own_2.f : Nat → (List api_Item) → Option (List api_Item)
  | 0, _ => none
  | k + 1, a0 => model_own_2.l0 k ([] : List api_Item) 0 a0
def model_own_2.l0 : Nat → (List api_Item) → Int → (List api_Item) → Option (List api_Item)
  | 0, _, _, _ => none
  | k + 1, x1, x2, a0 => if (decide (x2 < (a0.length : Int))) = true then ((rd a0 x2).bind fun v4 => (model_own.f k v4).bind fun r5 => if (decide (x1.length + ([r5] : List api_Item).length ≤ 628292358729)) = true then (model_own_2.l0 k (x1 ++ ([r5] : List api_Item)) (IntKind.i64.wrap (x2 + 1)) a0) else none) else (some x1)
end
theorem model_own_grp.meets (k : Nat) : (∀ (a0 : api_Item) (r : api_Item), model_own.f k a0 = some r → Meets Try.prog 54 [(D.agg (c_api_Item a0))] [] (D.agg (c_api_Item r)) []) ∧ (∀ (a0 : List api_Item) (r : (List api_Item)), model_own_2.f k a0 = some r → Meets Try.prog 60 [(D.one (C.p false (.sl a0.length (a0.flatMap e_api_Item))))] [] (D.one (C.own 0 0 r.length 14)) [(some (AObj.cells true (rowC e_api_Item r)))]) := by
  induction k using Nat.strongRecOn with
  | _ k ih =>
    cases k with
    | zero =>
      refine ⟨?_, ?_⟩
      · intro a0 r h; exact absurd h (by simp [model_own.f])
      · intro a0 r h; exact absurd h (by simp [model_own_2.f])
    | succ k =>
      refine ⟨?_, ?_⟩
      · intro a0 r h
        replace h := (model_own.f.eq_2 _ _).symm.trans h
        refine Meets.of_body (n := 30) Try.func54 rfl rfl (Nat.le_of_ble_eq_true rfl) fun x hx => ?_
        replace hx : x.k = 0 := hx
        show AW _ x _ _ ⟨30, fr0 [(D.agg (c_api_Item a0))], []⟩
        refine AW.seq ?_
        refine AW.region ?_
        refine s_box (cs := (c_api_Item a0)) rfl (List.cons_ne_nil _ _) rfl ?_
        refine s_alloc (cs := [(C.p true (.v (.string (⟨#[]⟩ : ByteArray)))), (C.p true (.v (.string (⟨#[]⟩ : ByteArray)))), (C.p true (.v (.int .i64 0))), (C.p true (.v (.slice none 0 0))), (C.p true (.v (.slice none 0 0))), (C.p true (.v (.string (⟨#[]⟩ : ByteArray)))), (C.p true (.v (.string (⟨#[]⟩ : ByteArray)))), (C.p true (.v (.string (⟨#[]⟩ : ByteArray)))), (C.p true (.v (.bool false))), (C.p true (.v (.bool false))), (C.p true (.v (.int .i64 0))), (C.p true (.v (.slice none 0 0))), (C.p true (.v (.slice none 0 0))), (C.p true (.v (.slice none 0 0)))]) F.z_36 rfl rfl ?_
        refine AWops.nil ?_
        refine AW.seq ?_
        refine AW.region ?_
        refine s_assign (d := (D.one (C.clo 58 []))) rfl ?_
        refine AWops.nil ?_
        refine AW.seq ?_
        refine AW.region ?_
        refine s_assign (d := (D.one (C.clo 60 []))) rfl ?_
        refine AWops.nil ?_
        refine AW.seq ?_
        refine AW.weak (st' := ⟨30, (upd 30 (upd 30 (upd 30 (upd 30 topF 1 (D.one (C.ref 0 0))) 2 (D.one (C.ref 1 0))) 3 (D.one (C.clo 58 []))) 4 (D.one (C.clo 60 []))), [(some (AObj.cells true (c_api_Item a0))), (some (AObj.cells true [(C.p true (.v (.string (⟨#[]⟩ : ByteArray)))), (C.p true (.v (.string (⟨#[]⟩ : ByteArray)))), (C.p true (.v (.int .i64 0))), (C.p true (.v (.slice none 0 0))), (C.p true (.v (.slice none 0 0))), (C.p true (.v (.string (⟨#[]⟩ : ByteArray)))), (C.p true (.v (.string (⟨#[]⟩ : ByteArray)))), (C.p true (.v (.string (⟨#[]⟩ : ByteArray)))), (C.p true (.v (.bool false))), (C.p true (.v (.bool false))), (C.p true (.v (.int .i64 0))), (C.p true (.v (.slice none 0 0))), (C.p true (.v (.slice none 0 0))), (C.p true (.v (.slice none 0 0)))]))]⟩) (Weak.gen (kk := 0) [0, 1] [] hx rfl (by decide) (by decide) rfl rfl rfl (le_upd (le_upd (le_upd (le_upd (le_top _) (.t (.one (.ref rfl)))) (.t (.one (.ref rfl)))) (.t (.one (CLe.cloL All2.nil)))) (.t (.one (CLe.cloL All2.nil)))) (All2.cons (.cells (fun h => h) (All2.cons .sc (All2.cons .sc (All2.cons .sc (All2.cons .same (All2.cons .same (All2.cons .sc (All2.cons .sc (All2.cons .sc (All2.cons .sc (All2.cons .sc (All2.cons .sc (All2.cons .same (All2.cons .same (All2.cons .same All2.nil))))))))))))))) (All2.cons (.cells (fun h => h) (All2.cons .sc (All2.cons .sc (All2.cons .sc (All2.cons .sc (All2.cons .sc (All2.cons .sc (All2.cons .sc (All2.cons .sc (All2.cons .sc (All2.cons .sc (All2.cons .sc (All2.cons .sc (All2.cons .sc (All2.cons .sc All2.nil))))))))))))))) All2.nil))) ?_
        obtain ⟨r1, er1, h⟩ := Option.bind_eq_some_iff.mp h
        obtain ⟨r2, er2, h⟩ := Option.bind_eq_some_iff.mp h
        refine AW.draw (n := 30) (L := 4) [(0, ⟨some 5, (D.one (C.clo 58 [])), [(3, (D.one (C.clo 58 [])))], [], [], none⟩), (1, ⟨some 6, (D.one (C.ref 0 3)), [(1, (D.one (C.ref 0 0)))], [], [], none⟩), (2, ⟨some 7, (D.one (C.p false (.sl a0.Entry.length (a0.Entry.flatMap e_api_Sentry)))), [(6, (D.one (C.ref 0 3)))], [(0, (some (AObj.cells true (c_api_Item a0))))], [], none⟩), (3, ⟨some 8, (D.one (C.own 2 0 r1.length 2)), [(5, (D.one (C.clo 58 []))), (7, (D.one (C.p false (.sl a0.Entry.length (a0.Entry.flatMap e_api_Sentry)))))], [], [(2, (some (AObj.cells true (rowC e_api_Sentry r1))))], some 2⟩), (4, ⟨some 9, (D.one (C.clo 58 [])), [(3, (D.one (C.clo 58 [])))], [], [], none⟩), (5, ⟨some 10, (D.one (C.ref 0 4)), [(1, (D.one (C.ref 0 0)))], [], [], none⟩), (6, ⟨some 11, (D.one (C.p false (.sl a0.Exit.length (a0.Exit.flatMap e_api_Sentry)))), [(10, (D.one (C.ref 0 4)))], [(0, (some (AObj.cells true (c_api_Item a0))))], [], none⟩), (7, ⟨some 12, (D.one (C.own 3 0 r2.length 2)), [(9, (D.one (C.clo 58 []))), (11, (D.one (C.p false (.sl a0.Exit.length (a0.Exit.flatMap e_api_Sentry)))))], [], [(3, (some (AObj.cells true (rowC e_api_Sentry r2))))], some 3⟩), (8, ⟨some 13, (D.one (C.ref 0 3)), [(1, (D.one (C.ref 0 0)))], [], [], none⟩), (9, ⟨none, (D.one C.top), [(8, (D.one (C.own 2 0 r1.length 2))), (13, (D.one (C.ref 0 3)))], [(0, (some (AObj.cells true (c_api_Item a0))))], [(0, (some (AObj.cells true [(C.p true (.v (.string a0.ID))), (C.p true (.v (.string a0.Name))), (C.p true (.v (.int .i64 a0.Kind))), (C.own 2 0 r1.length 2), (C.p false (.sl a0.Exit.length (a0.Exit.flatMap e_api_Sentry))), (C.p true (.v (.string a0.Manual))), (C.p true (.v (.string a0.Required))), (C.p true (.v (.string a0.Repeat))), (C.p true (.v (.bool a0.Auto))), (C.p true (.v (.bool a0.Free))), (C.p true (.v (.int .i64 a0.After))), (C.p false (.sl a0.Roles.length (a0.Roles.flatMap e_str))), (C.p false (.sl a0.Kids.length (a0.Kids.flatMap e_api_Item))), (C.p false (.sl a0.Table.length (a0.Table.flatMap e_api_Item)))])))], none⟩), (10, ⟨some 14, (D.one (C.ref 0 4)), [(1, (D.one (C.ref 0 0)))], [], [], none⟩), (11, ⟨none, (D.one C.top), [(12, (D.one (C.own 3 0 r2.length 2))), (14, (D.one (C.ref 0 4)))], [(0, (some (AObj.cells true [(C.p true (.v (.string a0.ID))), (C.p true (.v (.string a0.Name))), (C.p true (.v (.int .i64 a0.Kind))), (C.own 2 0 r1.length 2), (C.p false (.sl a0.Exit.length (a0.Exit.flatMap e_api_Sentry))), (C.p true (.v (.string a0.Manual))), (C.p true (.v (.string a0.Required))), (C.p true (.v (.string a0.Repeat))), (C.p true (.v (.bool a0.Auto))), (C.p true (.v (.bool a0.Free))), (C.p true (.v (.int .i64 a0.After))), (C.p false (.sl a0.Roles.length (a0.Roles.flatMap e_str))), (C.p false (.sl a0.Kids.length (a0.Kids.flatMap e_api_Item))), (C.p false (.sl a0.Table.length (a0.Table.flatMap e_api_Item)))])))], [(0, (some (AObj.cells true [(C.p true (.v (.string a0.ID))), (C.p true (.v (.string a0.Name))), (C.p true (.v (.int .i64 a0.Kind))), (C.own 2 0 r1.length 2), (C.own 3 0 r2.length 2), (C.p true (.v (.string a0.Manual))), (C.p true (.v (.string a0.Required))), (C.p true (.v (.string a0.Repeat))), (C.p true (.v (.bool a0.Auto))), (C.p true (.v (.bool a0.Free))), (C.p true (.v (.int .i64 a0.After))), (C.p false (.sl a0.Roles.length (a0.Roles.flatMap e_str))), (C.p false (.sl a0.Kids.length (a0.Kids.flatMap e_api_Item))), (C.p false (.sl a0.Table.length (a0.Table.flatMap e_api_Item)))])))], none⟩)] [[], [], [1], [0, 1, 2], [], [], [5], [0, 1, 2, 3, 4, 5, 6], [0, 1, 2, 3, 5, 6], [0, 1, 2, 3, 4, 5, 6, 7, 8], [0, 1, 2, 3, 4, 5, 6, 7, 8, 9], [0, 1, 2, 3, 4, 5, 6, 7, 8, 9, 10]] (Nat.le_of_ble_eq_true rfl) [0, 0, 1, 2, 0, 0, 1, 3, 3, 4, 5, 6] rfl (TK := [(3, 2), (7, 3)]) rfl (AllK.cons' ⟨(tk_upd (tk_upd (tk_upd (tk_upd tk_top rfl) rfl) rfl) rfl), (AllT.cons' rfl (AllT.cons' rfl AllT.nil')), (AllF.cons' (.inr rfl) (AllF.cons' (.inr rfl) (AllF.cons' (.inr rfl) (AllF.cons' (.inl rfl) (AllF.cons' (.inr rfl) (AllF.cons' (.inr rfl) (AllF.cons' (.inr rfl) (AllF.cons' (.inl rfl) (AllF.cons' (.inl rfl) (AllF.cons' (.inl rfl) (AllF.cons' (.inl rfl) (AllF.cons' (.inl rfl) AllF.nil'))))))))))))⟩ (AllK.cons' ⟨(tk_upd (tk_upd (tk_upd (tk_upd tk_top rfl) rfl) rfl) rfl), (AllT.cons' rfl (AllT.cons' rfl AllT.nil')), (AllF.cons' (.inr rfl) (AllF.cons' (.inr rfl) (AllF.cons' (.inr rfl) (AllF.cons' (.inr (by unfold tkFoot; simp only [List.all_cons, List.all_nil, tkO_row, Bool.and_true, Bool.true_and]; rfl)) (AllF.cons' (.inr rfl) (AllF.cons' (.inr rfl) (AllF.cons' (.inr rfl) (AllF.cons' (.inl rfl) (AllF.cons' (.inr rfl) (AllF.cons' (.inl rfl) (AllF.cons' (.inl rfl) (AllF.cons' (.inl rfl) AllF.nil'))))))))))))⟩ AllK.nil')) (AllF.cons' ⟨(AllS.cons' rfl AllS.nil'), AllH.nil'⟩ (AllF.cons' ⟨(AllS.cons' rfl AllS.nil'), AllH.nil'⟩ (AllF.cons' ⟨(AllS.cons' rfl AllS.nil'), (AllH.cons' rfl AllH.nil')⟩ (AllF.cons' ⟨(AllS.cons' rfl (AllS.cons' rfl AllS.nil')), AllH.nil'⟩ (AllF.cons' ⟨(AllS.cons' rfl AllS.nil'), AllH.nil'⟩ (AllF.cons' ⟨(AllS.cons' rfl AllS.nil'), AllH.nil'⟩ (AllF.cons' ⟨(AllS.cons' rfl AllS.nil'), (AllH.cons' rfl AllH.nil')⟩ (AllF.cons' ⟨(AllS.cons' rfl (AllS.cons' rfl AllS.nil')), AllH.nil'⟩ (AllF.cons' ⟨(AllS.cons' rfl AllS.nil'), AllH.nil'⟩ (AllF.cons' ⟨(AllS.cons' rfl (AllS.cons' rfl AllS.nil')), (AllH.cons' rfl AllH.nil')⟩ (AllF.cons' ⟨(AllS.cons' rfl AllS.nil'), AllH.nil'⟩ (AllF.cons' ⟨(AllS.cons' rfl (AllS.cons' rfl AllS.nil')), (AllH.cons' rfl AllH.nil')⟩ AllF.nil')))))))))))) ?_ ?_
        · refine (AllStep.cons' ?_ (AllStep.cons' ?_ (AllStep.cons' ?_ (AllStep.cons' ?_ (AllStep.cons' ?_ (AllStep.cons' ?_ (AllStep.cons' ?_ (AllStep.cons' ?_ (AllStep.cons' ?_ (AllStep.cons' ?_ (AllStep.cons' ?_ (AllStep.cons' ?_ AllStep.nil'))))))))))))
          · intro K rest fr hv htk k
            show AWops _ x _ _ K ⟨30, (upd 30 fr 3 (D.one (C.clo 58 []))), [(hv 0), (hv 1), (hv 2), (hv 3)]⟩
            refine s_move (d := (D.one (C.clo 58 []))) rfl ?_
            exact k
          · intro K rest fr hv htk k
            show AWops _ x _ _ K ⟨30, (upd 30 fr 1 (D.one (C.ref 0 0))), [(hv 0), (hv 1), (hv 2), (hv 3)]⟩
            refine s_fieldRef F.fo_36_3 (by decide) rfl ?_
            exact k
          · intro K rest fr hv htk k
            show AWops _ x _ _ K ⟨30, (upd 30 fr 6 (D.one (C.ref 0 3))), [(some (AObj.cells true (c_api_Item a0))), (hv 1), (hv 2), (hv 3)]⟩
            refine s_load1 (c' := (C.p false (.sl a0.Entry.length (a0.Entry.flatMap e_api_Sentry)))) F.ag_33 rfl rfl ?_
            exact k
          · intro K rest fr hv htk k
            show AWops _ x _ _ K ⟨30, (upd 30 (upd 30 fr 7 (D.one (C.p false (.sl a0.Entry.length (a0.Entry.flatMap e_api_Sentry))))) 5 (D.one (C.clo 58 []))), [(hv 0), (hv 1), (hv 2), (hv 3)]⟩
            refine s_call2 (ρ := []) (br := false) (H2 := [(hv 0), (hv 1), (hv 2), (hv 3), (some (AObj.cells true (rowC e_api_Sentry r1)))]) (d := (D.one (C.own 4 0 r1.length 2))) F.ca_58 rfl rfl (All2.cons (.one .imm) All2.nil) All2.nil (by decide) rfl (model_own_1.meets _ a0.Entry r1 er1) (.inl rfl) (by first | rfl | (simp only [mergeH2, orF, Bool.false_or, Bool.or_false, Bool.true_or, Bool.or_true, mergeAt, mergeObj, renO, ren_row, List.drop_succ_cons, List.drop_zero, List.map_cons, List.map_nil, Option.map_some, Option.map_none, List.length_cons, List.length_nil, Nat.zero_add, List.append_assoc, List.cons_append, List.nil_append]; done) | (simp only [mergeH2, orF, Bool.false_or, Bool.or_false, Bool.true_or, Bool.or_true, mergeAt, mergeObj, renO, ren_row, List.drop_succ_cons, List.drop_zero, List.map_cons, List.map_nil, Option.map_some, Option.map_none, List.length_cons, List.length_nil, Nat.zero_add, List.append_assoc, List.cons_append, List.nil_append]; rfl)) rfl ?_
            refine AWops.weak (st' := ⟨30, (upd 30 (upd 30 (upd 30 fr 7 (D.one (C.p false (.sl a0.Entry.length (a0.Entry.flatMap e_api_Sentry))))) 5 (D.one (C.clo 58 []))) 8 (D.one (C.own 2 0 r1.length 2))), [(hv 0), (hv 1), (some (AObj.cells true (rowC e_api_Sentry r1))), (hv 3)]⟩) (Weak.gen (kk := 0) [0, 1, 4, 3] [] hx rfl (by decide) (by decide) rfl rfl rfl (le_upd2 (le_ok (p := 2) (L := 4) rfl (htk 2 rfl).1) (.t (.one (.own rfl)))) (All2.cons (ole_ok (p := 2) (L := 4) rfl ((htk 2 rfl).2 0)) (All2.cons (ole_ok (p := 2) (L := 4) rfl ((htk 2 rfl).2 1)) (All2.cons (.cells (fun h => h) (all2_row _)) (All2.cons (ole_ok (p := 2) (L := 4) rfl ((htk 2 rfl).2 3)) All2.nil))))) ?_
            exact k
          · intro K rest fr hv htk k
            show AWops _ x _ _ K ⟨30, (upd 30 fr 3 (D.one (C.clo 58 []))), [(hv 0), (hv 1), (hv 2), (hv 3)]⟩
            refine s_move (d := (D.one (C.clo 58 []))) rfl ?_
            exact k
          · intro K rest fr hv htk k
            show AWops _ x _ _ K ⟨30, (upd 30 fr 1 (D.one (C.ref 0 0))), [(hv 0), (hv 1), (hv 2), (hv 3)]⟩
            refine s_fieldRef F.fo_36_4 (by decide) rfl ?_
            exact k
          · intro K rest fr hv htk k
            show AWops _ x _ _ K ⟨30, (upd 30 fr 10 (D.one (C.ref 0 4))), [(some (AObj.cells true (c_api_Item a0))), (hv 1), (hv 2), (hv 3)]⟩
            refine s_load1 (c' := (C.p false (.sl a0.Exit.length (a0.Exit.flatMap e_api_Sentry)))) F.ag_33 rfl rfl ?_
            exact k
          · intro K rest fr hv htk k
            show AWops _ x _ _ K ⟨30, (upd 30 (upd 30 fr 11 (D.one (C.p false (.sl a0.Exit.length (a0.Exit.flatMap e_api_Sentry))))) 9 (D.one (C.clo 58 []))), [(hv 0), (hv 1), (hv 2), (hv 3)]⟩
            refine s_call2 (ρ := []) (br := false) (H2 := [(hv 0), (hv 1), (hv 2), (hv 3), (some (AObj.cells true (rowC e_api_Sentry r2)))]) (d := (D.one (C.own 4 0 r2.length 2))) F.ca_58 rfl rfl (All2.cons (.one .imm) All2.nil) All2.nil (by decide) rfl (model_own_1.meets _ a0.Exit r2 er2) (.inl rfl) (by first | rfl | (simp only [mergeH2, orF, Bool.false_or, Bool.or_false, Bool.true_or, Bool.or_true, mergeAt, mergeObj, renO, ren_row, List.drop_succ_cons, List.drop_zero, List.map_cons, List.map_nil, Option.map_some, Option.map_none, List.length_cons, List.length_nil, Nat.zero_add, List.append_assoc, List.cons_append, List.nil_append]; done) | (simp only [mergeH2, orF, Bool.false_or, Bool.or_false, Bool.true_or, Bool.or_true, mergeAt, mergeObj, renO, ren_row, List.drop_succ_cons, List.drop_zero, List.map_cons, List.map_nil, Option.map_some, Option.map_none, List.length_cons, List.length_nil, Nat.zero_add, List.append_assoc, List.cons_append, List.nil_append]; rfl)) rfl ?_
            refine AWops.weak (st' := ⟨30, (upd 30 (upd 30 (upd 30 fr 11 (D.one (C.p false (.sl a0.Exit.length (a0.Exit.flatMap e_api_Sentry))))) 9 (D.one (C.clo 58 []))) 12 (D.one (C.own 3 0 r2.length 2))), [(hv 0), (hv 1), (hv 2), (some (AObj.cells true (rowC e_api_Sentry r2)))]⟩) (Weak.gen (kk := 0) [0, 1, 2, 4] [] hx rfl (by decide) (by decide) rfl rfl rfl (le_upd2 (le_ok (p := 3) (L := 4) rfl (htk 3 rfl).1) (.t (.one (.own rfl)))) (All2.cons (ole_ok (p := 3) (L := 4) rfl ((htk 3 rfl).2 0)) (All2.cons (ole_ok (p := 3) (L := 4) rfl ((htk 3 rfl).2 1)) (All2.cons (ole_ok (p := 3) (L := 4) rfl ((htk 3 rfl).2 2)) (All2.cons (.cells (fun h => h) (all2_row _)) All2.nil))))) ?_
            exact k
          · intro K rest fr hv htk k
            show AWops _ x _ _ K ⟨30, (upd 30 fr 1 (D.one (C.ref 0 0))), [(hv 0), (hv 1), (hv 2), (hv 3)]⟩
            refine s_fieldRef F.fo_36_3 (by decide) rfl ?_
            exact k
          · intro K rest fr hv htk k
            show AWops _ x _ _ K ⟨30, (upd 30 (upd 30 fr 13 (D.one (C.ref 0 3))) 8 (D.one (C.own 2 0 r1.length 2))), [(some (AObj.cells true (c_api_Item a0))), (hv 1), (hv 2), (hv 3)]⟩
            refine s_store (cs' := [(C.p true (.v (.string a0.ID))), (C.p true (.v (.string a0.Name))), (C.p true (.v (.int .i64 a0.Kind))), (C.own 2 0 r1.length 2), (C.p false (.sl a0.Exit.length (a0.Exit.flatMap e_api_Sentry))), (C.p true (.v (.string a0.Manual))), (C.p true (.v (.string a0.Required))), (C.p true (.v (.string a0.Repeat))), (C.p true (.v (.bool a0.Auto))), (C.p true (.v (.bool a0.Free))), (C.p true (.v (.int .i64 a0.After))), (C.p false (.sl a0.Roles.length (a0.Roles.flatMap e_str))), (C.p false (.sl a0.Kids.length (a0.Kids.flatMap e_api_Item))), (C.p false (.sl a0.Table.length (a0.Table.flatMap e_api_Item)))]) rfl rfl rfl (List.cons_ne_nil _ _) rfl F.sz_33 (Nat.le_of_ble_eq_true rfl) rfl ?_
            exact k
          · intro K rest fr hv htk k
            show AWops _ x _ _ K ⟨30, (upd 30 fr 1 (D.one (C.ref 0 0))), [(hv 0), (hv 1), (hv 2), (hv 3)]⟩
            refine s_fieldRef F.fo_36_4 (by decide) rfl ?_
            exact k
          · intro K rest fr hv htk k
            show AWops _ x _ _ K ⟨30, (upd 30 (upd 30 fr 14 (D.one (C.ref 0 4))) 12 (D.one (C.own 3 0 r2.length 2))), [(some (AObj.cells true [(C.p true (.v (.string a0.ID))), (C.p true (.v (.string a0.Name))), (C.p true (.v (.int .i64 a0.Kind))), (C.own 2 0 r1.length 2), (C.p false (.sl a0.Exit.length (a0.Exit.flatMap e_api_Sentry))), (C.p true (.v (.string a0.Manual))), (C.p true (.v (.string a0.Required))), (C.p true (.v (.string a0.Repeat))), (C.p true (.v (.bool a0.Auto))), (C.p true (.v (.bool a0.Free))), (C.p true (.v (.int .i64 a0.After))), (C.p false (.sl a0.Roles.length (a0.Roles.flatMap e_str))), (C.p false (.sl a0.Kids.length (a0.Kids.flatMap e_api_Item))), (C.p false (.sl a0.Table.length (a0.Table.flatMap e_api_Item)))])), (hv 1), (hv 2), (hv 3)]⟩
            refine s_store (cs' := [(C.p true (.v (.string a0.ID))), (C.p true (.v (.string a0.Name))), (C.p true (.v (.int .i64 a0.Kind))), (C.own 2 0 r1.length 2), (C.own 3 0 r2.length 2), (C.p true (.v (.string a0.Manual))), (C.p true (.v (.string a0.Required))), (C.p true (.v (.string a0.Repeat))), (C.p true (.v (.bool a0.Auto))), (C.p true (.v (.bool a0.Free))), (C.p true (.v (.int .i64 a0.After))), (C.p false (.sl a0.Roles.length (a0.Roles.flatMap e_str))), (C.p false (.sl a0.Kids.length (a0.Kids.flatMap e_api_Item))), (C.p false (.sl a0.Table.length (a0.Table.flatMap e_api_Item)))]) rfl rfl rfl (List.cons_ne_nil _ _) rfl F.sz_33 (Nat.le_of_ble_eq_true rfl) rfl ?_
            exact k
        · refine AWops.weak (st' := ⟨30, (upd 30 (upd 30 (upd 30 topF 1 (D.one (C.ref 0 0))) 2 (D.one (C.ref 1 0))) 4 (D.one (C.clo 60 []))), [(some (AObj.cells true [(C.p true (.v (.string a0.ID))), (C.p true (.v (.string a0.Name))), (C.p true (.v (.int .i64 a0.Kind))), (C.own 2 0 r1.length 2), (C.own 3 0 r2.length 2), (C.p true (.v (.string a0.Manual))), (C.p true (.v (.string a0.Required))), (C.p true (.v (.string a0.Repeat))), (C.p true (.v (.bool a0.Auto))), (C.p true (.v (.bool a0.Free))), (C.p true (.v (.int .i64 a0.After))), (C.p false (.sl a0.Roles.length (a0.Roles.flatMap e_str))), (C.p false (.sl a0.Kids.length (a0.Kids.flatMap e_api_Item))), (C.p false (.sl a0.Table.length (a0.Table.flatMap e_api_Item)))])), (some (AObj.cells true [(C.p true (.v (.string (⟨#[]⟩ : ByteArray)))), (C.p true (.v (.string (⟨#[]⟩ : ByteArray)))), (C.p true (.v (.int .i64 0))), (C.p true (.v (.slice none 0 0))), (C.p true (.v (.slice none 0 0))), (C.p true (.v (.string (⟨#[]⟩ : ByteArray)))), (C.p true (.v (.string (⟨#[]⟩ : ByteArray)))), (C.p true (.v (.string (⟨#[]⟩ : ByteArray)))), (C.p true (.v (.bool false))), (C.p true (.v (.bool false))), (C.p true (.v (.int .i64 0))), (C.p true (.v (.slice none 0 0))), (C.p true (.v (.slice none 0 0))), (C.p true (.v (.slice none 0 0)))])), (some (AObj.cells true (rowC e_api_Sentry r1))), (some (AObj.cells true (rowC e_api_Sentry r2)))]⟩) (Weak.gen (kk := 0) [0, 1, 2, 3] [] hx rfl (by decide) (by decide) rfl rfl rfl (le_upd (le_upd (le_upd (le_top _) (.t (.one (.ref rfl)))) (.t (.one (.ref rfl)))) (.t (.one (CLe.cloL All2.nil)))) (All2.cons (.cells (fun h => h) (All2.cons .sc (All2.cons .sc (All2.cons .sc (All2.cons (.own rfl) (All2.cons (.own rfl) (All2.cons .sc (All2.cons .sc (All2.cons .sc (All2.cons .sc (All2.cons .sc (All2.cons .sc (All2.cons .same (All2.cons .same (All2.cons .same All2.nil))))))))))))))) (All2.cons (.cells (fun h => h) (All2.cons .sc (All2.cons .sc (All2.cons .sc (All2.cons .sc (All2.cons .sc (All2.cons .sc (All2.cons .sc (All2.cons .sc (All2.cons .sc (All2.cons .sc (All2.cons .sc (All2.cons .sc (All2.cons .sc (All2.cons .sc All2.nil))))))))))))))) (All2.cons (.cells (fun h => h) (all2_row _)) (All2.cons (.cells (fun h => h) (all2_row _)) All2.nil))))) ?_
          refine AWops.nil ?_
          refine AW.seq ?_
          refine AW.region ?_
          refine s_fieldRef F.fo_36_11 (by decide) rfl ?_
          refine s_load1 (c' := (C.p false (.sl a0.Roles.length (a0.Roles.flatMap e_str)))) F.ag_31 rfl rfl ?_
          obtain ⟨r3, er3, h⟩ := Option.bind_eq_some_iff.mp h
          refine s_call2 (ρ := []) (br := false) (H2 := [(some (AObj.cells true [(C.p true (.v (.string a0.ID))), (C.p true (.v (.string a0.Name))), (C.p true (.v (.int .i64 a0.Kind))), (C.own 2 0 r1.length 2), (C.own 3 0 r2.length 2), (C.p true (.v (.string a0.Manual))), (C.p true (.v (.string a0.Required))), (C.p true (.v (.string a0.Repeat))), (C.p true (.v (.bool a0.Auto))), (C.p true (.v (.bool a0.Free))), (C.p true (.v (.int .i64 a0.After))), (C.p false (.sl a0.Roles.length (a0.Roles.flatMap e_str))), (C.p false (.sl a0.Kids.length (a0.Kids.flatMap e_api_Item))), (C.p false (.sl a0.Table.length (a0.Table.flatMap e_api_Item)))])), (some (AObj.cells true [(C.p true (.v (.string (⟨#[]⟩ : ByteArray)))), (C.p true (.v (.string (⟨#[]⟩ : ByteArray)))), (C.p true (.v (.int .i64 0))), (C.p true (.v (.slice none 0 0))), (C.p true (.v (.slice none 0 0))), (C.p true (.v (.string (⟨#[]⟩ : ByteArray)))), (C.p true (.v (.string (⟨#[]⟩ : ByteArray)))), (C.p true (.v (.string (⟨#[]⟩ : ByteArray)))), (C.p true (.v (.bool false))), (C.p true (.v (.bool false))), (C.p true (.v (.int .i64 0))), (C.p true (.v (.slice none 0 0))), (C.p true (.v (.slice none 0 0))), (C.p true (.v (.slice none 0 0)))])), (some (AObj.cells true (rowC e_api_Sentry r1))), (some (AObj.cells true (rowC e_api_Sentry r2))), (some (AObj.cells true (rowC e_str r3)))]) (d := (D.one (C.own 4 0 r3.length 1))) F.ca_61 rfl rfl (All2.cons (.one .imm) All2.nil) All2.nil (by decide) rfl (slices_Clone_string_string.meets _ a0.Roles r3 er3) (.inl rfl) (by first | rfl | (simp only [mergeH2, orF, Bool.false_or, Bool.or_false, Bool.true_or, Bool.or_true, mergeAt, mergeObj, renO, ren_row, List.drop_succ_cons, List.drop_zero, List.map_cons, List.map_nil, Option.map_some, Option.map_none, List.length_cons, List.length_nil, Nat.zero_add, List.append_assoc, List.cons_append, List.nil_append]; done) | (simp only [mergeH2, orF, Bool.false_or, Bool.or_false, Bool.true_or, Bool.or_true, mergeAt, mergeObj, renO, ren_row, List.drop_succ_cons, List.drop_zero, List.map_cons, List.map_nil, Option.map_some, Option.map_none, List.length_cons, List.length_nil, Nat.zero_add, List.append_assoc, List.cons_append, List.nil_append]; rfl)) rfl ?_
          refine s_fieldRef F.fo_36_11 (by decide) rfl ?_
          refine s_store (cs' := [(C.p true (.v (.string a0.ID))), (C.p true (.v (.string a0.Name))), (C.p true (.v (.int .i64 a0.Kind))), (C.own 2 0 r1.length 2), (C.own 3 0 r2.length 2), (C.p true (.v (.string a0.Manual))), (C.p true (.v (.string a0.Required))), (C.p true (.v (.string a0.Repeat))), (C.p true (.v (.bool a0.Auto))), (C.p true (.v (.bool a0.Free))), (C.p true (.v (.int .i64 a0.After))), (C.own 4 0 r3.length 1), (C.p false (.sl a0.Kids.length (a0.Kids.flatMap e_api_Item))), (C.p false (.sl a0.Table.length (a0.Table.flatMap e_api_Item)))]) rfl rfl rfl (List.cons_ne_nil _ _) rfl F.sz_31 (Nat.le_of_ble_eq_true rfl) rfl ?_
          refine AWops.nil ?_
          refine AW.seq ?_
          refine AW.weak (st' := ⟨30, (upd 30 (upd 30 (upd 30 topF 1 (D.one (C.ref 0 0))) 2 (D.one (C.ref 1 0))) 4 (D.one (C.clo 60 []))), [(some (AObj.cells true [(C.p true (.v (.string a0.ID))), (C.p true (.v (.string a0.Name))), (C.p true (.v (.int .i64 a0.Kind))), (C.own 2 0 r1.length 2), (C.own 3 0 r2.length 2), (C.p true (.v (.string a0.Manual))), (C.p true (.v (.string a0.Required))), (C.p true (.v (.string a0.Repeat))), (C.p true (.v (.bool a0.Auto))), (C.p true (.v (.bool a0.Free))), (C.p true (.v (.int .i64 a0.After))), (C.own 4 0 r3.length 1), (C.p false (.sl a0.Kids.length (a0.Kids.flatMap e_api_Item))), (C.p false (.sl a0.Table.length (a0.Table.flatMap e_api_Item)))])), (some (AObj.cells true [(C.p true (.v (.string (⟨#[]⟩ : ByteArray)))), (C.p true (.v (.string (⟨#[]⟩ : ByteArray)))), (C.p true (.v (.int .i64 0))), (C.p true (.v (.slice none 0 0))), (C.p true (.v (.slice none 0 0))), (C.p true (.v (.string (⟨#[]⟩ : ByteArray)))), (C.p true (.v (.string (⟨#[]⟩ : ByteArray)))), (C.p true (.v (.string (⟨#[]⟩ : ByteArray)))), (C.p true (.v (.bool false))), (C.p true (.v (.bool false))), (C.p true (.v (.int .i64 0))), (C.p true (.v (.slice none 0 0))), (C.p true (.v (.slice none 0 0))), (C.p true (.v (.slice none 0 0)))])), (some (AObj.cells true (rowC e_api_Sentry r1))), (some (AObj.cells true (rowC e_api_Sentry r2))), (some (AObj.cells true (rowC e_str r3)))]⟩) (Weak.gen (kk := 0) [0, 1, 2, 3, 4] [] hx rfl (by decide) (by decide) rfl rfl rfl (le_upd (le_upd (le_upd (le_top _) (.t (.one (.ref rfl)))) (.t (.one (.ref rfl)))) (.t (.one (CLe.cloL All2.nil)))) (All2.cons (.cells (fun h => h) (All2.cons .sc (All2.cons .sc (All2.cons .sc (All2.cons (.own rfl) (All2.cons (.own rfl) (All2.cons .sc (All2.cons .sc (All2.cons .sc (All2.cons .sc (All2.cons .sc (All2.cons .sc (All2.cons (.own rfl) (All2.cons .same (All2.cons .same All2.nil))))))))))))))) (All2.cons (.cells (fun h => h) (All2.cons .sc (All2.cons .sc (All2.cons .sc (All2.cons .sc (All2.cons .sc (All2.cons .sc (All2.cons .sc (All2.cons .sc (All2.cons .sc (All2.cons .sc (All2.cons .sc (All2.cons .sc (All2.cons .sc (All2.cons .sc All2.nil))))))))))))))) (All2.cons (.cells (fun h => h) (all2_row _)) (All2.cons (.cells (fun h => h) (all2_row _)) (All2.cons (.cells (fun h => h) (all2_row _)) All2.nil)))))) ?_
          obtain ⟨r4, er4, h⟩ := Option.bind_eq_some_iff.mp h
          obtain ⟨r5, er5, h⟩ := Option.bind_eq_some_iff.mp h
          refine AW.draw (n := 30) (L := 7) [(0, ⟨some 19, (D.one (C.clo 60 [])), [(4, (D.one (C.clo 60 [])))], [], [], none⟩), (1, ⟨some 20, (D.one (C.ref 0 12)), [(1, (D.one (C.ref 0 0)))], [], [], none⟩), (2, ⟨some 21, (D.one (C.p false (.sl a0.Kids.length (a0.Kids.flatMap e_api_Item)))), [(20, (D.one (C.ref 0 12)))], [(0, (some (AObj.cells true [(C.p true (.v (.string a0.ID))), (C.p true (.v (.string a0.Name))), (C.p true (.v (.int .i64 a0.Kind))), (C.own 2 0 r1.length 2), (C.own 3 0 r2.length 2), (C.p true (.v (.string a0.Manual))), (C.p true (.v (.string a0.Required))), (C.p true (.v (.string a0.Repeat))), (C.p true (.v (.bool a0.Auto))), (C.p true (.v (.bool a0.Free))), (C.p true (.v (.int .i64 a0.After))), (C.own 4 0 r3.length 1), (C.p false (.sl a0.Kids.length (a0.Kids.flatMap e_api_Item))), (C.p false (.sl a0.Table.length (a0.Table.flatMap e_api_Item)))])))], [], none⟩), (3, ⟨some 22, (D.one (C.own 5 0 r4.length 14)), [(19, (D.one (C.clo 60 []))), (21, (D.one (C.p false (.sl a0.Kids.length (a0.Kids.flatMap e_api_Item)))))], [], [(5, (some (AObj.cells true (rowC e_api_Item r4))))], some 5⟩), (4, ⟨some 23, (D.one (C.clo 60 [])), [(4, (D.one (C.clo 60 [])))], [], [], none⟩), (5, ⟨some 24, (D.one (C.ref 0 13)), [(1, (D.one (C.ref 0 0)))], [], [], none⟩), (6, ⟨some 25, (D.one (C.p false (.sl a0.Table.length (a0.Table.flatMap e_api_Item)))), [(24, (D.one (C.ref 0 13)))], [(0, (some (AObj.cells true [(C.p true (.v (.string a0.ID))), (C.p true (.v (.string a0.Name))), (C.p true (.v (.int .i64 a0.Kind))), (C.own 2 0 r1.length 2), (C.own 3 0 r2.length 2), (C.p true (.v (.string a0.Manual))), (C.p true (.v (.string a0.Required))), (C.p true (.v (.string a0.Repeat))), (C.p true (.v (.bool a0.Auto))), (C.p true (.v (.bool a0.Free))), (C.p true (.v (.int .i64 a0.After))), (C.own 4 0 r3.length 1), (C.p false (.sl a0.Kids.length (a0.Kids.flatMap e_api_Item))), (C.p false (.sl a0.Table.length (a0.Table.flatMap e_api_Item)))])))], [], none⟩), (7, ⟨some 26, (D.one (C.own 6 0 r5.length 14)), [(23, (D.one (C.clo 60 []))), (25, (D.one (C.p false (.sl a0.Table.length (a0.Table.flatMap e_api_Item)))))], [], [(6, (some (AObj.cells true (rowC e_api_Item r5))))], some 6⟩), (8, ⟨some 27, (D.one (C.ref 0 12)), [(1, (D.one (C.ref 0 0)))], [], [], none⟩), (9, ⟨none, (D.one C.top), [(22, (D.one (C.own 5 0 r4.length 14))), (27, (D.one (C.ref 0 12)))], [(0, (some (AObj.cells true [(C.p true (.v (.string a0.ID))), (C.p true (.v (.string a0.Name))), (C.p true (.v (.int .i64 a0.Kind))), (C.own 2 0 r1.length 2), (C.own 3 0 r2.length 2), (C.p true (.v (.string a0.Manual))), (C.p true (.v (.string a0.Required))), (C.p true (.v (.string a0.Repeat))), (C.p true (.v (.bool a0.Auto))), (C.p true (.v (.bool a0.Free))), (C.p true (.v (.int .i64 a0.After))), (C.own 4 0 r3.length 1), (C.p false (.sl a0.Kids.length (a0.Kids.flatMap e_api_Item))), (C.p false (.sl a0.Table.length (a0.Table.flatMap e_api_Item)))])))], [(0, (some (AObj.cells true [(C.p true (.v (.string a0.ID))), (C.p true (.v (.string a0.Name))), (C.p true (.v (.int .i64 a0.Kind))), (C.own 2 0 r1.length 2), (C.own 3 0 r2.length 2), (C.p true (.v (.string a0.Manual))), (C.p true (.v (.string a0.Required))), (C.p true (.v (.string a0.Repeat))), (C.p true (.v (.bool a0.Auto))), (C.p true (.v (.bool a0.Free))), (C.p true (.v (.int .i64 a0.After))), (C.own 4 0 r3.length 1), (C.own 5 0 r4.length 14), (C.p false (.sl a0.Table.length (a0.Table.flatMap e_api_Item)))])))], none⟩), (10, ⟨some 28, (D.one (C.ref 0 13)), [(1, (D.one (C.ref 0 0)))], [], [], none⟩), (11, ⟨none, (D.one C.top), [(26, (D.one (C.own 6 0 r5.length 14))), (28, (D.one (C.ref 0 13)))], [(0, (some (AObj.cells true [(C.p true (.v (.string a0.ID))), (C.p true (.v (.string a0.Name))), (C.p true (.v (.int .i64 a0.Kind))), (C.own 2 0 r1.length 2), (C.own 3 0 r2.length 2), (C.p true (.v (.string a0.Manual))), (C.p true (.v (.string a0.Required))), (C.p true (.v (.string a0.Repeat))), (C.p true (.v (.bool a0.Auto))), (C.p true (.v (.bool a0.Free))), (C.p true (.v (.int .i64 a0.After))), (C.own 4 0 r3.length 1), (C.own 5 0 r4.length 14), (C.p false (.sl a0.Table.length (a0.Table.flatMap e_api_Item)))])))], [(0, (some (AObj.cells true [(C.p true (.v (.string a0.ID))), (C.p true (.v (.string a0.Name))), (C.p true (.v (.int .i64 a0.Kind))), (C.own 2 0 r1.length 2), (C.own 3 0 r2.length 2), (C.p true (.v (.string a0.Manual))), (C.p true (.v (.string a0.Required))), (C.p true (.v (.string a0.Repeat))), (C.p true (.v (.bool a0.Auto))), (C.p true (.v (.bool a0.Free))), (C.p true (.v (.int .i64 a0.After))), (C.own 4 0 r3.length 1), (C.own 5 0 r4.length 14), (C.own 6 0 r5.length 14)])))], none⟩)] [[], [], [1], [0, 1, 2], [], [], [5], [0, 1, 2, 3, 4, 5, 6], [0, 1, 2, 3, 5, 6], [0, 1, 2, 3, 4, 5, 6, 7, 8], [0, 1, 2, 3, 4, 5, 6, 7, 8, 9], [0, 1, 2, 3, 4, 5, 6, 7, 8, 9, 10]] (Nat.le_of_ble_eq_true rfl) [0, 0, 1, 2, 0, 0, 1, 3, 3, 4, 5, 6] rfl (TK := [(3, 5), (7, 6)]) rfl (AllK.cons' ⟨(tk_upd (tk_upd (tk_upd tk_top rfl) rfl) rfl), (AllT.cons' rfl (AllT.cons' rfl (AllT.cons' (tkO_row _) (AllT.cons' (tkO_row _) (AllT.cons' (tkO_row _) AllT.nil'))))), (AllF.cons' (.inr rfl) (AllF.cons' (.inr rfl) (AllF.cons' (.inr rfl) (AllF.cons' (.inl rfl) (AllF.cons' (.inr rfl) (AllF.cons' (.inr rfl) (AllF.cons' (.inr rfl) (AllF.cons' (.inl rfl) (AllF.cons' (.inl rfl) (AllF.cons' (.inl rfl) (AllF.cons' (.inl rfl) (AllF.cons' (.inl rfl) AllF.nil'))))))))))))⟩ (AllK.cons' ⟨(tk_upd (tk_upd (tk_upd tk_top rfl) rfl) rfl), (AllT.cons' rfl (AllT.cons' rfl (AllT.cons' (tkO_row _) (AllT.cons' (tkO_row _) (AllT.cons' (tkO_row _) AllT.nil'))))), (AllF.cons' (.inr rfl) (AllF.cons' (.inr rfl) (AllF.cons' (.inr rfl) (AllF.cons' (.inr (by unfold tkFoot; simp only [List.all_cons, List.all_nil, tkO_row, Bool.and_true, Bool.true_and]; rfl)) (AllF.cons' (.inr rfl) (AllF.cons' (.inr rfl) (AllF.cons' (.inr rfl) (AllF.cons' (.inl rfl) (AllF.cons' (.inr rfl) (AllF.cons' (.inl rfl) (AllF.cons' (.inl rfl) (AllF.cons' (.inl rfl) AllF.nil'))))))))))))⟩ AllK.nil')) (AllF.cons' ⟨(AllS.cons' rfl AllS.nil'), AllH.nil'⟩ (AllF.cons' ⟨(AllS.cons' rfl AllS.nil'), AllH.nil'⟩ (AllF.cons' ⟨(AllS.cons' rfl AllS.nil'), (AllH.cons' rfl AllH.nil')⟩ (AllF.cons' ⟨(AllS.cons' rfl (AllS.cons' rfl AllS.nil')), AllH.nil'⟩ (AllF.cons' ⟨(AllS.cons' rfl AllS.nil'), AllH.nil'⟩ (AllF.cons' ⟨(AllS.cons' rfl AllS.nil'), AllH.nil'⟩ (AllF.cons' ⟨(AllS.cons' rfl AllS.nil'), (AllH.cons' rfl AllH.nil')⟩ (AllF.cons' ⟨(AllS.cons' rfl (AllS.cons' rfl AllS.nil')), AllH.nil'⟩ (AllF.cons' ⟨(AllS.cons' rfl AllS.nil'), AllH.nil'⟩ (AllF.cons' ⟨(AllS.cons' rfl (AllS.cons' rfl AllS.nil')), (AllH.cons' rfl AllH.nil')⟩ (AllF.cons' ⟨(AllS.cons' rfl AllS.nil'), AllH.nil'⟩ (AllF.cons' ⟨(AllS.cons' rfl (AllS.cons' rfl AllS.nil')), (AllH.cons' rfl AllH.nil')⟩ AllF.nil')))))))))))) ?_ ?_
          · refine (AllStep.cons' ?_ (AllStep.cons' ?_ (AllStep.cons' ?_ (AllStep.cons' ?_ (AllStep.cons' ?_ (AllStep.cons' ?_ (AllStep.cons' ?_ (AllStep.cons' ?_ (AllStep.cons' ?_ (AllStep.cons' ?_ (AllStep.cons' ?_ (AllStep.cons' ?_ AllStep.nil'))))))))))))
            · intro K rest fr hv htk k
              show AWops _ x _ _ K ⟨30, (upd 30 fr 4 (D.one (C.clo 60 []))), [(hv 0), (hv 1), (hv 2), (hv 3), (hv 4), (hv 5), (hv 6)]⟩
              refine s_move (d := (D.one (C.clo 60 []))) rfl ?_
              exact k
            · intro K rest fr hv htk k
              show AWops _ x _ _ K ⟨30, (upd 30 fr 1 (D.one (C.ref 0 0))), [(hv 0), (hv 1), (hv 2), (hv 3), (hv 4), (hv 5), (hv 6)]⟩
              refine s_fieldRef F.fo_36_12 (by decide) rfl ?_
              exact k
            · intro K rest fr hv htk k
              show AWops _ x _ _ K ⟨30, (upd 30 fr 20 (D.one (C.ref 0 12))), [(some (AObj.cells true [(C.p true (.v (.string a0.ID))), (C.p true (.v (.string a0.Name))), (C.p true (.v (.int .i64 a0.Kind))), (C.own 2 0 r1.length 2), (C.own 3 0 r2.length 2), (C.p true (.v (.string a0.Manual))), (C.p true (.v (.string a0.Required))), (C.p true (.v (.string a0.Repeat))), (C.p true (.v (.bool a0.Auto))), (C.p true (.v (.bool a0.Free))), (C.p true (.v (.int .i64 a0.After))), (C.own 4 0 r3.length 1), (C.p false (.sl a0.Kids.length (a0.Kids.flatMap e_api_Item))), (C.p false (.sl a0.Table.length (a0.Table.flatMap e_api_Item)))])), (hv 1), (hv 2), (hv 3), (hv 4), (hv 5), (hv 6)]⟩
              refine s_load1 (c' := (C.p false (.sl a0.Kids.length (a0.Kids.flatMap e_api_Item)))) F.ag_34 rfl rfl ?_
              exact k
            · intro K rest fr hv htk k
              show AWops _ x _ _ K ⟨30, (upd 30 (upd 30 fr 21 (D.one (C.p false (.sl a0.Kids.length (a0.Kids.flatMap e_api_Item))))) 19 (D.one (C.clo 60 []))), [(hv 0), (hv 1), (hv 2), (hv 3), (hv 4), (hv 5), (hv 6)]⟩
              refine s_call2 (ρ := []) (br := false) (H2 := [(hv 0), (hv 1), (hv 2), (hv 3), (hv 4), (hv 5), (hv 6), (some (AObj.cells true (rowC e_api_Item r4)))]) (d := (D.one (C.own 7 0 r4.length 14))) F.ca_60 rfl rfl (All2.cons (.one .imm) All2.nil) All2.nil (by decide) rfl ((ih _ (by omega)).2 a0.Kids r4 er4) (.inl rfl) (by first | rfl | (simp only [mergeH2, orF, Bool.false_or, Bool.or_false, Bool.true_or, Bool.or_true, mergeAt, mergeObj, renO, ren_row, List.drop_succ_cons, List.drop_zero, List.map_cons, List.map_nil, Option.map_some, Option.map_none, List.length_cons, List.length_nil, Nat.zero_add, List.append_assoc, List.cons_append, List.nil_append]; done) | (simp only [mergeH2, orF, Bool.false_or, Bool.or_false, Bool.true_or, Bool.or_true, mergeAt, mergeObj, renO, ren_row, List.drop_succ_cons, List.drop_zero, List.map_cons, List.map_nil, Option.map_some, Option.map_none, List.length_cons, List.length_nil, Nat.zero_add, List.append_assoc, List.cons_append, List.nil_append]; rfl)) rfl ?_
              refine AWops.weak (st' := ⟨30, (upd 30 (upd 30 (upd 30 fr 21 (D.one (C.p false (.sl a0.Kids.length (a0.Kids.flatMap e_api_Item))))) 19 (D.one (C.clo 60 []))) 22 (D.one (C.own 5 0 r4.length 14))), [(hv 0), (hv 1), (hv 2), (hv 3), (hv 4), (some (AObj.cells true (rowC e_api_Item r4))), (hv 6)]⟩) (Weak.gen (kk := 0) [0, 1, 2, 3, 4, 7, 6] [] hx rfl (by decide) (by decide) rfl rfl rfl (le_upd2 (le_ok (p := 5) (L := 7) rfl (htk 5 rfl).1) (.t (.one (.own rfl)))) (All2.cons (ole_ok (p := 5) (L := 7) rfl ((htk 5 rfl).2 0)) (All2.cons (ole_ok (p := 5) (L := 7) rfl ((htk 5 rfl).2 1)) (All2.cons (ole_ok (p := 5) (L := 7) rfl ((htk 5 rfl).2 2)) (All2.cons (ole_ok (p := 5) (L := 7) rfl ((htk 5 rfl).2 3)) (All2.cons (ole_ok (p := 5) (L := 7) rfl ((htk 5 rfl).2 4)) (All2.cons (.cells (fun h => h) (all2_row _)) (All2.cons (ole_ok (p := 5) (L := 7) rfl ((htk 5 rfl).2 6)) All2.nil)))))))) ?_
              exact k
            · intro K rest fr hv htk k
              show AWops _ x _ _ K ⟨30, (upd 30 fr 4 (D.one (C.clo 60 []))), [(hv 0), (hv 1), (hv 2), (hv 3), (hv 4), (hv 5), (hv 6)]⟩
              refine s_move (d := (D.one (C.clo 60 []))) rfl ?_
              exact k
            · intro K rest fr hv htk k
              show AWops _ x _ _ K ⟨30, (upd 30 fr 1 (D.one (C.ref 0 0))), [(hv 0), (hv 1), (hv 2), (hv 3), (hv 4), (hv 5), (hv 6)]⟩
              refine s_fieldRef F.fo_36_13 (by decide) rfl ?_
              exact k
            · intro K rest fr hv htk k
              show AWops _ x _ _ K ⟨30, (upd 30 fr 24 (D.one (C.ref 0 13))), [(some (AObj.cells true [(C.p true (.v (.string a0.ID))), (C.p true (.v (.string a0.Name))), (C.p true (.v (.int .i64 a0.Kind))), (C.own 2 0 r1.length 2), (C.own 3 0 r2.length 2), (C.p true (.v (.string a0.Manual))), (C.p true (.v (.string a0.Required))), (C.p true (.v (.string a0.Repeat))), (C.p true (.v (.bool a0.Auto))), (C.p true (.v (.bool a0.Free))), (C.p true (.v (.int .i64 a0.After))), (C.own 4 0 r3.length 1), (C.p false (.sl a0.Kids.length (a0.Kids.flatMap e_api_Item))), (C.p false (.sl a0.Table.length (a0.Table.flatMap e_api_Item)))])), (hv 1), (hv 2), (hv 3), (hv 4), (hv 5), (hv 6)]⟩
              refine s_load1 (c' := (C.p false (.sl a0.Table.length (a0.Table.flatMap e_api_Item)))) F.ag_34 rfl rfl ?_
              exact k
            · intro K rest fr hv htk k
              show AWops _ x _ _ K ⟨30, (upd 30 (upd 30 fr 25 (D.one (C.p false (.sl a0.Table.length (a0.Table.flatMap e_api_Item))))) 23 (D.one (C.clo 60 []))), [(hv 0), (hv 1), (hv 2), (hv 3), (hv 4), (hv 5), (hv 6)]⟩
              refine s_call2 (ρ := []) (br := false) (H2 := [(hv 0), (hv 1), (hv 2), (hv 3), (hv 4), (hv 5), (hv 6), (some (AObj.cells true (rowC e_api_Item r5)))]) (d := (D.one (C.own 7 0 r5.length 14))) F.ca_60 rfl rfl (All2.cons (.one .imm) All2.nil) All2.nil (by decide) rfl ((ih _ (by omega)).2 a0.Table r5 er5) (.inl rfl) (by first | rfl | (simp only [mergeH2, orF, Bool.false_or, Bool.or_false, Bool.true_or, Bool.or_true, mergeAt, mergeObj, renO, ren_row, List.drop_succ_cons, List.drop_zero, List.map_cons, List.map_nil, Option.map_some, Option.map_none, List.length_cons, List.length_nil, Nat.zero_add, List.append_assoc, List.cons_append, List.nil_append]; done) | (simp only [mergeH2, orF, Bool.false_or, Bool.or_false, Bool.true_or, Bool.or_true, mergeAt, mergeObj, renO, ren_row, List.drop_succ_cons, List.drop_zero, List.map_cons, List.map_nil, Option.map_some, Option.map_none, List.length_cons, List.length_nil, Nat.zero_add, List.append_assoc, List.cons_append, List.nil_append]; rfl)) rfl ?_
              refine AWops.weak (st' := ⟨30, (upd 30 (upd 30 (upd 30 fr 25 (D.one (C.p false (.sl a0.Table.length (a0.Table.flatMap e_api_Item))))) 23 (D.one (C.clo 60 []))) 26 (D.one (C.own 6 0 r5.length 14))), [(hv 0), (hv 1), (hv 2), (hv 3), (hv 4), (hv 5), (some (AObj.cells true (rowC e_api_Item r5)))]⟩) (Weak.gen (kk := 0) [0, 1, 2, 3, 4, 5, 7] [] hx rfl (by decide) (by decide) rfl rfl rfl (le_upd2 (le_ok (p := 6) (L := 7) rfl (htk 6 rfl).1) (.t (.one (.own rfl)))) (All2.cons (ole_ok (p := 6) (L := 7) rfl ((htk 6 rfl).2 0)) (All2.cons (ole_ok (p := 6) (L := 7) rfl ((htk 6 rfl).2 1)) (All2.cons (ole_ok (p := 6) (L := 7) rfl ((htk 6 rfl).2 2)) (All2.cons (ole_ok (p := 6) (L := 7) rfl ((htk 6 rfl).2 3)) (All2.cons (ole_ok (p := 6) (L := 7) rfl ((htk 6 rfl).2 4)) (All2.cons (ole_ok (p := 6) (L := 7) rfl ((htk 6 rfl).2 5)) (All2.cons (.cells (fun h => h) (all2_row _)) All2.nil)))))))) ?_
              exact k
            · intro K rest fr hv htk k
              show AWops _ x _ _ K ⟨30, (upd 30 fr 1 (D.one (C.ref 0 0))), [(hv 0), (hv 1), (hv 2), (hv 3), (hv 4), (hv 5), (hv 6)]⟩
              refine s_fieldRef F.fo_36_12 (by decide) rfl ?_
              exact k
            · intro K rest fr hv htk k
              show AWops _ x _ _ K ⟨30, (upd 30 (upd 30 fr 27 (D.one (C.ref 0 12))) 22 (D.one (C.own 5 0 r4.length 14))), [(some (AObj.cells true [(C.p true (.v (.string a0.ID))), (C.p true (.v (.string a0.Name))), (C.p true (.v (.int .i64 a0.Kind))), (C.own 2 0 r1.length 2), (C.own 3 0 r2.length 2), (C.p true (.v (.string a0.Manual))), (C.p true (.v (.string a0.Required))), (C.p true (.v (.string a0.Repeat))), (C.p true (.v (.bool a0.Auto))), (C.p true (.v (.bool a0.Free))), (C.p true (.v (.int .i64 a0.After))), (C.own 4 0 r3.length 1), (C.p false (.sl a0.Kids.length (a0.Kids.flatMap e_api_Item))), (C.p false (.sl a0.Table.length (a0.Table.flatMap e_api_Item)))])), (hv 1), (hv 2), (hv 3), (hv 4), (hv 5), (hv 6)]⟩
              refine s_store (cs' := [(C.p true (.v (.string a0.ID))), (C.p true (.v (.string a0.Name))), (C.p true (.v (.int .i64 a0.Kind))), (C.own 2 0 r1.length 2), (C.own 3 0 r2.length 2), (C.p true (.v (.string a0.Manual))), (C.p true (.v (.string a0.Required))), (C.p true (.v (.string a0.Repeat))), (C.p true (.v (.bool a0.Auto))), (C.p true (.v (.bool a0.Free))), (C.p true (.v (.int .i64 a0.After))), (C.own 4 0 r3.length 1), (C.own 5 0 r4.length 14), (C.p false (.sl a0.Table.length (a0.Table.flatMap e_api_Item)))]) rfl rfl rfl (List.cons_ne_nil _ _) rfl F.sz_34 (Nat.le_of_ble_eq_true rfl) rfl ?_
              exact k
            · intro K rest fr hv htk k
              show AWops _ x _ _ K ⟨30, (upd 30 fr 1 (D.one (C.ref 0 0))), [(hv 0), (hv 1), (hv 2), (hv 3), (hv 4), (hv 5), (hv 6)]⟩
              refine s_fieldRef F.fo_36_13 (by decide) rfl ?_
              exact k
            · intro K rest fr hv htk k
              show AWops _ x _ _ K ⟨30, (upd 30 (upd 30 fr 28 (D.one (C.ref 0 13))) 26 (D.one (C.own 6 0 r5.length 14))), [(some (AObj.cells true [(C.p true (.v (.string a0.ID))), (C.p true (.v (.string a0.Name))), (C.p true (.v (.int .i64 a0.Kind))), (C.own 2 0 r1.length 2), (C.own 3 0 r2.length 2), (C.p true (.v (.string a0.Manual))), (C.p true (.v (.string a0.Required))), (C.p true (.v (.string a0.Repeat))), (C.p true (.v (.bool a0.Auto))), (C.p true (.v (.bool a0.Free))), (C.p true (.v (.int .i64 a0.After))), (C.own 4 0 r3.length 1), (C.own 5 0 r4.length 14), (C.p false (.sl a0.Table.length (a0.Table.flatMap e_api_Item)))])), (hv 1), (hv 2), (hv 3), (hv 4), (hv 5), (hv 6)]⟩
              refine s_store (cs' := [(C.p true (.v (.string a0.ID))), (C.p true (.v (.string a0.Name))), (C.p true (.v (.int .i64 a0.Kind))), (C.own 2 0 r1.length 2), (C.own 3 0 r2.length 2), (C.p true (.v (.string a0.Manual))), (C.p true (.v (.string a0.Required))), (C.p true (.v (.string a0.Repeat))), (C.p true (.v (.bool a0.Auto))), (C.p true (.v (.bool a0.Free))), (C.p true (.v (.int .i64 a0.After))), (C.own 4 0 r3.length 1), (C.own 5 0 r4.length 14), (C.own 6 0 r5.length 14)]) rfl rfl rfl (List.cons_ne_nil _ _) rfl F.sz_34 (Nat.le_of_ble_eq_true rfl) rfl ?_
              exact k
          · refine AWops.weak (st' := ⟨30, (upd 30 (upd 30 topF 1 (D.one (C.ref 0 0))) 2 (D.one (C.ref 1 0))), [(some (AObj.cells true [(C.p true (.v (.string a0.ID))), (C.p true (.v (.string a0.Name))), (C.p true (.v (.int .i64 a0.Kind))), (C.own 2 0 r1.length 2), (C.own 3 0 r2.length 2), (C.p true (.v (.string a0.Manual))), (C.p true (.v (.string a0.Required))), (C.p true (.v (.string a0.Repeat))), (C.p true (.v (.bool a0.Auto))), (C.p true (.v (.bool a0.Free))), (C.p true (.v (.int .i64 a0.After))), (C.own 4 0 r3.length 1), (C.own 5 0 r4.length 14), (C.own 6 0 r5.length 14)])), (some (AObj.cells true [(C.p true (.v (.string (⟨#[]⟩ : ByteArray)))), (C.p true (.v (.string (⟨#[]⟩ : ByteArray)))), (C.p true (.v (.int .i64 0))), (C.p true (.v (.slice none 0 0))), (C.p true (.v (.slice none 0 0))), (C.p true (.v (.string (⟨#[]⟩ : ByteArray)))), (C.p true (.v (.string (⟨#[]⟩ : ByteArray)))), (C.p true (.v (.string (⟨#[]⟩ : ByteArray)))), (C.p true (.v (.bool false))), (C.p true (.v (.bool false))), (C.p true (.v (.int .i64 0))), (C.p true (.v (.slice none 0 0))), (C.p true (.v (.slice none 0 0))), (C.p true (.v (.slice none 0 0)))])), (some (AObj.cells true (rowC e_api_Sentry r1))), (some (AObj.cells true (rowC e_api_Sentry r2))), (some (AObj.cells true (rowC e_str r3))), (some (AObj.cells true (rowC e_api_Item r4))), (some (AObj.cells true (rowC e_api_Item r5)))]⟩) (Weak.gen (kk := 0) [0, 1, 2, 3, 4, 5, 6] [] hx rfl (by decide) (by decide) rfl rfl rfl (le_upd (le_upd (le_top _) (.t (.one (.ref rfl)))) (.t (.one (.ref rfl)))) (All2.cons (.cells (fun h => h) (All2.cons .sc (All2.cons .sc (All2.cons .sc (All2.cons (.own rfl) (All2.cons (.own rfl) (All2.cons .sc (All2.cons .sc (All2.cons .sc (All2.cons .sc (All2.cons .sc (All2.cons .sc (All2.cons (.own rfl) (All2.cons (.own rfl) (All2.cons (.own rfl) All2.nil))))))))))))))) (All2.cons (.cells (fun h => h) (All2.cons .sc (All2.cons .sc (All2.cons .sc (All2.cons .sc (All2.cons .sc (All2.cons .sc (All2.cons .sc (All2.cons .sc (All2.cons .sc (All2.cons .sc (All2.cons .sc (All2.cons .sc (All2.cons .sc (All2.cons .sc All2.nil))))))))))))))) (All2.cons (.cells (fun h => h) (all2_row _)) (All2.cons (.cells (fun h => h) (all2_row _)) (All2.cons (.cells (fun h => h) (all2_row _)) (All2.cons (.cells (fun h => h) (all2_row _)) (All2.cons (.cells (fun h => h) (all2_row _)) All2.nil)))))))) ?_
            refine AWops.nil ?_
            refine AW.seq ?_
            refine AW.region ?_
            refine s_loadN (ds := [(C.p true (.v (.string a0.ID))), (C.p true (.v (.string a0.Name))), (C.p true (.v (.int .i64 a0.Kind))), (C.own 2 0 r1.length 2), (C.own 3 0 r2.length 2), (C.p true (.v (.string a0.Manual))), (C.p true (.v (.string a0.Required))), (C.p true (.v (.string a0.Repeat))), (C.p true (.v (.bool a0.Auto))), (C.p true (.v (.bool a0.Free))), (C.p true (.v (.int .i64 a0.After))), (C.own 4 0 r3.length 1), (C.own 5 0 r4.length 14), (C.own 6 0 r5.length 14)]) F.ag_36 F.sz_36 rfl rfl rfl ?_
            refine s_store (cs' := [(C.p true (.v (.string a0.ID))), (C.p true (.v (.string a0.Name))), (C.p true (.v (.int .i64 a0.Kind))), (C.own 2 0 r1.length 2), (C.own 3 0 r2.length 2), (C.p true (.v (.string a0.Manual))), (C.p true (.v (.string a0.Required))), (C.p true (.v (.string a0.Repeat))), (C.p true (.v (.bool a0.Auto))), (C.p true (.v (.bool a0.Free))), (C.p true (.v (.int .i64 a0.After))), (C.own 4 0 r3.length 1), (C.own 5 0 r4.length 14), (C.own 6 0 r5.length 14)]) rfl rfl rfl (List.cons_ne_nil _ _) rfl F.sz_36 (Nat.le_of_ble_eq_true rfl) rfl ?_
            refine AWops.nil ?_
            refine AW.ret ?_
            obtain rfl := Option.some.inj h
            exact ⟨_, rfl, (Weak.gen (kk := 0) [] [2, 3, 4, 5, 6] rfl rfl (by decide) (by decide) rfl rfl rfl (le_upd (le_top _) (.t (.agg (All2.cons .sc (All2.cons .sc (All2.cons .sc (All2.cons (CLe.frz e_api_Sentry_len rfl rfl rfl) (All2.cons (CLe.frz e_api_Sentry_len rfl rfl rfl) (All2.cons .sc (All2.cons .sc (All2.cons .sc (All2.cons .sc (All2.cons .sc (All2.cons .sc (All2.cons (CLe.frz e_str_len rfl rfl rfl) (All2.cons (CLe.frz e_api_Item_len rfl rfl rfl) (All2.cons (CLe.frz e_api_Item_len rfl rfl rfl) All2.nil))))))))))))))))) All2.nil)⟩
      · intro a0 r h
        replace h := (model_own_2.f.eq_2 _ _).symm.trans h
        refine Meets.of_body (n := 19) Try.func60 rfl rfl (Nat.le_of_ble_eq_true rfl) fun x hx => ?_
        replace hx : x.k = 0 := hx
        show AW _ x _ _ ⟨19, fr0 [(D.one (C.p false (.sl a0.length (a0.flatMap e_api_Item))))], []⟩
        refine AW.seq ?_
        refine AW.region ?_
        refine s_assign (d := (sc (.slice none 0 0))) rfl ?_
        refine AWops.nil ?_
        refine AW.seq ?_
        refine AW.region ?_
        refine s_assign (d := (sc (.slice none 0 0))) rfl ?_
        refine AWops.nil ?_
        refine AW.seq ?_
        refine AW.seq ?_
        refine AW.region ?_
        refine s_move (d := (D.one (C.p false (.sl a0.length (a0.flatMap e_api_Item))))) rfl ?_
        refine s_len (n := a0.length) F.u_34 rfl (.inr ⟨(fun _ _ h => by cases h), ⟨_, rfl⟩⟩) ?_
        refine s_move (d := (sc (.int .i64 0))) rfl ?_
        refine AWops.nil ?_
        refine AW.block ?_
        refine AW.loopw (st0 := ⟨19, (upd 19 (upd 19 (upd 19 (upd 19 topF 3 (D.one (C.own 0 0 ([] : List api_Item).length 14))) 6 (D.one (C.p false (.sl a0.length (a0.flatMap e_api_Item))))) 7 (sc (.int .i64 (a0.length : Int)))) 8 (sc (.int .i64 0))), [(some (AObj.cells true (rowC e_api_Item ([] : List api_Item))))]⟩) (fun kv st => kv ≤ k ∧ ∃ (x1 : List api_Item) (x2 : Int), model_own_2.l0 kv x1 x2 a0 = some r ∧ st = ⟨19, (upd 19 (upd 19 (upd 19 (upd 19 topF 3 (D.one (C.own 0 0 x1.length 14))) 6 (D.one (C.p false (.sl a0.length (a0.flatMap e_api_Item))))) 7 (sc (.int .i64 (a0.length : Int)))) 8 (sc (.int .i64 x2))), [(some (AObj.cells true (rowC e_api_Item x1)))]⟩) (k := k) (Weak.trans (Weak.nil (sz := 14) (i := 3) rfl) (Weak.gen (kk := 0) [0] [] hx rfl (by decide) (by decide) rfl rfl rfl (le_upd (le_upd (le_upd (le_upd (le_top _) (.t (.one (.own rfl)))) (.t (.one .same))) (.t (.one .sc))) (.t (.one .sc))) (All2.cons (.cells (fun h => h) All2.nil) All2.nil))) ⟨Nat.le_refl _, ([] : List api_Item), 0, h, rfl⟩ ?_
        rintro ql0 st ⟨hkl0, x1, x2, h, rfl⟩
        cases ql0 with
        | zero => exact absurd h (by simp [model_own_2.l0])
        | succ ql0 =>
          replace h := (model_own_2.l0.eq_2 _ _ _ _).symm.trans h
          refine AW.seq ?_
          refine AW.region ?_
          refine s_binI (v := (.bool (decide (x2 < (a0.length : Int))))) rfl rfl rfl ?_
          refine AWops.nil ?_
          refine AW.seq ?_
          by_cases c3 : (decide (x2 < (a0.length : Int))) = true
          · replace h := (if_pos c3).symm.trans h
            refine AW.cond_yes rfl c3 ?_
            refine AW.skip ?_
            refine AW.seq ?_
            refine AW.block ?_
            refine AW.seq ?_
            refine AW.region ?_
            obtain ⟨v4, ev4, h⟩ := Option.bind_eq_some_iff.mp h
            obtain ⟨pv4, qv4, gv4⟩ := rd_some ev4
            refine s_indexImm (ps := (p_api_Item v4)) F.u_34 F.sz_36 rfl rfl pv4 qv4 (flat_at e_api_Item_len gv4 (e_api_Item_eq v4)) ?_
            refine s_loadN (ds := (c_api_Item v4)) F.ag_36 F.sz_36 rfl rfl rfl ?_
            refine s_alloc (cs := [(C.p true (.v (.string (⟨#[]⟩ : ByteArray)))), (C.p true (.v (.string (⟨#[]⟩ : ByteArray)))), (C.p true (.v (.int .i64 0))), (C.p true (.v (.slice none 0 0))), (C.p true (.v (.slice none 0 0))), (C.p true (.v (.string (⟨#[]⟩ : ByteArray)))), (C.p true (.v (.string (⟨#[]⟩ : ByteArray)))), (C.p true (.v (.string (⟨#[]⟩ : ByteArray)))), (C.p true (.v (.bool false))), (C.p true (.v (.bool false))), (C.p true (.v (.int .i64 0))), (C.p true (.v (.slice none 0 0))), (C.p true (.v (.slice none 0 0))), (C.p true (.v (.slice none 0 0)))]) F.z_36 rfl rfl ?_
            refine s_store (cs' := (c_api_Item v4)) rfl rfl rfl (List.cons_ne_nil _ _) rfl F.sz_36 (Nat.le_of_ble_eq_true rfl) rfl ?_
            refine AWops.nil ?_
            refine AW.region ?_
            refine s_move (d := (D.one (C.own 0 0 x1.length 14))) rfl ?_
            refine s_loadN (ds := (c_api_Item v4)) F.ag_36 F.sz_36 rfl rfl rfl ?_
            obtain ⟨r5, er5, h⟩ := Option.bind_eq_some_iff.mp h
            refine s_call2 (ρ := []) (br := false) (H2 := [(some (AObj.cells true (rowC e_api_Item x1))), (some (AObj.cells true (c_api_Item v4)))]) (d := (D.agg (c_api_Item r5))) F.ca_54 rfl rfl (All2.cons (LendT.aggL (All2.cons .sc (All2.cons .sc (All2.cons .sc (All2.cons .imm (All2.cons .imm (All2.cons .sc (All2.cons .sc (All2.cons .sc (All2.cons .sc (All2.cons .sc (All2.cons .sc (All2.cons .imm (All2.cons .imm (All2.cons .imm All2.nil))))))))))))))) All2.nil) All2.nil (by decide) rfl ((ih _ (by omega)).1 v4 r5 er5) (.inl rfl) rfl rfl ?_
            refine s_buildSlice (n := 1) (ps := [(0, (D.agg (c_api_Item r5)))]) (cs := rowC e_api_Item ([r5] : List api_Item)) F.u_34 F.sz_36 F.z_36 rfl rfl (by decide) (by decide) rfl (by simp only [rowC, List.flatMap_cons, List.flatMap_nil, List.append_nil, List.cons_append, List.nil_append, List.map_cons, List.map_nil, e_api_Item_eq]; rfl) ?_
            by_cases c6 : (decide (x1.length + ([r5] : List api_Item).length ≤ 628292358729)) = true
            · replace h := (if_pos c6).symm.trans h
              have dc6 := of_decide_eq_true c6
              refine t_append (xs := x1) (ys := ([r5] : List api_Item)) (zs := x1 ++ ([r5] : List api_Item)) (H' := [none, (some (AObj.cells true (c_api_Item v4))), (some (AObj.cells true (rowC e_api_Item ([r5] : List api_Item)))), (some (AObj.cells true (rowC e_api_Item (x1 ++ ([r5] : List api_Item)))))]) F.u_34 F.in_36 rfl e_api_Item_len (.own rfl rfl) (.own rfl rfl) F.u_34 (by omega) (by omega) rfl rfl ?_
              refine s_assign (d := (D.one (C.own 3 0 ((x1 ++ ([r5] : List api_Item)).length) 14))) rfl ?_
              refine AWops.nil ?_
              refine AW.region ?_
              refine s_binI (v := (.int .i64 (IntKind.i64.wrap (x2 + 1)))) rfl rfl rfl ?_
              refine s_move (d := (sc (.int .i64 (IntKind.i64.wrap (x2 + 1))))) rfl ?_
              refine AWops.nil ?_
              exact ⟨_, ⟨19, (upd 19 (upd 19 (upd 19 (upd 19 topF 3 (D.one (C.own 0 0 (x1 ++ ([r5] : List api_Item)).length 14))) 6 (D.one (C.p false (.sl a0.length (a0.flatMap e_api_Item))))) 7 (sc (.int .i64 (a0.length : Int)))) 8 (sc (.int .i64 (IntKind.i64.wrap (x2 + 1))))), [(some (AObj.cells true (rowC e_api_Item (x1 ++ ([r5] : List api_Item)))))]⟩, by omega, (Weak.gen (kk := 0) [3] [] hx rfl (by decide) (by decide) rfl rfl rfl (le_upd (le_upd (le_upd (le_upd (le_top _) (.t (.one (.own rfl)))) (.t (.one .same))) (.t (.one .sc))) (.t (.one .sc))) (All2.cons (.cells (fun h => h) (all2_row _)) All2.nil)), by omega, x1 ++ ([r5] : List api_Item), IntKind.i64.wrap (x2 + 1), h, rfl⟩
            · replace h := (if_neg c6).symm.trans h
              cases h
          · replace h := (if_neg c3).symm.trans h
            replace c3 := Bool.eq_false_iff.mpr c3
            refine AW.cond_no rfl c3 ?_
            refine AW.exit ?_
            refine AW.seq ?_
            refine AW.region ?_
            refine s_move (d := (D.one (C.own 0 0 x1.length 14))) rfl ?_
            refine s_assign (d := (D.one (C.own 0 0 x1.length 14))) rfl ?_
            refine AWops.nil ?_
            refine AW.ret ?_
            obtain rfl := Option.some.inj h
            exact ⟨_, rfl, (Weak.gen (kk := 0) [0] [] rfl rfl (by decide) (by decide) rfl rfl rfl (le_upd (le_top _) (.t (.one (.own rfl)))) (All2.cons (.cells (fun h => h) (all2_row _)) All2.nil))⟩
theorem model_own.meets (k : Nat) (a0 : api_Item) (r : api_Item) (h : model_own.f k a0 = some r) : Meets Try.prog 54 [(D.agg (c_api_Item a0))] [] (D.agg (c_api_Item r)) [] := (model_own_grp.meets k).1 a0 r h
theorem model_own_2.meets (k : Nat) (a0 : List api_Item) (r : (List api_Item)) (h : model_own_2.f k a0 = some r) : Meets Try.prog 60 [(D.one (C.p false (.sl a0.length (a0.flatMap e_api_Item))))] [] (D.one (C.own 0 0 r.length 14)) [(some (AObj.cells true (rowC e_api_Item r)))] := (model_own_grp.meets k).2 a0 r h
def model_Find.f (k : Nat) (a0 : api_Model) (a1 : ByteArray) : Option (api_Item × Bool) := (model_look.f k a0 a1).bind fun r1 => if r1.2.2 = true then ((model_own.f k r1.1).bind fun r3 => some (r3, true)) else (some ((⟨(⟨#[]⟩ : ByteArray), (⟨#[]⟩ : ByteArray), 0, ([] : List api_Sentry), ([] : List api_Sentry), (⟨#[]⟩ : ByteArray), (⟨#[]⟩ : ByteArray), (⟨#[]⟩ : ByteArray), false, false, 0, ([] : List ByteArray), ([] : List api_Item), ([] : List api_Item)⟩ : api_Item), false))
theorem model_Find.meets (k : Nat) (a0 : api_Model) (a1 : ByteArray) (r : api_Item × Bool) (h : model_Find.f k a0 a1 = some r) : Meets Try.prog 42 [(D.agg (c_api_Model a0)), (sc (.string a1))] [] (D.tup [(D.agg (c_api_Item r.1)), (sc (.bool r.2))]) [] := by
  unfold model_Find.f at h
  refine Meets.of_body (n := 21) Try.func42 rfl rfl (Nat.le_of_ble_eq_true rfl) fun x hx => ?_
  replace hx : x.k = 0 := hx
  show AW _ x _ _ ⟨21, fr0 [(D.agg (c_api_Model a0)), (sc (.string a1))], []⟩
  refine AW.seq ?_
  refine AW.region ?_
  refine s_box (cs := (c_api_Model a0)) rfl (List.cons_ne_nil _ _) rfl ?_
  refine s_alloc (cs := [(C.p true (.v (.string (⟨#[]⟩ : ByteArray)))), (C.p true (.v (.string (⟨#[]⟩ : ByteArray)))), (C.p true (.v (.int .i64 0))), (C.p true (.v (.slice none 0 0))), (C.p true (.v (.slice none 0 0))), (C.p true (.v (.string (⟨#[]⟩ : ByteArray)))), (C.p true (.v (.string (⟨#[]⟩ : ByteArray)))), (C.p true (.v (.string (⟨#[]⟩ : ByteArray)))), (C.p true (.v (.bool false))), (C.p true (.v (.bool false))), (C.p true (.v (.int .i64 0))), (C.p true (.v (.slice none 0 0))), (C.p true (.v (.slice none 0 0))), (C.p true (.v (.slice none 0 0)))]) F.z_36 rfl rfl ?_
  refine s_assign (d := (sc (.bool false))) rfl ?_
  refine AWops.nil ?_
  refine AW.seq ?_
  refine AW.region ?_
  refine s_loadN (ds := (c_api_Model a0)) F.ag_38 F.sz_38 rfl rfl rfl ?_
  refine s_move (d := (sc (.string a1))) rfl ?_
  obtain ⟨r1, er1, h⟩ := Option.bind_eq_some_iff.mp h
  refine s_call2 (ρ := []) (br := false) (H2 := [(some (AObj.cells true (c_api_Model a0))), (some (AObj.cells true [(C.p true (.v (.string (⟨#[]⟩ : ByteArray)))), (C.p true (.v (.string (⟨#[]⟩ : ByteArray)))), (C.p true (.v (.int .i64 0))), (C.p true (.v (.slice none 0 0))), (C.p true (.v (.slice none 0 0))), (C.p true (.v (.string (⟨#[]⟩ : ByteArray)))), (C.p true (.v (.string (⟨#[]⟩ : ByteArray)))), (C.p true (.v (.string (⟨#[]⟩ : ByteArray)))), (C.p true (.v (.bool false))), (C.p true (.v (.bool false))), (C.p true (.v (.int .i64 0))), (C.p true (.v (.slice none 0 0))), (C.p true (.v (.slice none 0 0))), (C.p true (.v (.slice none 0 0)))]))]) (d := (D.tup [(D.agg (c_api_Item r1.1)), (D.one (C.p false (.sl r1.2.1.length (r1.2.1.flatMap e_str)))), (sc (.bool r1.2.2))])) F.ca_53 rfl rfl (All2.cons (LendT.aggL (All2.cons .sc (All2.cons .sc (All2.cons .imm (All2.cons .imm (All2.cons .sc (All2.cons .sc (All2.cons .sc (All2.cons .imm (All2.cons .imm (All2.cons .sc (All2.cons .sc (All2.cons .sc (All2.cons .sc (All2.cons .sc (All2.cons .sc (All2.cons .imm (All2.cons .imm (All2.cons .imm All2.nil))))))))))))))))))) (All2.cons (.one .sc) All2.nil)) All2.nil (by decide) rfl (model_look.meets _ a0 a1 r1 er1) (.inl rfl) rfl rfl ?_
  refine s_move (d := (D.tup [(D.agg (c_api_Item r1.1)), (D.one (C.p false (.sl r1.2.1.length (r1.2.1.flatMap e_str)))), (sc (.bool r1.2.2))])) rfl ?_
  refine s_extract (d := (D.agg (c_api_Item r1.1))) rfl rfl ?_
  refine s_extract (d := (D.one (C.p false (.sl r1.2.1.length (r1.2.1.flatMap e_str))))) rfl rfl ?_
  refine s_extract (d := (sc (.bool r1.2.2))) rfl rfl ?_
  refine s_alloc (cs := [(C.p true (.v (.string (⟨#[]⟩ : ByteArray)))), (C.p true (.v (.string (⟨#[]⟩ : ByteArray)))), (C.p true (.v (.int .i64 0))), (C.p true (.v (.slice none 0 0))), (C.p true (.v (.slice none 0 0))), (C.p true (.v (.string (⟨#[]⟩ : ByteArray)))), (C.p true (.v (.string (⟨#[]⟩ : ByteArray)))), (C.p true (.v (.string (⟨#[]⟩ : ByteArray)))), (C.p true (.v (.bool false))), (C.p true (.v (.bool false))), (C.p true (.v (.int .i64 0))), (C.p true (.v (.slice none 0 0))), (C.p true (.v (.slice none 0 0))), (C.p true (.v (.slice none 0 0)))]) F.z_36 rfl rfl ?_
  refine s_store (cs' := (c_api_Item r1.1)) rfl rfl rfl (List.cons_ne_nil _ _) rfl F.sz_36 (Nat.le_of_ble_eq_true rfl) rfl ?_
  refine s_assign (d := (D.one (C.p false (.sl r1.2.1.length (r1.2.1.flatMap e_str))))) rfl ?_
  refine s_assign (d := (sc (.bool r1.2.2))) rfl ?_
  refine AWops.nil ?_
  refine AW.seq ?_
  refine AW.seq ?_
  refine AW.region ?_
  refine s_move (d := (sc (.bool r1.2.2))) rfl ?_
  refine s_not rfl ?_
  refine AWops.nil ?_
  by_cases c2 : r1.2.2 = true
  · replace h := (if_pos c2).symm.trans h
    refine AW.cond_no rfl (by rw [c2] <;> rfl) ?_
    refine AW.skip ?_
    refine AW.seq ?_
    refine AW.region ?_
    refine s_loadN (ds := (c_api_Item r1.1)) F.ag_36 F.sz_36 rfl rfl rfl ?_
    obtain ⟨r3, er3, h⟩ := Option.bind_eq_some_iff.mp h
    refine s_call2 (ρ := []) (br := false) (H2 := [(some (AObj.cells true (c_api_Model a0))), (some (AObj.cells true [(C.p true (.v (.string (⟨#[]⟩ : ByteArray)))), (C.p true (.v (.string (⟨#[]⟩ : ByteArray)))), (C.p true (.v (.int .i64 0))), (C.p true (.v (.slice none 0 0))), (C.p true (.v (.slice none 0 0))), (C.p true (.v (.string (⟨#[]⟩ : ByteArray)))), (C.p true (.v (.string (⟨#[]⟩ : ByteArray)))), (C.p true (.v (.string (⟨#[]⟩ : ByteArray)))), (C.p true (.v (.bool false))), (C.p true (.v (.bool false))), (C.p true (.v (.int .i64 0))), (C.p true (.v (.slice none 0 0))), (C.p true (.v (.slice none 0 0))), (C.p true (.v (.slice none 0 0)))])), (some (AObj.cells true (c_api_Item r1.1)))]) (d := (D.agg (c_api_Item r3))) F.ca_54 rfl rfl (All2.cons (LendT.aggL (All2.cons .sc (All2.cons .sc (All2.cons .sc (All2.cons .imm (All2.cons .imm (All2.cons .sc (All2.cons .sc (All2.cons .sc (All2.cons .sc (All2.cons .sc (All2.cons .sc (All2.cons .imm (All2.cons .imm (All2.cons .imm All2.nil))))))))))))))) All2.nil) All2.nil (by decide) rfl (model_own.meets _ r1.1 r3 er3) (.inl rfl) rfl rfl ?_
    refine s_store (cs' := (c_api_Item r3)) rfl rfl rfl (List.cons_ne_nil _ _) rfl F.sz_36 (Nat.le_of_ble_eq_true rfl) rfl ?_
    refine s_assign (d := (sc (.bool true))) rfl ?_
    refine AWops.nil ?_
    refine AW.ret ?_
    obtain rfl := Option.some.inj h
    exact ⟨_, rfl, (Weak.gen (kk := 0) [] [] rfl rfl (by decide) (by decide) rfl rfl rfl (le_upd (le_top _) (DLe.tup (All2.cons (TLe.agg (All2.cons .sc (All2.cons .sc (All2.cons .sc (All2.cons .same (All2.cons .same (All2.cons .sc (All2.cons .sc (All2.cons .sc (All2.cons .sc (All2.cons .sc (All2.cons .sc (All2.cons .same (All2.cons .same (All2.cons .same All2.nil))))))))))))))) (All2.cons (TLe.one .sc) All2.nil)))) All2.nil)⟩
  · replace h := (if_neg c2).symm.trans h
    replace c2 := Bool.eq_false_iff.mpr c2
    refine AW.cond_yes rfl (by rw [c2] <;> rfl) ?_
    refine AW.seq ?_
    refine AW.region ?_
    refine s_build (ps := []) (cs := [(C.p true (.v (.string (⟨#[]⟩ : ByteArray)))), (C.p true (.v (.string (⟨#[]⟩ : ByteArray)))), (C.p true (.v (.int .i64 0))), (C.p true (.v (.slice none 0 0))), (C.p true (.v (.slice none 0 0))), (C.p true (.v (.string (⟨#[]⟩ : ByteArray)))), (C.p true (.v (.string (⟨#[]⟩ : ByteArray)))), (C.p true (.v (.string (⟨#[]⟩ : ByteArray)))), (C.p true (.v (.bool false))), (C.p true (.v (.bool false))), (C.p true (.v (.int .i64 0))), (C.p true (.v (.slice none 0 0))), (C.p true (.v (.slice none 0 0))), (C.p true (.v (.slice none 0 0)))]) F.z_36 rfl F.so_36 rfl rfl ?_
    refine s_store (cs' := [(C.p true (.v (.string (⟨#[]⟩ : ByteArray)))), (C.p true (.v (.string (⟨#[]⟩ : ByteArray)))), (C.p true (.v (.int .i64 0))), (C.p true (.v (.slice none 0 0))), (C.p true (.v (.slice none 0 0))), (C.p true (.v (.string (⟨#[]⟩ : ByteArray)))), (C.p true (.v (.string (⟨#[]⟩ : ByteArray)))), (C.p true (.v (.string (⟨#[]⟩ : ByteArray)))), (C.p true (.v (.bool false))), (C.p true (.v (.bool false))), (C.p true (.v (.int .i64 0))), (C.p true (.v (.slice none 0 0))), (C.p true (.v (.slice none 0 0))), (C.p true (.v (.slice none 0 0)))]) rfl rfl rfl (List.cons_ne_nil _ _) rfl F.sz_36 (Nat.le_of_ble_eq_true rfl) rfl ?_
    refine s_assign (d := (sc (.bool false))) rfl ?_
    refine AWops.nil ?_
    refine AW.ret ?_
    obtain rfl := Option.some.inj h
    exact ⟨_, rfl, (Weak.gen (kk := 0) [] [] rfl rfl (by decide) (by decide) rfl rfl rfl (le_upd (le_top _) (DLe.tup (All2.cons (TLe.agg (All2.cons .sc (All2.cons .sc (All2.cons .sc (All2.cons .nil (All2.cons .nil (All2.cons .sc (All2.cons .sc (All2.cons .sc (All2.cons .sc (All2.cons .sc (All2.cons .sc (All2.cons .nil (All2.cons .nil (All2.cons .nil All2.nil))))))))))))))) (All2.cons (TLe.one .sc) All2.nil)))) All2.nil)⟩
mutual
def slices_Index_string_string.l0 : Nat → Int → (List ByteArray) → ByteArray → Option Int
  | 0, _, _, _ => none
  | k + 1, x1, a0, a1 => if (decide (x1 < (a0.length : Int))) = true then ((rd a0 x1).bind fun v3 => if (a1.toList == v3.toList) = true then (some x1) else (slices_Index_string_string.l0 k (IntKind.i64.wrap (x1 + 1)) a0 a1)) else (some (-1))
end
def slices_Index_string_string.f (k : Nat) (a0 : List ByteArray) (a1 : ByteArray) : Option Int := slices_Index_string_string.l0 k 0 a0 a1
theorem slices_Index_string_string.meets (k : Nat) (a0 : List ByteArray) (a1 : ByteArray) (r : Int) (h : slices_Index_string_string.f k a0 a1 = some r) : Meets Try.prog 44 [(D.one (C.p false (.sl a0.length (a0.flatMap e_str)))), (sc (.string a1))] [] (sc (.int .i64 r)) [] := by
  unfold slices_Index_string_string.f at h
  refine Meets.of_body (n := 19) Try.func44 rfl rfl (Nat.le_of_ble_eq_true rfl) fun x hx => ?_
  replace hx : x.k = 0 := hx
  show AW _ x _ _ ⟨19, fr0 [(D.one (C.p false (.sl a0.length (a0.flatMap e_str)))), (sc (.string a1))], []⟩
  refine AW.seq ?_
  refine AW.region ?_
  refine s_assign (d := (sc (.int .i64 0))) rfl ?_
  refine AWops.nil ?_
  refine AW.seq ?_
  refine AW.seq ?_
  refine AW.region ?_
  refine s_move (d := (D.one (C.p false (.sl a0.length (a0.flatMap e_str))))) rfl ?_
  refine s_len (n := a0.length) F.u_31 rfl (.inr ⟨(fun _ _ h => by cases h), ⟨_, rfl⟩⟩) ?_
  refine s_move (d := (sc (.int .i64 0))) rfl ?_
  refine AWops.nil ?_
  refine AW.block ?_
  refine AW.loopw (st0 := ⟨19, (upd 19 (upd 19 (upd 19 (upd 19 topF 0 (D.one (C.p false (.sl a0.length (a0.flatMap e_str))))) 1 (sc (.string a1))) 7 (sc (.int .i64 (a0.length : Int)))) 8 (sc (.int .i64 0))), []⟩) (fun kv st => kv ≤ k ∧ ∃ (x1 : Int), slices_Index_string_string.l0 kv x1 a0 a1 = some r ∧ st = ⟨19, (upd 19 (upd 19 (upd 19 (upd 19 topF 0 (D.one (C.p false (.sl a0.length (a0.flatMap e_str))))) 1 (sc (.string a1))) 7 (sc (.int .i64 (a0.length : Int)))) 8 (sc (.int .i64 x1))), []⟩) (k := k) (Weak.gen (kk := 0) [] [] hx rfl (by decide) (by decide) rfl rfl rfl (le_upd (le_upd (le_upd (le_upd (le_top _) (.t (.one .same))) (.t (.one .sc))) (.t (.one .sc))) (.t (.one .sc))) All2.nil) ⟨Nat.le_refl _, 0, h, rfl⟩ ?_
  rintro ql0 st ⟨hkl0, x1, h, rfl⟩
  cases ql0 with
  | zero => exact absurd h (by simp [slices_Index_string_string.l0])
  | succ ql0 =>
    replace h := (slices_Index_string_string.l0.eq_2 _ _ _ _).symm.trans h
    refine AW.seq ?_
    refine AW.region ?_
    refine s_binI (v := (.bool (decide (x1 < (a0.length : Int))))) rfl rfl rfl ?_
    refine AWops.nil ?_
    refine AW.seq ?_
    by_cases c2 : (decide (x1 < (a0.length : Int))) = true
    · replace h := (if_pos c2).symm.trans h
      refine AW.cond_yes rfl c2 ?_
      refine AW.skip ?_
      refine AW.seq ?_
      refine AW.block ?_
      refine AW.seq ?_
      refine AW.region ?_
      refine s_move (d := (sc (.int .i64 x1))) rfl ?_
      refine s_assign (d := (sc (.int .i64 x1))) rfl ?_
      refine AWops.nil ?_
      refine AW.seq ?_
      refine AW.region ?_
      refine s_move (d := (sc (.string a1))) rfl ?_
      refine s_move (d := (D.one (C.p false (.sl a0.length (a0.flatMap e_str))))) rfl ?_
      refine s_move (d := (sc (.int .i64 x1))) rfl ?_
      obtain ⟨v3, ev3, h⟩ := Option.bind_eq_some_iff.mp h
      obtain ⟨pv3, qv3, gv3⟩ := rd_some ev3
      refine s_indexImm (ps := [P.v (.string v3)]) F.u_31 F.sz_9 rfl rfl pv3 qv3 (flat_at e_str_len gv3 (e_str_eq v3)) ?_
      refine s_load1 (c' := (C.p true (.v (.string v3)))) F.ag_9 rfl rfl ?_
      refine s_binS (v := (.bool (a1.toList == v3.toList))) rfl rfl rfl ?_
      refine AWops.nil ?_
      by_cases c4 : (a1.toList == v3.toList) = true
      · replace h := (if_pos c4).symm.trans h
        refine AW.cond_yes rfl c4 ?_
        refine AW.seq ?_
        refine AW.region ?_
        refine s_move (d := (sc (.int .i64 x1))) rfl ?_
        refine s_assign (d := (sc (.int .i64 x1))) rfl ?_
        refine AWops.nil ?_
        refine AW.ret ?_
        obtain rfl := Option.some.inj h
        exact ⟨_, rfl, (Weak.gen (kk := 0) [] [] rfl rfl (by decide) (by decide) rfl rfl rfl (le_upd (le_top _) (.t (.one .sc))) All2.nil)⟩
      · replace h := (if_neg c4).symm.trans h
        replace c4 := Bool.eq_false_iff.mpr c4
        refine AW.cond_no rfl c4 ?_
        refine AW.skip ?_
        refine AW.region ?_
        refine s_binI (v := (.int .i64 (IntKind.i64.wrap (x1 + 1)))) rfl rfl rfl ?_
        refine s_move (d := (sc (.int .i64 (IntKind.i64.wrap (x1 + 1))))) rfl ?_
        refine AWops.nil ?_
        exact ⟨_, ⟨19, (upd 19 (upd 19 (upd 19 (upd 19 topF 0 (D.one (C.p false (.sl a0.length (a0.flatMap e_str))))) 1 (sc (.string a1))) 7 (sc (.int .i64 (a0.length : Int)))) 8 (sc (.int .i64 (IntKind.i64.wrap (x1 + 1))))), []⟩, by omega, (Weak.gen (kk := 0) [] [] hx rfl (by decide) (by decide) rfl rfl rfl (le_upd (le_upd (le_upd (le_upd (le_top _) (.t (.one .same))) (.t (.one .sc))) (.t (.one .sc))) (.t (.one .sc))) All2.nil), by omega, IntKind.i64.wrap (x1 + 1), h, rfl⟩
    · replace h := (if_neg c2).symm.trans h
      replace c2 := Bool.eq_false_iff.mpr c2
      refine AW.cond_no rfl c2 ?_
      refine AW.exit ?_
      refine AW.seq ?_
      refine AW.region ?_
      refine s_assign (d := (sc (.int .i64 (-1)))) rfl ?_
      refine AWops.nil ?_
      refine AW.ret ?_
      obtain rfl := Option.some.inj h
      exact ⟨_, rfl, (Weak.gen (kk := 0) [] [] rfl rfl (by decide) (by decide) rfl rfl rfl (le_upd (le_top _) (.t (.one .sc))) All2.nil)⟩
def slices_Contains_string_string.f (k : Nat) (a0 : List ByteArray) (a1 : ByteArray) : Option Bool := (slices_Index_string_string.f k a0 a1).bind fun r1 => some (decide (r1 ≥ 0))
theorem slices_Contains_string_string.meets (k : Nat) (a0 : List ByteArray) (a1 : ByteArray) (r : Bool) (h : slices_Contains_string_string.f k a0 a1 = some r) : Meets Try.prog 25 [(D.one (C.p false (.sl a0.length (a0.flatMap e_str)))), (sc (.string a1))] [] (sc (.bool r)) [] := by
  unfold slices_Contains_string_string.f at h
  refine Meets.of_body (n := 9) Try.func25 rfl rfl (Nat.le_of_ble_eq_true rfl) fun x hx => ?_
  replace hx : x.k = 0 := hx
  show AW _ x _ _ ⟨9, fr0 [(D.one (C.p false (.sl a0.length (a0.flatMap e_str)))), (sc (.string a1))], []⟩
  refine AW.seq ?_
  refine AW.region ?_
  refine s_assign (d := (sc (.bool false))) rfl ?_
  refine AWops.nil ?_
  refine AW.seq ?_
  refine AW.region ?_
  refine s_move (d := (D.one (C.p false (.sl a0.length (a0.flatMap e_str))))) rfl ?_
  refine s_move (d := (sc (.string a1))) rfl ?_
  obtain ⟨r1, er1, h⟩ := Option.bind_eq_some_iff.mp h
  refine s_call2 (ρ := []) (br := false) (H2 := []) (d := (sc (.int .i64 r1))) F.ca_44 rfl rfl (All2.cons (.one .imm) (All2.cons (.one .sc) All2.nil)) All2.nil (by decide) rfl (slices_Index_string_string.meets _ a0 a1 r1 er1) (.inl rfl) rfl rfl ?_
  refine s_binI (v := (.bool (decide (r1 ≥ 0)))) rfl rfl rfl ?_
  refine s_assign (d := (sc (.bool (decide (r1 ≥ 0))))) rfl ?_
  refine AWops.nil ?_
  refine AW.ret ?_
  obtain rfl := Option.some.inj h
  exact ⟨_, rfl, (Weak.gen (kk := 0) [] [] rfl rfl (by decide) (by decide) rfl rfl rfl (le_upd (le_top _) (.t (.one .sc))) All2.nil)⟩
def roles_may.f (k : Nat) (a0 : api_Item) (a1 : ByteArray) : Option Bool := if ((a0.Roles.length : Int) == 0) = true then (some true) else ((slices_Contains_string_string.f k a0.Roles a1).bind fun r2 => some r2)
theorem roles_may.meets (k : Nat) (a0 : api_Item) (a1 : ByteArray) (r : Bool) (h : roles_may.f k a0 a1 = some r) : Meets Try.prog 43 [(D.agg (c_api_Item a0)), (sc (.string a1))] [] (sc (.bool r)) [] := by
  unfold roles_may.f at h
  refine Meets.of_body (n := 15) Try.func43 rfl rfl (Nat.le_of_ble_eq_true rfl) fun x hx => ?_
  replace hx : x.k = 0 := hx
  show AW _ x _ _ ⟨15, fr0 [(D.agg (c_api_Item a0)), (sc (.string a1))], []⟩
  refine AW.seq ?_
  refine AW.region ?_
  refine s_box (cs := (c_api_Item a0)) rfl (List.cons_ne_nil _ _) rfl ?_
  refine s_assign (d := (sc (.bool false))) rfl ?_
  refine AWops.nil ?_
  refine AW.seq ?_
  refine AW.region ?_
  refine s_fieldRef F.fo_36_11 (by decide) rfl ?_
  refine s_load1 (c' := (C.p false (.sl a0.Roles.length (a0.Roles.flatMap e_str)))) F.ag_31 rfl rfl ?_
  refine s_len (n := a0.Roles.length) F.u_31 rfl (.inr ⟨(fun _ _ h => by cases h), ⟨_, rfl⟩⟩) ?_
  refine s_binI (v := (.bool ((a0.Roles.length : Int) == 0))) rfl rfl rfl ?_
  refine s_move (d := (sc (.bool ((a0.Roles.length : Int) == 0)))) rfl ?_
  by_cases c1 : ((a0.Roles.length : Int) == 0) = true
  · replace h := (if_pos c1).symm.trans h
    refine AWops.guard_no rfl (Nat.le_of_ble_eq_true rfl) rfl c1 ?_
    refine AWops.guard_no rfl (Nat.le_of_ble_eq_true rfl) rfl c1 ?_
    refine AWops.guard_no rfl (Nat.le_of_ble_eq_true rfl) rfl c1 ?_
    refine AWops.guard_no rfl (Nat.le_of_ble_eq_true rfl) rfl c1 ?_
    refine s_pick_yes (d := (sc (.bool true))) rfl c1 rfl ?_
    refine s_assign (d := (sc (.bool true))) rfl ?_
    refine AWops.nil ?_
    refine AW.ret ?_
    obtain rfl := Option.some.inj h
    exact ⟨_, rfl, (Weak.gen (kk := 0) [] [] rfl rfl (by decide) (by decide) rfl rfl rfl (le_upd (le_top _) (.t (.one .sc))) All2.nil)⟩
  · replace h := (if_neg c1).symm.trans h
    replace c1 := Bool.eq_false_iff.mpr c1
    refine AWops.guard_yes rfl (Nat.le_of_ble_eq_true rfl) rfl c1 ?_
    refine s_fieldRef F.fo_36_11 (by decide) rfl ?_
    refine AWops.guard_yes rfl (Nat.le_of_ble_eq_true rfl) rfl c1 ?_
    refine s_load1 (c' := (C.p false (.sl a0.Roles.length (a0.Roles.flatMap e_str)))) F.ag_31 rfl rfl ?_
    refine AWops.guard_yes rfl (Nat.le_of_ble_eq_true rfl) rfl c1 ?_
    refine s_move (d := (sc (.string a1))) rfl ?_
    refine AWops.guard_yes rfl (Nat.le_of_ble_eq_true rfl) rfl c1 ?_
    obtain ⟨r2, er2, h⟩ := Option.bind_eq_some_iff.mp h
    refine s_call2 (ρ := []) (br := false) (H2 := [(some (AObj.cells true (c_api_Item a0)))]) (d := (sc (.bool r2))) F.ca_25 rfl rfl (All2.cons (.one .imm) (All2.cons (.one .sc) All2.nil)) All2.nil (by decide) rfl (slices_Contains_string_string.meets _ a0.Roles a1 r2 er2) (.inl rfl) rfl rfl ?_
    refine s_pick_no (d := (sc (.bool r2))) rfl c1 rfl ?_
    refine s_assign (d := (sc (.bool r2))) rfl ?_
    refine AWops.nil ?_
    refine AW.ret ?_
    obtain rfl := Option.some.inj h
    exact ⟨_, rfl, (Weak.gen (kk := 0) [] [] rfl rfl (by decide) (by decide) rfl rfl rfl (le_upd (le_top _) (.t (.one .sc))) All2.nil)⟩
def roles_Known.f (k : Nat) (a0 : api_Model) (a1 : ByteArray) : Option Bool := (slices_Contains_string_string.f k a0.Roles a1).bind fun r1 => some r1
theorem roles_Known.meets (k : Nat) (a0 : api_Model) (a1 : ByteArray) (r : Bool) (h : roles_Known.f k a0 a1 = some r) : Meets Try.prog 24 [(D.agg (c_api_Model a0)), (sc (.string a1))] [] (sc (.bool r)) [] := by
  unfold roles_Known.f at h
  refine Meets.of_body (n := 9) Try.func24 rfl rfl (Nat.le_of_ble_eq_true rfl) fun x hx => ?_
  replace hx : x.k = 0 := hx
  show AW _ x _ _ ⟨9, fr0 [(D.agg (c_api_Model a0)), (sc (.string a1))], []⟩
  refine AW.seq ?_
  refine AW.region ?_
  refine s_box (cs := (c_api_Model a0)) rfl (List.cons_ne_nil _ _) rfl ?_
  refine s_assign (d := (sc (.bool false))) rfl ?_
  refine AWops.nil ?_
  refine AW.seq ?_
  refine AW.region ?_
  refine s_fieldRef F.fo_38_2 (by decide) rfl ?_
  refine s_load1 (c' := (C.p false (.sl a0.Roles.length (a0.Roles.flatMap e_str)))) F.ag_31 rfl rfl ?_
  refine s_move (d := (sc (.string a1))) rfl ?_
  obtain ⟨r1, er1, h⟩ := Option.bind_eq_some_iff.mp h
  refine s_call2 (ρ := []) (br := false) (H2 := [(some (AObj.cells true (c_api_Model a0)))]) (d := (sc (.bool r1))) F.ca_25 rfl rfl (All2.cons (.one .imm) (All2.cons (.one .sc) All2.nil)) All2.nil (by decide) rfl (slices_Contains_string_string.meets _ a0.Roles a1 r1 er1) (.inl rfl) rfl rfl ?_
  refine s_assign (d := (sc (.bool r1))) rfl ?_
  refine AWops.nil ?_
  refine AW.ret ?_
  obtain rfl := Option.some.inj h
  exact ⟨_, rfl, (Weak.gen (kk := 0) [] [] rfl rfl (by decide) (by decide) rfl rfl rfl (le_upd (le_top _) (.t (.one .sc))) All2.nil)⟩
def roles_Check.f (k : Nat) (a0 : api_Model) (a1 : ByteArray) (a2 : ByteArray) : Option Int := if (a2.toList == (⟨#[]⟩ : ByteArray).toList) = true then ((model_Find.f k a0 a1).bind fun r2 => if r2.2 = true then ((roles_may.f k r2.1 a2).bind fun r4 => if r4 = true then (some 0) else (some 41)) else (some 33)) else ((roles_Known.f k a0 a2).bind fun r6 => if r6 = true then ((model_Find.f k a0 a1).bind fun r8 => if r8.2 = true then ((roles_may.f k r8.1 a2).bind fun r10 => if r10 = true then (some 0) else (some 41)) else (some 33)) else (some 41))
theorem roles_Check.meets (k : Nat) (a0 : api_Model) (a1 : ByteArray) (a2 : ByteArray) (r : Int) (h : roles_Check.f k a0 a1 a2 = some r) : Meets Try.prog 23 [(D.agg (c_api_Model a0)), (sc (.string a1)), (sc (.string a2))] [] (sc (.int .i64 r)) [] := by
  unfold roles_Check.f at h
  refine Meets.of_body (n := 31) Try.func23 rfl rfl (Nat.le_of_ble_eq_true rfl) fun x hx => ?_
  replace hx : x.k = 0 := hx
  show AW _ x _ _ ⟨31, fr0 [(D.agg (c_api_Model a0)), (sc (.string a1)), (sc (.string a2))], []⟩
  refine AW.seq ?_
  refine AW.region ?_
  refine s_box (cs := (c_api_Model a0)) rfl (List.cons_ne_nil _ _) rfl ?_
  refine s_assign (d := (sc (.int .i64 0))) rfl ?_
  refine AWops.nil ?_
  refine AW.seq ?_
  refine AW.seq ?_
  refine AW.region ?_
  refine s_move (d := (sc (.string a2))) rfl ?_
  refine s_binS (v := (.bool (!(a2.toList == (⟨#[]⟩ : ByteArray).toList)))) rfl rfl rfl ?_
  refine s_move (d := (sc (.bool (!(a2.toList == (⟨#[]⟩ : ByteArray).toList))))) rfl ?_
  by_cases c1 : (a2.toList == (⟨#[]⟩ : ByteArray).toList) = true
  · replace h := (if_pos c1).symm.trans h
    refine AWops.guard_no rfl (Nat.le_of_ble_eq_true rfl) rfl (by rw [c1] <;> rfl) ?_
    refine AWops.guard_no rfl (Nat.le_of_ble_eq_true rfl) rfl (by rw [c1] <;> rfl) ?_
    refine AWops.guard_no rfl (Nat.le_of_ble_eq_true rfl) rfl (by rw [c1] <;> rfl) ?_
    refine AWops.guard_no rfl (Nat.le_of_ble_eq_true rfl) rfl (by rw [c1] <;> rfl) ?_
    refine s_pick_no (d := (sc (.bool false))) rfl (by rw [c1] <;> rfl) rfl ?_
    refine AWops.nil ?_
    refine AW.cond_no rfl rfl ?_
    refine AW.skip ?_
    refine AW.seq ?_
    refine AW.region ?_
    refine s_loadN (ds := (c_api_Model a0)) F.ag_38 F.sz_38 rfl rfl rfl ?_
    refine s_move (d := (sc (.string a1))) rfl ?_
    obtain ⟨r2, er2, h⟩ := Option.bind_eq_some_iff.mp h
    refine s_call2 (ρ := []) (br := false) (H2 := [(some (AObj.cells true (c_api_Model a0)))]) (d := (D.tup [(D.agg (c_api_Item r2.1)), (sc (.bool r2.2))])) F.ca_42 rfl rfl (All2.cons (LendT.aggL (All2.cons .sc (All2.cons .sc (All2.cons .imm (All2.cons .imm (All2.cons .sc (All2.cons .sc (All2.cons .sc (All2.cons .imm (All2.cons .imm (All2.cons .sc (All2.cons .sc (All2.cons .sc (All2.cons .sc (All2.cons .sc (All2.cons .sc (All2.cons .imm (All2.cons .imm (All2.cons .imm All2.nil))))))))))))))))))) (All2.cons (.one .sc) All2.nil)) All2.nil (by decide) rfl (model_Find.meets _ a0 a1 r2 er2) (.inl rfl) rfl rfl ?_
    refine s_move (d := (D.tup [(D.agg (c_api_Item r2.1)), (sc (.bool r2.2))])) rfl ?_
    refine s_extract (d := (D.agg (c_api_Item r2.1))) rfl rfl ?_
    refine s_extract (d := (sc (.bool r2.2))) rfl rfl ?_
    refine s_alloc (cs := [(C.p true (.v (.string (⟨#[]⟩ : ByteArray)))), (C.p true (.v (.string (⟨#[]⟩ : ByteArray)))), (C.p true (.v (.int .i64 0))), (C.p true (.v (.slice none 0 0))), (C.p true (.v (.slice none 0 0))), (C.p true (.v (.string (⟨#[]⟩ : ByteArray)))), (C.p true (.v (.string (⟨#[]⟩ : ByteArray)))), (C.p true (.v (.string (⟨#[]⟩ : ByteArray)))), (C.p true (.v (.bool false))), (C.p true (.v (.bool false))), (C.p true (.v (.int .i64 0))), (C.p true (.v (.slice none 0 0))), (C.p true (.v (.slice none 0 0))), (C.p true (.v (.slice none 0 0)))]) F.z_36 rfl rfl ?_
    refine s_store (cs' := (c_api_Item r2.1)) rfl rfl rfl (List.cons_ne_nil _ _) rfl F.sz_36 (Nat.le_of_ble_eq_true rfl) rfl ?_
    refine s_assign (d := (sc (.bool r2.2))) rfl ?_
    refine AWops.nil ?_
    refine AW.seq ?_
    refine AW.block ?_
    refine AW.seq ?_
    refine AW.region ?_
    refine s_move (d := (sc (.bool r2.2))) rfl ?_
    refine s_not rfl ?_
    refine s_assign (d := (sc (.bool (!r2.2)))) rfl ?_
    refine AWops.nil ?_
    by_cases c3 : r2.2 = true
    · replace h := (if_pos c3).symm.trans h
      refine AW.cond_no rfl (by rw [c3] <;> rfl) ?_
      refine AW.seq ?_
      refine AW.region ?_
      refine s_loadN (ds := (c_api_Item r2.1)) F.ag_36 F.sz_36 rfl rfl rfl ?_
      refine s_move (d := (sc (.string a2))) rfl ?_
      obtain ⟨r4, er4, h⟩ := Option.bind_eq_some_iff.mp h
      refine s_call2 (ρ := []) (br := false) (H2 := [(some (AObj.cells true (c_api_Model a0))), (some (AObj.cells true (c_api_Item r2.1)))]) (d := (sc (.bool r4))) F.ca_43 rfl rfl (All2.cons (LendT.aggL (All2.cons .sc (All2.cons .sc (All2.cons .sc (All2.cons .imm (All2.cons .imm (All2.cons .sc (All2.cons .sc (All2.cons .sc (All2.cons .sc (All2.cons .sc (All2.cons .sc (All2.cons .imm (All2.cons .imm (All2.cons .imm All2.nil))))))))))))))) (All2.cons (.one .sc) All2.nil)) All2.nil (by decide) rfl (roles_may.meets _ r2.1 a2 r4 er4) (.inl rfl) rfl rfl ?_
      refine s_not rfl ?_
      refine s_assign (d := (sc (.bool (!r4)))) rfl ?_
      refine AWops.nil ?_
      by_cases c5 : r4 = true
      · replace h := (if_pos c5).symm.trans h
        refine AW.cond_no rfl (by rw [c5] <;> rfl) ?_
        refine AW.skip ?_
        refine AW.seq ?_
        refine AW.region ?_
        refine s_assign (d := (sc (.int .i64 0))) rfl ?_
        refine AWops.nil ?_
        refine AW.ret ?_
        obtain rfl := Option.some.inj h
        exact ⟨_, rfl, (Weak.gen (kk := 0) [] [] rfl rfl (by decide) (by decide) rfl rfl rfl (le_upd (le_top _) (.t (.one .sc))) All2.nil)⟩
      · replace h := (if_neg c5).symm.trans h
        replace c5 := Bool.eq_false_iff.mpr c5
        refine AW.cond_yes rfl (by rw [c5] <;> rfl) ?_
        refine AW.seq ?_
        refine AW.region ?_
        refine s_assign (d := (sc (.int .i64 41))) rfl ?_
        refine AWops.nil ?_
        refine AW.ret ?_
        obtain rfl := Option.some.inj h
        exact ⟨_, rfl, (Weak.gen (kk := 0) [] [] rfl rfl (by decide) (by decide) rfl rfl rfl (le_upd (le_top _) (.t (.one .sc))) All2.nil)⟩
    · replace h := (if_neg c3).symm.trans h
      replace c3 := Bool.eq_false_iff.mpr c3
      refine AW.cond_yes rfl (by rw [c3] <;> rfl) ?_
      refine AW.seq ?_
      refine AW.region ?_
      refine s_assign (d := (sc (.int .i64 33))) rfl ?_
      refine AWops.nil ?_
      refine AW.ret ?_
      obtain rfl := Option.some.inj h
      exact ⟨_, rfl, (Weak.gen (kk := 0) [] [] rfl rfl (by decide) (by decide) rfl rfl rfl (le_upd (le_top _) (.t (.one .sc))) All2.nil)⟩
  · replace h := (if_neg c1).symm.trans h
    replace c1 := Bool.eq_false_iff.mpr c1
    refine AWops.guard_yes rfl (Nat.le_of_ble_eq_true rfl) rfl (by rw [c1] <;> rfl) ?_
    refine s_loadN (ds := (c_api_Model a0)) F.ag_38 F.sz_38 rfl rfl rfl ?_
    refine AWops.guard_yes rfl (Nat.le_of_ble_eq_true rfl) rfl (by rw [c1] <;> rfl) ?_
    refine s_move (d := (sc (.string a2))) rfl ?_
    refine AWops.guard_yes rfl (Nat.le_of_ble_eq_true rfl) rfl (by rw [c1] <;> rfl) ?_
    obtain ⟨r6, er6, h⟩ := Option.bind_eq_some_iff.mp h
    refine s_call2 (ρ := []) (br := false) (H2 := [(some (AObj.cells true (c_api_Model a0)))]) (d := (sc (.bool r6))) F.ca_24 rfl rfl (All2.cons (LendT.aggL (All2.cons .sc (All2.cons .sc (All2.cons .imm (All2.cons .imm (All2.cons .sc (All2.cons .sc (All2.cons .sc (All2.cons .imm (All2.cons .imm (All2.cons .sc (All2.cons .sc (All2.cons .sc (All2.cons .sc (All2.cons .sc (All2.cons .sc (All2.cons .imm (All2.cons .imm (All2.cons .imm All2.nil))))))))))))))))))) (All2.cons (.one .sc) All2.nil)) All2.nil (by decide) rfl (roles_Known.meets _ a0 a2 r6 er6) (.inl rfl) rfl rfl ?_
    refine AWops.guard_yes rfl (Nat.le_of_ble_eq_true rfl) rfl (by rw [c1] <;> rfl) ?_
    refine s_not rfl ?_
    refine s_pick_yes (d := (sc (.bool (!r6)))) rfl (by rw [c1] <;> rfl) rfl ?_
    refine AWops.nil ?_
    by_cases c7 : r6 = true
    · replace h := (if_pos c7).symm.trans h
      refine AW.cond_no rfl (by rw [c7] <;> rfl) ?_
      refine AW.skip ?_
      refine AW.seq ?_
      refine AW.region ?_
      refine s_loadN (ds := (c_api_Model a0)) F.ag_38 F.sz_38 rfl rfl rfl ?_
      refine s_move (d := (sc (.string a1))) rfl ?_
      obtain ⟨r8, er8, h⟩ := Option.bind_eq_some_iff.mp h
      refine s_call2 (ρ := []) (br := false) (H2 := [(some (AObj.cells true (c_api_Model a0)))]) (d := (D.tup [(D.agg (c_api_Item r8.1)), (sc (.bool r8.2))])) F.ca_42 rfl rfl (All2.cons (LendT.aggL (All2.cons .sc (All2.cons .sc (All2.cons .imm (All2.cons .imm (All2.cons .sc (All2.cons .sc (All2.cons .sc (All2.cons .imm (All2.cons .imm (All2.cons .sc (All2.cons .sc (All2.cons .sc (All2.cons .sc (All2.cons .sc (All2.cons .sc (All2.cons .imm (All2.cons .imm (All2.cons .imm All2.nil))))))))))))))))))) (All2.cons (.one .sc) All2.nil)) All2.nil (by decide) rfl (model_Find.meets _ a0 a1 r8 er8) (.inl rfl) rfl rfl ?_
      refine s_move (d := (D.tup [(D.agg (c_api_Item r8.1)), (sc (.bool r8.2))])) rfl ?_
      refine s_extract (d := (D.agg (c_api_Item r8.1))) rfl rfl ?_
      refine s_extract (d := (sc (.bool r8.2))) rfl rfl ?_
      refine s_alloc (cs := [(C.p true (.v (.string (⟨#[]⟩ : ByteArray)))), (C.p true (.v (.string (⟨#[]⟩ : ByteArray)))), (C.p true (.v (.int .i64 0))), (C.p true (.v (.slice none 0 0))), (C.p true (.v (.slice none 0 0))), (C.p true (.v (.string (⟨#[]⟩ : ByteArray)))), (C.p true (.v (.string (⟨#[]⟩ : ByteArray)))), (C.p true (.v (.string (⟨#[]⟩ : ByteArray)))), (C.p true (.v (.bool false))), (C.p true (.v (.bool false))), (C.p true (.v (.int .i64 0))), (C.p true (.v (.slice none 0 0))), (C.p true (.v (.slice none 0 0))), (C.p true (.v (.slice none 0 0)))]) F.z_36 rfl rfl ?_
      refine s_store (cs' := (c_api_Item r8.1)) rfl rfl rfl (List.cons_ne_nil _ _) rfl F.sz_36 (Nat.le_of_ble_eq_true rfl) rfl ?_
      refine s_assign (d := (sc (.bool r8.2))) rfl ?_
      refine AWops.nil ?_
      refine AW.seq ?_
      refine AW.block ?_
      refine AW.seq ?_
      refine AW.region ?_
      refine s_move (d := (sc (.bool r8.2))) rfl ?_
      refine s_not rfl ?_
      refine s_assign (d := (sc (.bool (!r8.2)))) rfl ?_
      refine AWops.nil ?_
      by_cases c9 : r8.2 = true
      · replace h := (if_pos c9).symm.trans h
        refine AW.cond_no rfl (by rw [c9] <;> rfl) ?_
        refine AW.seq ?_
        refine AW.region ?_
        refine s_loadN (ds := (c_api_Item r8.1)) F.ag_36 F.sz_36 rfl rfl rfl ?_
        refine s_move (d := (sc (.string a2))) rfl ?_
        obtain ⟨r10, er10, h⟩ := Option.bind_eq_some_iff.mp h
        refine s_call2 (ρ := []) (br := false) (H2 := [(some (AObj.cells true (c_api_Model a0))), (some (AObj.cells true (c_api_Item r8.1)))]) (d := (sc (.bool r10))) F.ca_43 rfl rfl (All2.cons (LendT.aggL (All2.cons .sc (All2.cons .sc (All2.cons .sc (All2.cons .imm (All2.cons .imm (All2.cons .sc (All2.cons .sc (All2.cons .sc (All2.cons .sc (All2.cons .sc (All2.cons .sc (All2.cons .imm (All2.cons .imm (All2.cons .imm All2.nil))))))))))))))) (All2.cons (.one .sc) All2.nil)) All2.nil (by decide) rfl (roles_may.meets _ r8.1 a2 r10 er10) (.inl rfl) rfl rfl ?_
        refine s_not rfl ?_
        refine s_assign (d := (sc (.bool (!r10)))) rfl ?_
        refine AWops.nil ?_
        by_cases c11 : r10 = true
        · replace h := (if_pos c11).symm.trans h
          refine AW.cond_no rfl (by rw [c11] <;> rfl) ?_
          refine AW.skip ?_
          refine AW.seq ?_
          refine AW.region ?_
          refine s_assign (d := (sc (.int .i64 0))) rfl ?_
          refine AWops.nil ?_
          refine AW.ret ?_
          obtain rfl := Option.some.inj h
          exact ⟨_, rfl, (Weak.gen (kk := 0) [] [] rfl rfl (by decide) (by decide) rfl rfl rfl (le_upd (le_top _) (.t (.one .sc))) All2.nil)⟩
        · replace h := (if_neg c11).symm.trans h
          replace c11 := Bool.eq_false_iff.mpr c11
          refine AW.cond_yes rfl (by rw [c11] <;> rfl) ?_
          refine AW.seq ?_
          refine AW.region ?_
          refine s_assign (d := (sc (.int .i64 41))) rfl ?_
          refine AWops.nil ?_
          refine AW.ret ?_
          obtain rfl := Option.some.inj h
          exact ⟨_, rfl, (Weak.gen (kk := 0) [] [] rfl rfl (by decide) (by decide) rfl rfl rfl (le_upd (le_top _) (.t (.one .sc))) All2.nil)⟩
      · replace h := (if_neg c9).symm.trans h
        replace c9 := Bool.eq_false_iff.mpr c9
        refine AW.cond_yes rfl (by rw [c9] <;> rfl) ?_
        refine AW.seq ?_
        refine AW.region ?_
        refine s_assign (d := (sc (.int .i64 33))) rfl ?_
        refine AWops.nil ?_
        refine AW.ret ?_
        obtain rfl := Option.some.inj h
        exact ⟨_, rfl, (Weak.gen (kk := 0) [] [] rfl rfl (by decide) (by decide) rfl rfl rfl (le_upd (le_top _) (.t (.one .sc))) All2.nil)⟩
    · replace h := (if_neg c7).symm.trans h
      replace c7 := Bool.eq_false_iff.mpr c7
      refine AW.cond_yes rfl (by rw [c7] <;> rfl) ?_
      refine AW.seq ?_
      refine AW.region ?_
      refine s_assign (d := (sc (.int .i64 41))) rfl ?_
      refine AWops.nil ?_
      refine AW.ret ?_
      obtain rfl := Option.some.inj h
      exact ⟨_, rfl, (Weak.gen (kk := 0) [] [] rfl rfl (by decide) (by decide) rfl rfl rfl (le_upd (le_top _) (.t (.one .sc))) All2.nil)⟩
def dossierlaw27_awake.f (k : Nat) : Option Bool := (roles_Check.f k (⟨(⟨#[]⟩ : ByteArray), (⟨#[]⟩ : ByteArray), ([(⟨#[114]⟩ : ByteArray)] : List ByteArray), ([] : List api_FileItem), (⟨(⟨#[112]⟩ : ByteArray), (⟨#[]⟩ : ByteArray), 0, ([] : List api_Sentry), ([] : List api_Sentry), (⟨#[]⟩ : ByteArray), (⟨#[]⟩ : ByteArray), (⟨#[]⟩ : ByteArray), false, false, 0, ([] : List ByteArray), ([(⟨(⟨#[97]⟩ : ByteArray), (⟨#[]⟩ : ByteArray), 1, ([] : List api_Sentry), ([] : List api_Sentry), (⟨#[]⟩ : ByteArray), (⟨#[]⟩ : ByteArray), (⟨#[]⟩ : ByteArray), false, false, 0, ([(⟨#[114]⟩ : ByteArray)] : List ByteArray), ([] : List api_Item), ([] : List api_Item)⟩ : api_Item)] : List api_Item), ([] : List api_Item)⟩ : api_Item)⟩ : api_Model) (⟨#[97]⟩ : ByteArray) (⟨#[114]⟩ : ByteArray)).bind fun r1 => if (r1 == 0) = true then ((roles_Check.f k (⟨(⟨#[]⟩ : ByteArray), (⟨#[]⟩ : ByteArray), ([(⟨#[114]⟩ : ByteArray)] : List ByteArray), ([] : List api_FileItem), (⟨(⟨#[112]⟩ : ByteArray), (⟨#[]⟩ : ByteArray), 0, ([] : List api_Sentry), ([] : List api_Sentry), (⟨#[]⟩ : ByteArray), (⟨#[]⟩ : ByteArray), (⟨#[]⟩ : ByteArray), false, false, 0, ([] : List ByteArray), ([(⟨(⟨#[97]⟩ : ByteArray), (⟨#[]⟩ : ByteArray), 1, ([] : List api_Sentry), ([] : List api_Sentry), (⟨#[]⟩ : ByteArray), (⟨#[]⟩ : ByteArray), (⟨#[]⟩ : ByteArray), false, false, 0, ([(⟨#[114]⟩ : ByteArray)] : List ByteArray), ([] : List api_Item), ([] : List api_Item)⟩ : api_Item)] : List api_Item), ([] : List api_Item)⟩ : api_Item)⟩ : api_Model) (⟨#[97]⟩ : ByteArray) (⟨#[]⟩ : ByteArray)).bind fun r3 => some (r3 == 41)) else (some false)
theorem dossierlaw27_awake.meets (k : Nat) (r : Bool) (h : dossierlaw27_awake.f k = some r) : Meets Try.prog 21 [] [] (sc (.bool r)) [] := by
  unfold dossierlaw27_awake.f at h
  refine Meets.of_body (n := 16) Try.func21 rfl rfl (Nat.le_of_ble_eq_true rfl) fun x hx => ?_
  replace hx : x.k = 0 := hx
  show AW _ x _ _ ⟨16, fr0 [], []⟩
  refine AW.seq ?_
  refine AW.region ?_
  refine s_assign (d := (sc (.bool false))) rfl ?_
  refine AWops.nil ?_
  refine AW.seq ?_
  refine AW.region ?_
  refine s_buildSlice (n := 1) (ps := [(0, (sc (.string (⟨#[114]⟩ : ByteArray))))]) (cs := rowC e_str ([(⟨#[114]⟩ : ByteArray)] : List ByteArray)) F.u_31 F.sz_9 F.z_9 rfl rfl (by decide) (by decide) rfl rfl ?_
  refine s_buildSlice (n := 1) (ps := [(0, (sc (.string (⟨#[114]⟩ : ByteArray))))]) (cs := rowC e_str ([(⟨#[114]⟩ : ByteArray)] : List ByteArray)) F.u_31 F.sz_9 F.z_9 rfl rfl (by decide) (by decide) rfl rfl ?_
  refine s_build (ps := [(0, (sc (.string (⟨#[97]⟩ : ByteArray)))), (2, (sc (.int .i64 1))), (11, (D.one (C.own 1 0 (([(⟨#[114]⟩ : ByteArray)] : List ByteArray).length) 1)))]) (cs := [(C.p true (.v (.string (⟨#[97]⟩ : ByteArray)))), (C.p true (.v (.string (⟨#[]⟩ : ByteArray)))), (C.p true (.v (.int .i64 1))), (C.p true (.v (.slice none 0 0))), (C.p true (.v (.slice none 0 0))), (C.p true (.v (.string (⟨#[]⟩ : ByteArray)))), (C.p true (.v (.string (⟨#[]⟩ : ByteArray)))), (C.p true (.v (.string (⟨#[]⟩ : ByteArray)))), (C.p true (.v (.bool false))), (C.p true (.v (.bool false))), (C.p true (.v (.int .i64 0))), (C.own 1 0 (([(⟨#[114]⟩ : ByteArray)] : List ByteArray).length) 1), (C.p true (.v (.slice none 0 0))), (C.p true (.v (.slice none 0 0)))]) F.z_36 rfl F.so_36 rfl rfl ?_
  refine AWops.weak (st' := ⟨16, (upd 16 (upd 16 (upd 16 (upd 16 topF 0 (sc (.bool false))) 2 (D.one (C.own 0 0 (([(⟨#[114]⟩ : ByteArray)] : List ByteArray).length) 1))) 3 (D.one (C.p false (.sl ([(⟨#[114]⟩ : ByteArray)] : List ByteArray).length (([(⟨#[114]⟩ : ByteArray)] : List ByteArray).flatMap e_str))))) 4 (D.agg [(C.p true (.v (.string (⟨#[97]⟩ : ByteArray)))), (C.p true (.v (.string (⟨#[]⟩ : ByteArray)))), (C.p true (.v (.int .i64 1))), (C.p true (.v (.slice none 0 0))), (C.p true (.v (.slice none 0 0))), (C.p true (.v (.string (⟨#[]⟩ : ByteArray)))), (C.p true (.v (.string (⟨#[]⟩ : ByteArray)))), (C.p true (.v (.string (⟨#[]⟩ : ByteArray)))), (C.p true (.v (.bool false))), (C.p true (.v (.bool false))), (C.p true (.v (.int .i64 0))), (C.p false (.sl ([(⟨#[114]⟩ : ByteArray)] : List ByteArray).length (([(⟨#[114]⟩ : ByteArray)] : List ByteArray).flatMap e_str))), (C.p true (.v (.slice none 0 0))), (C.p true (.v (.slice none 0 0)))])), [(some (AObj.cells true (rowC e_str ([(⟨#[114]⟩ : ByteArray)] : List ByteArray))))]⟩) (Weak.gen (kk := 0) [0] [1] hx rfl (by decide) (by decide) rfl rfl rfl (le_upd (le_upd (le_upd (le_upd (le_top _) (.t (.one .sc))) (.t (.one (.own rfl)))) (.t (.one (CLe.frz e_str_len rfl rfl rfl)))) (.t (.agg (All2.cons .sc (All2.cons .sc (All2.cons .sc (All2.cons .sc (All2.cons .sc (All2.cons .sc (All2.cons .sc (All2.cons .sc (All2.cons .sc (All2.cons .sc (All2.cons .sc (All2.cons (CLe.frz e_str_len rfl rfl rfl) (All2.cons .sc (All2.cons .sc All2.nil))))))))))))))))) (All2.cons (.cells (fun h => h) (all2_row _)) All2.nil)) ?_
  refine s_buildSlice (n := 1) (ps := [(0, (D.agg [(C.p true (.v (.string (⟨#[97]⟩ : ByteArray)))), (C.p true (.v (.string (⟨#[]⟩ : ByteArray)))), (C.p true (.v (.int .i64 1))), (C.p true (.v (.slice none 0 0))), (C.p true (.v (.slice none 0 0))), (C.p true (.v (.string (⟨#[]⟩ : ByteArray)))), (C.p true (.v (.string (⟨#[]⟩ : ByteArray)))), (C.p true (.v (.string (⟨#[]⟩ : ByteArray)))), (C.p true (.v (.bool false))), (C.p true (.v (.bool false))), (C.p true (.v (.int .i64 0))), (C.p false (.sl ([(⟨#[114]⟩ : ByteArray)] : List ByteArray).length (([(⟨#[114]⟩ : ByteArray)] : List ByteArray).flatMap e_str))), (C.p true (.v (.slice none 0 0))), (C.p true (.v (.slice none 0 0)))]))]) (cs := [(C.p true (.v (.string (⟨#[97]⟩ : ByteArray)))), (C.p true (.v (.string (⟨#[]⟩ : ByteArray)))), (C.p true (.v (.int .i64 1))), (C.p true (.v (.slice none 0 0))), (C.p true (.v (.slice none 0 0))), (C.p true (.v (.string (⟨#[]⟩ : ByteArray)))), (C.p true (.v (.string (⟨#[]⟩ : ByteArray)))), (C.p true (.v (.string (⟨#[]⟩ : ByteArray)))), (C.p true (.v (.bool false))), (C.p true (.v (.bool false))), (C.p true (.v (.int .i64 0))), (C.p false (.sl ([(⟨#[114]⟩ : ByteArray)] : List ByteArray).length (([(⟨#[114]⟩ : ByteArray)] : List ByteArray).flatMap e_str))), (C.p true (.v (.slice none 0 0))), (C.p true (.v (.slice none 0 0)))]) F.u_34 F.sz_36 F.z_36 rfl rfl (by decide) (by decide) rfl rfl ?_
  refine AWops.weak (Weak.nils (t := 1) (cs' := rowC e_api_Item ([(⟨(⟨#[97]⟩ : ByteArray), (⟨#[]⟩ : ByteArray), 1, ([] : List api_Sentry), ([] : List api_Sentry), (⟨#[]⟩ : ByteArray), (⟨#[]⟩ : ByteArray), (⟨#[]⟩ : ByteArray), false, false, 0, ([(⟨#[114]⟩ : ByteArray)] : List ByteArray), ([] : List api_Item), ([] : List api_Item)⟩ : api_Item)] : List api_Item)) rfl (by simp only [rowC, List.flatMap_cons, List.flatMap_nil, List.append_nil, List.cons_append, List.nil_append, List.map_cons, List.map_nil, e_api_Item_eq]; exact (All2.cons (.s _) (All2.cons (.s _) (All2.cons (.s _) (All2.cons .n (All2.cons .n (All2.cons (.s _) (All2.cons (.s _) (All2.cons (.s _) (All2.cons (.s _) (All2.cons (.s _) (All2.cons (.s _) (All2.cons (.s _) (All2.cons .n (All2.cons .n All2.nil))))))))))))))) rfl) ?_
  refine s_build (ps := [(0, (sc (.string (⟨#[112]⟩ : ByteArray)))), (12, (D.one (C.own 1 0 (([(⟨(⟨#[97]⟩ : ByteArray), (⟨#[]⟩ : ByteArray), 1, ([] : List api_Sentry), ([] : List api_Sentry), (⟨#[]⟩ : ByteArray), (⟨#[]⟩ : ByteArray), (⟨#[]⟩ : ByteArray), false, false, 0, ([(⟨#[114]⟩ : ByteArray)] : List ByteArray), ([] : List api_Item), ([] : List api_Item)⟩ : api_Item)] : List api_Item).length) 14)))]) (cs := [(C.p true (.v (.string (⟨#[112]⟩ : ByteArray)))), (C.p true (.v (.string (⟨#[]⟩ : ByteArray)))), (C.p true (.v (.int .i64 0))), (C.p true (.v (.slice none 0 0))), (C.p true (.v (.slice none 0 0))), (C.p true (.v (.string (⟨#[]⟩ : ByteArray)))), (C.p true (.v (.string (⟨#[]⟩ : ByteArray)))), (C.p true (.v (.string (⟨#[]⟩ : ByteArray)))), (C.p true (.v (.bool false))), (C.p true (.v (.bool false))), (C.p true (.v (.int .i64 0))), (C.p true (.v (.slice none 0 0))), (C.own 1 0 (([(⟨(⟨#[97]⟩ : ByteArray), (⟨#[]⟩ : ByteArray), 1, ([] : List api_Sentry), ([] : List api_Sentry), (⟨#[]⟩ : ByteArray), (⟨#[]⟩ : ByteArray), (⟨#[]⟩ : ByteArray), false, false, 0, ([(⟨#[114]⟩ : ByteArray)] : List ByteArray), ([] : List api_Item), ([] : List api_Item)⟩ : api_Item)] : List api_Item).length) 14), (C.p true (.v (.slice none 0 0)))]) F.z_36 rfl F.so_36 rfl rfl ?_
  refine s_build (ps := [(2, (D.one (C.own 0 0 (([(⟨#[114]⟩ : ByteArray)] : List ByteArray).length) 1))), (4, (D.agg [(C.p true (.v (.string (⟨#[112]⟩ : ByteArray)))), (C.p true (.v (.string (⟨#[]⟩ : ByteArray)))), (C.p true (.v (.int .i64 0))), (C.p true (.v (.slice none 0 0))), (C.p true (.v (.slice none 0 0))), (C.p true (.v (.string (⟨#[]⟩ : ByteArray)))), (C.p true (.v (.string (⟨#[]⟩ : ByteArray)))), (C.p true (.v (.string (⟨#[]⟩ : ByteArray)))), (C.p true (.v (.bool false))), (C.p true (.v (.bool false))), (C.p true (.v (.int .i64 0))), (C.p true (.v (.slice none 0 0))), (C.own 1 0 (([(⟨(⟨#[97]⟩ : ByteArray), (⟨#[]⟩ : ByteArray), 1, ([] : List api_Sentry), ([] : List api_Sentry), (⟨#[]⟩ : ByteArray), (⟨#[]⟩ : ByteArray), (⟨#[]⟩ : ByteArray), false, false, 0, ([(⟨#[114]⟩ : ByteArray)] : List ByteArray), ([] : List api_Item), ([] : List api_Item)⟩ : api_Item)] : List api_Item).length) 14), (C.p true (.v (.slice none 0 0)))]))]) (cs := [(C.p true (.v (.string (⟨#[]⟩ : ByteArray)))), (C.p true (.v (.string (⟨#[]⟩ : ByteArray)))), (C.own 0 0 (([(⟨#[114]⟩ : ByteArray)] : List ByteArray).length) 1), (C.p true (.v (.slice none 0 0))), (C.p true (.v (.string (⟨#[112]⟩ : ByteArray)))), (C.p true (.v (.string (⟨#[]⟩ : ByteArray)))), (C.p true (.v (.int .i64 0))), (C.p true (.v (.slice none 0 0))), (C.p true (.v (.slice none 0 0))), (C.p true (.v (.string (⟨#[]⟩ : ByteArray)))), (C.p true (.v (.string (⟨#[]⟩ : ByteArray)))), (C.p true (.v (.string (⟨#[]⟩ : ByteArray)))), (C.p true (.v (.bool false))), (C.p true (.v (.bool false))), (C.p true (.v (.int .i64 0))), (C.p true (.v (.slice none 0 0))), (C.own 1 0 (([(⟨(⟨#[97]⟩ : ByteArray), (⟨#[]⟩ : ByteArray), 1, ([] : List api_Sentry), ([] : List api_Sentry), (⟨#[]⟩ : ByteArray), (⟨#[]⟩ : ByteArray), (⟨#[]⟩ : ByteArray), false, false, 0, ([(⟨#[114]⟩ : ByteArray)] : List ByteArray), ([] : List api_Item), ([] : List api_Item)⟩ : api_Item)] : List api_Item).length) 14), (C.p true (.v (.slice none 0 0)))]) F.z_38 rfl F.so_38 rfl rfl ?_
  refine s_alloc (cs := [(C.p true (.v (.string (⟨#[]⟩ : ByteArray)))), (C.p true (.v (.string (⟨#[]⟩ : ByteArray)))), (C.p true (.v (.slice none 0 0))), (C.p true (.v (.slice none 0 0))), (C.p true (.v (.string (⟨#[]⟩ : ByteArray)))), (C.p true (.v (.string (⟨#[]⟩ : ByteArray)))), (C.p true (.v (.int .i64 0))), (C.p true (.v (.slice none 0 0))), (C.p true (.v (.slice none 0 0))), (C.p true (.v (.string (⟨#[]⟩ : ByteArray)))), (C.p true (.v (.string (⟨#[]⟩ : ByteArray)))), (C.p true (.v (.string (⟨#[]⟩ : ByteArray)))), (C.p true (.v (.bool false))), (C.p true (.v (.bool false))), (C.p true (.v (.int .i64 0))), (C.p true (.v (.slice none 0 0))), (C.p true (.v (.slice none 0 0))), (C.p true (.v (.slice none 0 0)))]) F.z_38 rfl rfl ?_
  refine s_store (cs' := [(C.p true (.v (.string (⟨#[]⟩ : ByteArray)))), (C.p true (.v (.string (⟨#[]⟩ : ByteArray)))), (C.own 0 0 (([(⟨#[114]⟩ : ByteArray)] : List ByteArray).length) 1), (C.p true (.v (.slice none 0 0))), (C.p true (.v (.string (⟨#[112]⟩ : ByteArray)))), (C.p true (.v (.string (⟨#[]⟩ : ByteArray)))), (C.p true (.v (.int .i64 0))), (C.p true (.v (.slice none 0 0))), (C.p true (.v (.slice none 0 0))), (C.p true (.v (.string (⟨#[]⟩ : ByteArray)))), (C.p true (.v (.string (⟨#[]⟩ : ByteArray)))), (C.p true (.v (.string (⟨#[]⟩ : ByteArray)))), (C.p true (.v (.bool false))), (C.p true (.v (.bool false))), (C.p true (.v (.int .i64 0))), (C.p true (.v (.slice none 0 0))), (C.own 1 0 (([(⟨(⟨#[97]⟩ : ByteArray), (⟨#[]⟩ : ByteArray), 1, ([] : List api_Sentry), ([] : List api_Sentry), (⟨#[]⟩ : ByteArray), (⟨#[]⟩ : ByteArray), (⟨#[]⟩ : ByteArray), false, false, 0, ([(⟨#[114]⟩ : ByteArray)] : List ByteArray), ([] : List api_Item), ([] : List api_Item)⟩ : api_Item)] : List api_Item).length) 14), (C.p true (.v (.slice none 0 0)))]) rfl rfl rfl (List.cons_ne_nil _ _) rfl F.sz_38 (Nat.le_of_ble_eq_true rfl) rfl ?_
  refine AWops.nil ?_
  refine AW.seq ?_
  refine AW.region ?_
  refine s_loadN (ds := [(C.p true (.v (.string (⟨#[]⟩ : ByteArray)))), (C.p true (.v (.string (⟨#[]⟩ : ByteArray)))), (C.own 0 0 (([(⟨#[114]⟩ : ByteArray)] : List ByteArray).length) 1), (C.p true (.v (.slice none 0 0))), (C.p true (.v (.string (⟨#[112]⟩ : ByteArray)))), (C.p true (.v (.string (⟨#[]⟩ : ByteArray)))), (C.p true (.v (.int .i64 0))), (C.p true (.v (.slice none 0 0))), (C.p true (.v (.slice none 0 0))), (C.p true (.v (.string (⟨#[]⟩ : ByteArray)))), (C.p true (.v (.string (⟨#[]⟩ : ByteArray)))), (C.p true (.v (.string (⟨#[]⟩ : ByteArray)))), (C.p true (.v (.bool false))), (C.p true (.v (.bool false))), (C.p true (.v (.int .i64 0))), (C.p true (.v (.slice none 0 0))), (C.own 1 0 (([(⟨(⟨#[97]⟩ : ByteArray), (⟨#[]⟩ : ByteArray), 1, ([] : List api_Sentry), ([] : List api_Sentry), (⟨#[]⟩ : ByteArray), (⟨#[]⟩ : ByteArray), (⟨#[]⟩ : ByteArray), false, false, 0, ([(⟨#[114]⟩ : ByteArray)] : List ByteArray), ([] : List api_Item), ([] : List api_Item)⟩ : api_Item)] : List api_Item).length) 14), (C.p true (.v (.slice none 0 0)))]) F.ag_38 F.sz_38 rfl rfl rfl ?_
  obtain ⟨r1, er1, h⟩ := Option.bind_eq_some_iff.mp h
  refine s_call2 (ρ := []) (br := true) (H2 := [(some (AObj.cells true (rowC e_str ([(⟨#[114]⟩ : ByteArray)] : List ByteArray)))), (some (AObj.cells true (rowC e_api_Item ([(⟨(⟨#[97]⟩ : ByteArray), (⟨#[]⟩ : ByteArray), 1, ([] : List api_Sentry), ([] : List api_Sentry), (⟨#[]⟩ : ByteArray), (⟨#[]⟩ : ByteArray), (⟨#[]⟩ : ByteArray), false, false, 0, ([(⟨#[114]⟩ : ByteArray)] : List ByteArray), ([] : List api_Item), ([] : List api_Item)⟩ : api_Item)] : List api_Item)))), (some (AObj.cells true [(C.p true (.v (.string (⟨#[]⟩ : ByteArray)))), (C.p true (.v (.string (⟨#[]⟩ : ByteArray)))), (C.own 0 0 (([(⟨#[114]⟩ : ByteArray)] : List ByteArray).length) 1), (C.p true (.v (.slice none 0 0))), (C.p true (.v (.string (⟨#[112]⟩ : ByteArray)))), (C.p true (.v (.string (⟨#[]⟩ : ByteArray)))), (C.p true (.v (.int .i64 0))), (C.p true (.v (.slice none 0 0))), (C.p true (.v (.slice none 0 0))), (C.p true (.v (.string (⟨#[]⟩ : ByteArray)))), (C.p true (.v (.string (⟨#[]⟩ : ByteArray)))), (C.p true (.v (.string (⟨#[]⟩ : ByteArray)))), (C.p true (.v (.bool false))), (C.p true (.v (.bool false))), (C.p true (.v (.int .i64 0))), (C.p true (.v (.slice none 0 0))), (C.own 1 0 (([(⟨(⟨#[97]⟩ : ByteArray), (⟨#[]⟩ : ByteArray), 1, ([] : List api_Sentry), ([] : List api_Sentry), (⟨#[]⟩ : ByteArray), (⟨#[]⟩ : ByteArray), (⟨#[]⟩ : ByteArray), false, false, 0, ([(⟨#[114]⟩ : ByteArray)] : List ByteArray), ([] : List api_Item), ([] : List api_Item)⟩ : api_Item)] : List api_Item).length) 14), (C.p true (.v (.slice none 0 0)))]))]) (d := (sc (.int .i64 r1))) F.ca_23 rfl rfl (All2.cons (LendT.aggL (All2.cons .sc (All2.cons .sc (All2.cons (LendC.bor e_str_len rfl rfl rfl) (All2.cons .nil (All2.cons .sc (All2.cons .sc (All2.cons .sc (All2.cons .nil (All2.cons .nil (All2.cons .sc (All2.cons .sc (All2.cons .sc (All2.cons .sc (All2.cons .sc (All2.cons .sc (All2.cons .nil (All2.cons (LendC.bor e_api_Item_len rfl rfl rfl) (All2.cons .nil All2.nil))))))))))))))))))) (All2.cons (.one .sc) (All2.cons (.one .sc) All2.nil))) All2.nil (by decide) rfl (roles_Check.meets _ (⟨(⟨#[]⟩ : ByteArray), (⟨#[]⟩ : ByteArray), ([(⟨#[114]⟩ : ByteArray)] : List ByteArray), ([] : List api_FileItem), (⟨(⟨#[112]⟩ : ByteArray), (⟨#[]⟩ : ByteArray), 0, ([] : List api_Sentry), ([] : List api_Sentry), (⟨#[]⟩ : ByteArray), (⟨#[]⟩ : ByteArray), (⟨#[]⟩ : ByteArray), false, false, 0, ([] : List ByteArray), ([(⟨(⟨#[97]⟩ : ByteArray), (⟨#[]⟩ : ByteArray), 1, ([] : List api_Sentry), ([] : List api_Sentry), (⟨#[]⟩ : ByteArray), (⟨#[]⟩ : ByteArray), (⟨#[]⟩ : ByteArray), false, false, 0, ([(⟨#[114]⟩ : ByteArray)] : List ByteArray), ([] : List api_Item), ([] : List api_Item)⟩ : api_Item)] : List api_Item), ([] : List api_Item)⟩ : api_Item)⟩ : api_Model) (⟨#[97]⟩ : ByteArray) (⟨#[114]⟩ : ByteArray) r1 er1) (.inr ⟨rfl, rfl⟩) rfl rfl ?_
  refine s_binI (v := (.bool (r1 == 0))) rfl rfl rfl ?_
  refine s_move (d := (sc (.bool (r1 == 0)))) rfl ?_
  by_cases c2 : (r1 == 0) = true
  · replace h := (if_pos c2).symm.trans h
    refine AWops.guard_yes rfl (Nat.le_of_ble_eq_true rfl) rfl c2 ?_
    refine s_loadN (ds := [(C.p true (.v (.string (⟨#[]⟩ : ByteArray)))), (C.p true (.v (.string (⟨#[]⟩ : ByteArray)))), (C.own 0 0 (([(⟨#[114]⟩ : ByteArray)] : List ByteArray).length) 1), (C.p true (.v (.slice none 0 0))), (C.p true (.v (.string (⟨#[112]⟩ : ByteArray)))), (C.p true (.v (.string (⟨#[]⟩ : ByteArray)))), (C.p true (.v (.int .i64 0))), (C.p true (.v (.slice none 0 0))), (C.p true (.v (.slice none 0 0))), (C.p true (.v (.string (⟨#[]⟩ : ByteArray)))), (C.p true (.v (.string (⟨#[]⟩ : ByteArray)))), (C.p true (.v (.string (⟨#[]⟩ : ByteArray)))), (C.p true (.v (.bool false))), (C.p true (.v (.bool false))), (C.p true (.v (.int .i64 0))), (C.p true (.v (.slice none 0 0))), (C.own 1 0 (([(⟨(⟨#[97]⟩ : ByteArray), (⟨#[]⟩ : ByteArray), 1, ([] : List api_Sentry), ([] : List api_Sentry), (⟨#[]⟩ : ByteArray), (⟨#[]⟩ : ByteArray), (⟨#[]⟩ : ByteArray), false, false, 0, ([(⟨#[114]⟩ : ByteArray)] : List ByteArray), ([] : List api_Item), ([] : List api_Item)⟩ : api_Item)] : List api_Item).length) 14), (C.p true (.v (.slice none 0 0)))]) F.ag_38 F.sz_38 rfl rfl rfl ?_
    refine AWops.guard_yes rfl (Nat.le_of_ble_eq_true rfl) rfl c2 ?_
    obtain ⟨r3, er3, h⟩ := Option.bind_eq_some_iff.mp h
    refine s_call2 (ρ := []) (br := true) (H2 := [(some (AObj.cells true (rowC e_str ([(⟨#[114]⟩ : ByteArray)] : List ByteArray)))), (some (AObj.cells true (rowC e_api_Item ([(⟨(⟨#[97]⟩ : ByteArray), (⟨#[]⟩ : ByteArray), 1, ([] : List api_Sentry), ([] : List api_Sentry), (⟨#[]⟩ : ByteArray), (⟨#[]⟩ : ByteArray), (⟨#[]⟩ : ByteArray), false, false, 0, ([(⟨#[114]⟩ : ByteArray)] : List ByteArray), ([] : List api_Item), ([] : List api_Item)⟩ : api_Item)] : List api_Item)))), (some (AObj.cells true [(C.p true (.v (.string (⟨#[]⟩ : ByteArray)))), (C.p true (.v (.string (⟨#[]⟩ : ByteArray)))), (C.own 0 0 (([(⟨#[114]⟩ : ByteArray)] : List ByteArray).length) 1), (C.p true (.v (.slice none 0 0))), (C.p true (.v (.string (⟨#[112]⟩ : ByteArray)))), (C.p true (.v (.string (⟨#[]⟩ : ByteArray)))), (C.p true (.v (.int .i64 0))), (C.p true (.v (.slice none 0 0))), (C.p true (.v (.slice none 0 0))), (C.p true (.v (.string (⟨#[]⟩ : ByteArray)))), (C.p true (.v (.string (⟨#[]⟩ : ByteArray)))), (C.p true (.v (.string (⟨#[]⟩ : ByteArray)))), (C.p true (.v (.bool false))), (C.p true (.v (.bool false))), (C.p true (.v (.int .i64 0))), (C.p true (.v (.slice none 0 0))), (C.own 1 0 (([(⟨(⟨#[97]⟩ : ByteArray), (⟨#[]⟩ : ByteArray), 1, ([] : List api_Sentry), ([] : List api_Sentry), (⟨#[]⟩ : ByteArray), (⟨#[]⟩ : ByteArray), (⟨#[]⟩ : ByteArray), false, false, 0, ([(⟨#[114]⟩ : ByteArray)] : List ByteArray), ([] : List api_Item), ([] : List api_Item)⟩ : api_Item)] : List api_Item).length) 14), (C.p true (.v (.slice none 0 0)))]))]) (d := (sc (.int .i64 r3))) F.ca_23 rfl rfl (All2.cons (LendT.aggL (All2.cons .sc (All2.cons .sc (All2.cons (LendC.bor e_str_len rfl rfl rfl) (All2.cons .nil (All2.cons .sc (All2.cons .sc (All2.cons .sc (All2.cons .nil (All2.cons .nil (All2.cons .sc (All2.cons .sc (All2.cons .sc (All2.cons .sc (All2.cons .sc (All2.cons .sc (All2.cons .nil (All2.cons (LendC.bor e_api_Item_len rfl rfl rfl) (All2.cons .nil All2.nil))))))))))))))))))) (All2.cons (.one .sc) (All2.cons (.one .sc) All2.nil))) All2.nil (by decide) rfl (roles_Check.meets _ (⟨(⟨#[]⟩ : ByteArray), (⟨#[]⟩ : ByteArray), ([(⟨#[114]⟩ : ByteArray)] : List ByteArray), ([] : List api_FileItem), (⟨(⟨#[112]⟩ : ByteArray), (⟨#[]⟩ : ByteArray), 0, ([] : List api_Sentry), ([] : List api_Sentry), (⟨#[]⟩ : ByteArray), (⟨#[]⟩ : ByteArray), (⟨#[]⟩ : ByteArray), false, false, 0, ([] : List ByteArray), ([(⟨(⟨#[97]⟩ : ByteArray), (⟨#[]⟩ : ByteArray), 1, ([] : List api_Sentry), ([] : List api_Sentry), (⟨#[]⟩ : ByteArray), (⟨#[]⟩ : ByteArray), (⟨#[]⟩ : ByteArray), false, false, 0, ([(⟨#[114]⟩ : ByteArray)] : List ByteArray), ([] : List api_Item), ([] : List api_Item)⟩ : api_Item)] : List api_Item), ([] : List api_Item)⟩ : api_Item)⟩ : api_Model) (⟨#[97]⟩ : ByteArray) (⟨#[]⟩ : ByteArray) r3 er3) (.inr ⟨rfl, rfl⟩) rfl rfl ?_
    refine AWops.guard_yes rfl (Nat.le_of_ble_eq_true rfl) rfl c2 ?_
    refine s_binI (v := (.bool (r3 == 41))) rfl rfl rfl ?_
    refine s_pick_yes (d := (sc (.bool (r3 == 41)))) rfl c2 rfl ?_
    refine s_assign (d := (sc (.bool (r3 == 41)))) rfl ?_
    refine AWops.nil ?_
    refine AW.ret ?_
    obtain rfl := Option.some.inj h
    exact ⟨_, rfl, (Weak.gen (kk := 0) [] [] rfl rfl (by decide) (by decide) rfl rfl rfl (le_upd (le_top _) (.t (.one .sc))) All2.nil)⟩
  · replace h := (if_neg c2).symm.trans h
    replace c2 := Bool.eq_false_iff.mpr c2
    refine AWops.guard_no rfl (Nat.le_of_ble_eq_true rfl) rfl c2 ?_
    refine AWops.guard_no rfl (Nat.le_of_ble_eq_true rfl) rfl c2 ?_
    refine AWops.guard_no rfl (Nat.le_of_ble_eq_true rfl) rfl c2 ?_
    refine s_pick_no (d := (sc (.bool false))) rfl c2 rfl ?_
    refine s_assign (d := (sc (.bool false))) rfl ?_
    refine AWops.nil ?_
    refine AW.ret ?_
    obtain rfl := Option.some.inj h
    exact ⟨_, rfl, (Weak.gen (kk := 0) [] [] rfl rfl (by decide) (by decide) rfl rfl rfl (le_upd (le_top _) (.t (.one .sc))) All2.nil)⟩
def dossierlaw27_RolesNone.f (k : Nat) (a0 : api_Model) (a1 : ByteArray) (a2 : ByteArray) : Option Bool := (dossierplain_Model.f k a0).bind fun r1 => if r1 = true then ((dossierref13_Find.f k a0 a1).bind fun r3 => (roles_Check.f k a0 a1 (⟨#[]⟩ : ByteArray)).bind fun r4 => if (r4 == 0) = true then ((roles_Known.f k a0 a2).bind fun r6 => if r6 = true then ((roles_Check.f k a0 a1 a2).bind fun r8 => if (r8 != 0) = true then ((slices_Contains_string_string.f k r3.1.Roles (⟨#[]⟩ : ByteArray)).bind fun r10 => if r10 = true then ((dossierlaw27_awake.f k).bind fun r12 => some r12) else (some false)) else (if r3.2 = true then (if ((r3.1.Roles.length : Int) == 0) = true then ((dossierlaw27_awake.f k).bind fun r15 => some r15) else ((slices_Contains_string_string.f k r3.1.Roles (⟨#[]⟩ : ByteArray)).bind fun r16 => if r16 = true then ((dossierlaw27_awake.f k).bind fun r18 => some r18) else (if (r4 == 41) = true then ((dossierlaw27_awake.f k).bind fun r20 => some r20) else (some false)))) else ((dossierlaw27_awake.f k).bind fun r21 => some r21))) else (if r3.2 = true then (if ((r3.1.Roles.length : Int) == 0) = true then ((dossierlaw27_awake.f k).bind fun r24 => some r24) else ((slices_Contains_string_string.f k r3.1.Roles (⟨#[]⟩ : ByteArray)).bind fun r25 => if r25 = true then ((dossierlaw27_awake.f k).bind fun r27 => some r27) else (if (r4 == 41) = true then ((dossierlaw27_awake.f k).bind fun r29 => some r29) else (some false)))) else ((dossierlaw27_awake.f k).bind fun r30 => some r30))) else (if r3.2 = true then (if ((r3.1.Roles.length : Int) == 0) = true then ((dossierlaw27_awake.f k).bind fun r33 => some r33) else ((slices_Contains_string_string.f k r3.1.Roles (⟨#[]⟩ : ByteArray)).bind fun r34 => if r34 = true then ((dossierlaw27_awake.f k).bind fun r36 => some r36) else (if (r4 == 41) = true then ((dossierlaw27_awake.f k).bind fun r38 => some r38) else (some false)))) else ((dossierlaw27_awake.f k).bind fun r39 => some r39))) else ((dossierlaw27_awake.f k).bind fun r40 => some r40)
theorem dossierlaw27_RolesNone.meets (k : Nat) (a0 : api_Model) (a1 : ByteArray) (a2 : ByteArray) (r : Bool) (h : dossierlaw27_RolesNone.f k a0 a1 a2 = some r) : Meets Try.prog 4 [(D.agg (c_api_Model a0)), (sc (.string a1)), (sc (.string a2))] [] (sc (.bool r)) [] := by
  unfold dossierlaw27_RolesNone.f at h
  refine Meets.of_body (n := 63) Try.func4 rfl rfl (Nat.le_of_ble_eq_true rfl) fun x hx => ?_
  replace hx : x.k = 0 := hx
  show AW _ x _ _ ⟨63, fr0 [(D.agg (c_api_Model a0)), (sc (.string a1)), (sc (.string a2))], []⟩
  refine AW.seq ?_
  refine AW.region ?_
  refine s_box (cs := (c_api_Model a0)) rfl (List.cons_ne_nil _ _) rfl ?_
  refine s_assign (d := (sc (.bool false))) rfl ?_
  refine AWops.nil ?_
  refine AW.seq ?_
  refine AW.seq ?_
  refine AW.region ?_
  refine s_loadN (ds := (c_api_Model a0)) F.ag_38 F.sz_38 rfl rfl rfl ?_
  obtain ⟨r1, er1, h⟩ := Option.bind_eq_some_iff.mp h
  refine s_call2 (ρ := []) (br := false) (H2 := [(some (AObj.cells true (c_api_Model a0)))]) (d := (sc (.bool r1))) F.ca_20 rfl rfl (All2.cons (LendT.aggL (All2.cons .sc (All2.cons .sc (All2.cons .imm (All2.cons .imm (All2.cons .sc (All2.cons .sc (All2.cons .sc (All2.cons .imm (All2.cons .imm (All2.cons .sc (All2.cons .sc (All2.cons .sc (All2.cons .sc (All2.cons .sc (All2.cons .sc (All2.cons .imm (All2.cons .imm (All2.cons .imm All2.nil))))))))))))))))))) All2.nil) All2.nil (by decide) rfl (dossierplain_Model.meets _ a0 r1 er1) (.inl rfl) rfl rfl ?_
  refine s_not rfl ?_
  refine AWops.nil ?_
  by_cases c2 : r1 = true
  · replace h := (if_pos c2).symm.trans h
    refine AW.cond_no rfl (by rw [c2] <;> rfl) ?_
    refine AW.skip ?_
    refine AW.seq ?_
    refine AW.region ?_
    refine s_loadN (ds := (c_api_Model a0)) F.ag_38 F.sz_38 rfl rfl rfl ?_
    refine s_move (d := (sc (.string a1))) rfl ?_
    obtain ⟨r3, er3, h⟩ := Option.bind_eq_some_iff.mp h
    refine s_call2 (ρ := []) (br := false) (H2 := [(some (AObj.cells true (c_api_Model a0)))]) (d := (D.tup [(D.agg (c_api_Item r3.1)), (sc (.bool r3.2))])) F.ca_22 rfl rfl (All2.cons (LendT.aggL (All2.cons .sc (All2.cons .sc (All2.cons .imm (All2.cons .imm (All2.cons .sc (All2.cons .sc (All2.cons .sc (All2.cons .imm (All2.cons .imm (All2.cons .sc (All2.cons .sc (All2.cons .sc (All2.cons .sc (All2.cons .sc (All2.cons .sc (All2.cons .imm (All2.cons .imm (All2.cons .imm All2.nil))))))))))))))))))) (All2.cons (.one .sc) All2.nil)) All2.nil (by decide) rfl (dossierref13_Find.meets _ a0 a1 r3 er3) (.inl rfl) rfl rfl ?_
    refine s_move (d := (D.tup [(D.agg (c_api_Item r3.1)), (sc (.bool r3.2))])) rfl ?_
    refine s_extract (d := (D.agg (c_api_Item r3.1))) rfl rfl ?_
    refine s_extract (d := (sc (.bool r3.2))) rfl rfl ?_
    refine s_alloc (cs := [(C.p true (.v (.string (⟨#[]⟩ : ByteArray)))), (C.p true (.v (.string (⟨#[]⟩ : ByteArray)))), (C.p true (.v (.int .i64 0))), (C.p true (.v (.slice none 0 0))), (C.p true (.v (.slice none 0 0))), (C.p true (.v (.string (⟨#[]⟩ : ByteArray)))), (C.p true (.v (.string (⟨#[]⟩ : ByteArray)))), (C.p true (.v (.string (⟨#[]⟩ : ByteArray)))), (C.p true (.v (.bool false))), (C.p true (.v (.bool false))), (C.p true (.v (.int .i64 0))), (C.p true (.v (.slice none 0 0))), (C.p true (.v (.slice none 0 0))), (C.p true (.v (.slice none 0 0)))]) F.z_36 rfl rfl ?_
    refine s_store (cs' := (c_api_Item r3.1)) rfl rfl rfl (List.cons_ne_nil _ _) rfl F.sz_36 (Nat.le_of_ble_eq_true rfl) rfl ?_
    refine s_assign (d := (sc (.bool r3.2))) rfl ?_
    refine AWops.nil ?_
    refine AW.seq ?_
    refine AW.region ?_
    refine s_loadN (ds := (c_api_Model a0)) F.ag_38 F.sz_38 rfl rfl rfl ?_
    refine s_move (d := (sc (.string a1))) rfl ?_
    obtain ⟨r4, er4, h⟩ := Option.bind_eq_some_iff.mp h
    refine s_call2 (ρ := []) (br := false) (H2 := [(some (AObj.cells true (c_api_Model a0))), (some (AObj.cells true (c_api_Item r3.1)))]) (d := (sc (.int .i64 r4))) F.ca_23 rfl rfl (All2.cons (LendT.aggL (All2.cons .sc (All2.cons .sc (All2.cons .imm (All2.cons .imm (All2.cons .sc (All2.cons .sc (All2.cons .sc (All2.cons .imm (All2.cons .imm (All2.cons .sc (All2.cons .sc (All2.cons .sc (All2.cons .sc (All2.cons .sc (All2.cons .sc (All2.cons .imm (All2.cons .imm (All2.cons .imm All2.nil))))))))))))))))))) (All2.cons (.one .sc) (All2.cons (.one .sc) All2.nil))) All2.nil (by decide) rfl (roles_Check.meets _ a0 a1 (⟨#[]⟩ : ByteArray) r4 er4) (.inl rfl) rfl rfl ?_
    refine s_assign (d := (sc (.int .i64 r4))) rfl ?_
    refine AWops.nil ?_
    refine AW.seq ?_
    refine AW.seq ?_
    refine AW.region ?_
    refine s_move (d := (sc (.int .i64 r4))) rfl ?_
    refine s_binI (v := (.bool (r4 == 0))) rfl rfl rfl ?_
    refine s_move (d := (sc (.bool (r4 == 0)))) rfl ?_
    by_cases c5 : (r4 == 0) = true
    · replace h := (if_pos c5).symm.trans h
      refine AWops.guard_yes rfl (Nat.le_of_ble_eq_true rfl) rfl c5 ?_
      refine s_loadN (ds := (c_api_Model a0)) F.ag_38 F.sz_38 rfl rfl rfl ?_
      refine AWops.guard_yes rfl (Nat.le_of_ble_eq_true rfl) rfl c5 ?_
      refine s_move (d := (sc (.string a2))) rfl ?_
      refine AWops.guard_yes rfl (Nat.le_of_ble_eq_true rfl) rfl c5 ?_
      obtain ⟨r6, er6, h⟩ := Option.bind_eq_some_iff.mp h
      refine s_call2 (ρ := []) (br := false) (H2 := [(some (AObj.cells true (c_api_Model a0))), (some (AObj.cells true (c_api_Item r3.1)))]) (d := (sc (.bool r6))) F.ca_24 rfl rfl (All2.cons (LendT.aggL (All2.cons .sc (All2.cons .sc (All2.cons .imm (All2.cons .imm (All2.cons .sc (All2.cons .sc (All2.cons .sc (All2.cons .imm (All2.cons .imm (All2.cons .sc (All2.cons .sc (All2.cons .sc (All2.cons .sc (All2.cons .sc (All2.cons .sc (All2.cons .imm (All2.cons .imm (All2.cons .imm All2.nil))))))))))))))))))) (All2.cons (.one .sc) All2.nil)) All2.nil (by decide) rfl (roles_Known.meets _ a0 a2 r6 er6) (.inl rfl) rfl rfl ?_
      refine s_pick_yes (d := (sc (.bool r6))) rfl c5 rfl ?_
      refine s_move (d := (sc (.bool r6))) rfl ?_
      by_cases c7 : r6 = true
      · replace h := (if_pos c7).symm.trans h
        refine AWops.guard_yes rfl (Nat.le_of_ble_eq_true rfl) rfl c7 ?_
        refine s_loadN (ds := (c_api_Model a0)) F.ag_38 F.sz_38 rfl rfl rfl ?_
        refine AWops.guard_yes rfl (Nat.le_of_ble_eq_true rfl) rfl c7 ?_
        refine s_move (d := (sc (.string a1))) rfl ?_
        refine AWops.guard_yes rfl (Nat.le_of_ble_eq_true rfl) rfl c7 ?_
        refine s_move (d := (sc (.string a2))) rfl ?_
        refine AWops.guard_yes rfl (Nat.le_of_ble_eq_true rfl) rfl c7 ?_
        obtain ⟨r8, er8, h⟩ := Option.bind_eq_some_iff.mp h
        refine s_call2 (ρ := []) (br := false) (H2 := [(some (AObj.cells true (c_api_Model a0))), (some (AObj.cells true (c_api_Item r3.1)))]) (d := (sc (.int .i64 r8))) F.ca_23 rfl rfl (All2.cons (LendT.aggL (All2.cons .sc (All2.cons .sc (All2.cons .imm (All2.cons .imm (All2.cons .sc (All2.cons .sc (All2.cons .sc (All2.cons .imm (All2.cons .imm (All2.cons .sc (All2.cons .sc (All2.cons .sc (All2.cons .sc (All2.cons .sc (All2.cons .sc (All2.cons .imm (All2.cons .imm (All2.cons .imm All2.nil))))))))))))))))))) (All2.cons (.one .sc) (All2.cons (.one .sc) All2.nil))) All2.nil (by decide) rfl (roles_Check.meets _ a0 a1 a2 r8 er8) (.inl rfl) rfl rfl ?_
        refine AWops.guard_yes rfl (Nat.le_of_ble_eq_true rfl) rfl c7 ?_
        refine s_binI (v := (.bool (r8 != 0))) rfl rfl rfl ?_
        refine s_pick_yes (d := (sc (.bool (r8 != 0)))) rfl c7 rfl ?_
        refine AWops.nil ?_
        by_cases c9 : (r8 != 0) = true
        · replace h := (if_pos c9).symm.trans h
          refine AW.cond_yes rfl c9 ?_
          refine AW.seq ?_
          refine AW.region ?_
          refine s_fieldRef F.fo_36_11 (by decide) rfl ?_
          refine s_load1 (c' := (C.p false (.sl r3.1.Roles.length (r3.1.Roles.flatMap e_str)))) F.ag_31 rfl rfl ?_
          obtain ⟨r10, er10, h⟩ := Option.bind_eq_some_iff.mp h
          refine s_call2 (ρ := []) (br := false) (H2 := [(some (AObj.cells true (c_api_Model a0))), (some (AObj.cells true (c_api_Item r3.1)))]) (d := (sc (.bool r10))) F.ca_25 rfl rfl (All2.cons (.one .imm) (All2.cons (.one .sc) All2.nil)) All2.nil (by decide) rfl (slices_Contains_string_string.meets _ r3.1.Roles (⟨#[]⟩ : ByteArray) r10 er10) (.inl rfl) rfl rfl ?_
          refine s_move (d := (sc (.bool r10))) rfl ?_
          by_cases c11 : r10 = true
          · replace h := (if_pos c11).symm.trans h
            refine AWops.guard_yes rfl (Nat.le_of_ble_eq_true rfl) rfl c11 ?_
            obtain ⟨r12, er12, h⟩ := Option.bind_eq_some_iff.mp h
            refine s_call2 (ρ := []) (br := false) (H2 := [(some (AObj.cells true (c_api_Model a0))), (some (AObj.cells true (c_api_Item r3.1)))]) (d := (sc (.bool r12))) F.ca_21 rfl rfl All2.nil All2.nil (by decide) rfl (dossierlaw27_awake.meets _  r12 er12) (.inl rfl) rfl rfl ?_
            refine s_pick_yes (d := (sc (.bool r12))) rfl c11 rfl ?_
            refine s_assign (d := (sc (.bool r12))) rfl ?_
            refine AWops.nil ?_
            refine AW.ret ?_
            obtain rfl := Option.some.inj h
            exact ⟨_, rfl, (Weak.gen (kk := 0) [] [] rfl rfl (by decide) (by decide) rfl rfl rfl (le_upd (le_top _) (.t (.one .sc))) All2.nil)⟩
          · replace h := (if_neg c11).symm.trans h
            replace c11 := Bool.eq_false_iff.mpr c11
            refine AWops.guard_no rfl (Nat.le_of_ble_eq_true rfl) rfl c11 ?_
            refine s_pick_no (d := (sc (.bool false))) rfl c11 rfl ?_
            refine s_assign (d := (sc (.bool false))) rfl ?_
            refine AWops.nil ?_
            refine AW.ret ?_
            obtain rfl := Option.some.inj h
            exact ⟨_, rfl, (Weak.gen (kk := 0) [] [] rfl rfl (by decide) (by decide) rfl rfl rfl (le_upd (le_top _) (.t (.one .sc))) All2.nil)⟩
        · replace h := (if_neg c9).symm.trans h
          replace c9 := Bool.eq_false_iff.mpr c9
          refine AW.cond_no rfl c9 ?_
          refine AW.skip ?_
          refine AW.seq ?_
          refine AW.region ?_
          refine s_move (d := (sc (.bool r3.2))) rfl ?_
          refine s_not rfl ?_
          refine s_move (d := (sc (.bool (!r3.2)))) rfl ?_
          by_cases c13 : r3.2 = true
          · replace h := (if_pos c13).symm.trans h
            refine AWops.guard_yes rfl (Nat.le_of_ble_eq_true rfl) rfl (by rw [c13] <;> rfl) ?_
            refine s_fieldRef F.fo_36_11 (by decide) rfl ?_
            refine AWops.guard_yes rfl (Nat.le_of_ble_eq_true rfl) rfl (by rw [c13] <;> rfl) ?_
            refine s_load1 (c' := (C.p false (.sl r3.1.Roles.length (r3.1.Roles.flatMap e_str)))) F.ag_31 rfl rfl ?_
            refine AWops.guard_yes rfl (Nat.le_of_ble_eq_true rfl) rfl (by rw [c13] <;> rfl) ?_
            refine s_len (n := r3.1.Roles.length) F.u_31 rfl (.inr ⟨(fun _ _ h => by cases h), ⟨_, rfl⟩⟩) ?_
            refine AWops.guard_yes rfl (Nat.le_of_ble_eq_true rfl) rfl (by rw [c13] <;> rfl) ?_
            refine s_binI (v := (.bool ((r3.1.Roles.length : Int) == 0))) rfl rfl rfl ?_
            refine s_pick_no (d := (sc (.bool ((r3.1.Roles.length : Int) == 0)))) rfl (by rw [c13] <;> rfl) rfl ?_
            refine s_move (d := (sc (.bool ((r3.1.Roles.length : Int) == 0)))) rfl ?_
            by_cases c14 : ((r3.1.Roles.length : Int) == 0) = true
            · replace h := (if_pos c14).symm.trans h
              refine AWops.guard_no rfl (Nat.le_of_ble_eq_true rfl) rfl c14 ?_
              refine AWops.guard_no rfl (Nat.le_of_ble_eq_true rfl) rfl c14 ?_
              refine AWops.guard_no rfl (Nat.le_of_ble_eq_true rfl) rfl c14 ?_
              refine s_pick_yes (d := (sc (.bool true))) rfl c14 rfl ?_
              refine s_move (d := (sc (.bool true))) rfl ?_
              refine AWops.guard_no rfl (Nat.le_of_ble_eq_true rfl) rfl rfl ?_
              refine AWops.guard_no rfl (Nat.le_of_ble_eq_true rfl) rfl rfl ?_
              refine s_pick_yes (d := (sc (.bool true))) rfl rfl rfl ?_
              refine s_move (d := (sc (.bool true))) rfl ?_
              refine AWops.guard_yes rfl (Nat.le_of_ble_eq_true rfl) rfl rfl ?_
              obtain ⟨r15, er15, h⟩ := Option.bind_eq_some_iff.mp h
              refine s_call2 (ρ := []) (br := false) (H2 := [(some (AObj.cells true (c_api_Model a0))), (some (AObj.cells true (c_api_Item r3.1)))]) (d := (sc (.bool r15))) F.ca_21 rfl rfl All2.nil All2.nil (by decide) rfl (dossierlaw27_awake.meets _  r15 er15) (.inl rfl) rfl rfl ?_
              refine s_pick_yes (d := (sc (.bool r15))) rfl rfl rfl ?_
              refine s_assign (d := (sc (.bool r15))) rfl ?_
              refine AWops.nil ?_
              refine AW.ret ?_
              obtain rfl := Option.some.inj h
              exact ⟨_, rfl, (Weak.gen (kk := 0) [] [] rfl rfl (by decide) (by decide) rfl rfl rfl (le_upd (le_top _) (.t (.one .sc))) All2.nil)⟩
            · replace h := (if_neg c14).symm.trans h
              replace c14 := Bool.eq_false_iff.mpr c14
              refine AWops.guard_yes rfl (Nat.le_of_ble_eq_true rfl) rfl c14 ?_
              refine s_fieldRef F.fo_36_11 (by decide) rfl ?_
              refine AWops.guard_yes rfl (Nat.le_of_ble_eq_true rfl) rfl c14 ?_
              refine s_load1 (c' := (C.p false (.sl r3.1.Roles.length (r3.1.Roles.flatMap e_str)))) F.ag_31 rfl rfl ?_
              refine AWops.guard_yes rfl (Nat.le_of_ble_eq_true rfl) rfl c14 ?_
              obtain ⟨r16, er16, h⟩ := Option.bind_eq_some_iff.mp h
              refine s_call2 (ρ := []) (br := false) (H2 := [(some (AObj.cells true (c_api_Model a0))), (some (AObj.cells true (c_api_Item r3.1)))]) (d := (sc (.bool r16))) F.ca_25 rfl rfl (All2.cons (.one .imm) (All2.cons (.one .sc) All2.nil)) All2.nil (by decide) rfl (slices_Contains_string_string.meets _ r3.1.Roles (⟨#[]⟩ : ByteArray) r16 er16) (.inl rfl) rfl rfl ?_
              refine s_pick_no (d := (sc (.bool r16))) rfl c14 rfl ?_
              refine s_move (d := (sc (.bool r16))) rfl ?_
              by_cases c17 : r16 = true
              · replace h := (if_pos c17).symm.trans h
                refine AWops.guard_no rfl (Nat.le_of_ble_eq_true rfl) rfl c17 ?_
                refine AWops.guard_no rfl (Nat.le_of_ble_eq_true rfl) rfl c17 ?_
                refine s_pick_yes (d := (sc (.bool true))) rfl c17 rfl ?_
                refine s_move (d := (sc (.bool true))) rfl ?_
                refine AWops.guard_yes rfl (Nat.le_of_ble_eq_true rfl) rfl rfl ?_
                obtain ⟨r18, er18, h⟩ := Option.bind_eq_some_iff.mp h
                refine s_call2 (ρ := []) (br := false) (H2 := [(some (AObj.cells true (c_api_Model a0))), (some (AObj.cells true (c_api_Item r3.1)))]) (d := (sc (.bool r18))) F.ca_21 rfl rfl All2.nil All2.nil (by decide) rfl (dossierlaw27_awake.meets _  r18 er18) (.inl rfl) rfl rfl ?_
                refine s_pick_yes (d := (sc (.bool r18))) rfl rfl rfl ?_
                refine s_assign (d := (sc (.bool r18))) rfl ?_
                refine AWops.nil ?_
                refine AW.ret ?_
                obtain rfl := Option.some.inj h
                exact ⟨_, rfl, (Weak.gen (kk := 0) [] [] rfl rfl (by decide) (by decide) rfl rfl rfl (le_upd (le_top _) (.t (.one .sc))) All2.nil)⟩
              · replace h := (if_neg c17).symm.trans h
                replace c17 := Bool.eq_false_iff.mpr c17
                refine AWops.guard_yes rfl (Nat.le_of_ble_eq_true rfl) rfl c17 ?_
                refine s_move (d := (sc (.int .i64 r4))) rfl ?_
                refine AWops.guard_yes rfl (Nat.le_of_ble_eq_true rfl) rfl c17 ?_
                refine s_binI (v := (.bool (r4 == 41))) rfl rfl rfl ?_
                refine s_pick_no (d := (sc (.bool (r4 == 41)))) rfl c17 rfl ?_
                refine s_move (d := (sc (.bool (r4 == 41)))) rfl ?_
                by_cases c19 : (r4 == 41) = true
                · replace h := (if_pos c19).symm.trans h
                  refine AWops.guard_yes rfl (Nat.le_of_ble_eq_true rfl) rfl c19 ?_
                  obtain ⟨r20, er20, h⟩ := Option.bind_eq_some_iff.mp h
                  refine s_call2 (ρ := []) (br := false) (H2 := [(some (AObj.cells true (c_api_Model a0))), (some (AObj.cells true (c_api_Item r3.1)))]) (d := (sc (.bool r20))) F.ca_21 rfl rfl All2.nil All2.nil (by decide) rfl (dossierlaw27_awake.meets _  r20 er20) (.inl rfl) rfl rfl ?_
                  refine s_pick_yes (d := (sc (.bool r20))) rfl c19 rfl ?_
                  refine s_assign (d := (sc (.bool r20))) rfl ?_
                  refine AWops.nil ?_
                  refine AW.ret ?_
                  obtain rfl := Option.some.inj h
                  exact ⟨_, rfl, (Weak.gen (kk := 0) [] [] rfl rfl (by decide) (by decide) rfl rfl rfl (le_upd (le_top _) (.t (.one .sc))) All2.nil)⟩
                · replace h := (if_neg c19).symm.trans h
                  replace c19 := Bool.eq_false_iff.mpr c19
                  refine AWops.guard_no rfl (Nat.le_of_ble_eq_true rfl) rfl c19 ?_
                  refine s_pick_no (d := (sc (.bool false))) rfl c19 rfl ?_
                  refine s_assign (d := (sc (.bool false))) rfl ?_
                  refine AWops.nil ?_
                  refine AW.ret ?_
                  obtain rfl := Option.some.inj h
                  exact ⟨_, rfl, (Weak.gen (kk := 0) [] [] rfl rfl (by decide) (by decide) rfl rfl rfl (le_upd (le_top _) (.t (.one .sc))) All2.nil)⟩
          · replace h := (if_neg c13).symm.trans h
            replace c13 := Bool.eq_false_iff.mpr c13
            refine AWops.guard_no rfl (Nat.le_of_ble_eq_true rfl) rfl (by rw [c13] <;> rfl) ?_
            refine AWops.guard_no rfl (Nat.le_of_ble_eq_true rfl) rfl (by rw [c13] <;> rfl) ?_
            refine AWops.guard_no rfl (Nat.le_of_ble_eq_true rfl) rfl (by rw [c13] <;> rfl) ?_
            refine AWops.guard_no rfl (Nat.le_of_ble_eq_true rfl) rfl (by rw [c13] <;> rfl) ?_
            refine s_pick_yes (d := (sc (.bool true))) rfl (by rw [c13] <;> rfl) rfl ?_
            refine s_move (d := (sc (.bool true))) rfl ?_
            refine AWops.guard_no rfl (Nat.le_of_ble_eq_true rfl) rfl rfl ?_
            refine AWops.guard_no rfl (Nat.le_of_ble_eq_true rfl) rfl rfl ?_
            refine AWops.guard_no rfl (Nat.le_of_ble_eq_true rfl) rfl rfl ?_
            refine s_pick_yes (d := (sc (.bool true))) rfl rfl rfl ?_
            refine s_move (d := (sc (.bool true))) rfl ?_
            refine AWops.guard_no rfl (Nat.le_of_ble_eq_true rfl) rfl rfl ?_
            refine AWops.guard_no rfl (Nat.le_of_ble_eq_true rfl) rfl rfl ?_
            refine s_pick_yes (d := (sc (.bool true))) rfl rfl rfl ?_
            refine s_move (d := (sc (.bool true))) rfl ?_
            refine AWops.guard_yes rfl (Nat.le_of_ble_eq_true rfl) rfl rfl ?_
            obtain ⟨r21, er21, h⟩ := Option.bind_eq_some_iff.mp h
            refine s_call2 (ρ := []) (br := false) (H2 := [(some (AObj.cells true (c_api_Model a0))), (some (AObj.cells true (c_api_Item r3.1)))]) (d := (sc (.bool r21))) F.ca_21 rfl rfl All2.nil All2.nil (by decide) rfl (dossierlaw27_awake.meets _  r21 er21) (.inl rfl) rfl rfl ?_
            refine s_pick_yes (d := (sc (.bool r21))) rfl rfl rfl ?_
            refine s_assign (d := (sc (.bool r21))) rfl ?_
            refine AWops.nil ?_
            refine AW.ret ?_
            obtain rfl := Option.some.inj h
            exact ⟨_, rfl, (Weak.gen (kk := 0) [] [] rfl rfl (by decide) (by decide) rfl rfl rfl (le_upd (le_top _) (.t (.one .sc))) All2.nil)⟩
      · replace h := (if_neg c7).symm.trans h
        replace c7 := Bool.eq_false_iff.mpr c7
        refine AWops.guard_no rfl (Nat.le_of_ble_eq_true rfl) rfl c7 ?_
        refine AWops.guard_no rfl (Nat.le_of_ble_eq_true rfl) rfl c7 ?_
        refine AWops.guard_no rfl (Nat.le_of_ble_eq_true rfl) rfl c7 ?_
        refine AWops.guard_no rfl (Nat.le_of_ble_eq_true rfl) rfl c7 ?_
        refine AWops.guard_no rfl (Nat.le_of_ble_eq_true rfl) rfl c7 ?_
        refine s_pick_no (d := (sc (.bool false))) rfl c7 rfl ?_
        refine AWops.nil ?_
        refine AW.cond_no rfl rfl ?_
        refine AW.skip ?_
        refine AW.seq ?_
        refine AW.region ?_
        refine s_move (d := (sc (.bool r3.2))) rfl ?_
        refine s_not rfl ?_
        refine s_move (d := (sc (.bool (!r3.2)))) rfl ?_
        by_cases c22 : r3.2 = true
        · replace h := (if_pos c22).symm.trans h
          refine AWops.guard_yes rfl (Nat.le_of_ble_eq_true rfl) rfl (by rw [c22] <;> rfl) ?_
          refine s_fieldRef F.fo_36_11 (by decide) rfl ?_
          refine AWops.guard_yes rfl (Nat.le_of_ble_eq_true rfl) rfl (by rw [c22] <;> rfl) ?_
          refine s_load1 (c' := (C.p false (.sl r3.1.Roles.length (r3.1.Roles.flatMap e_str)))) F.ag_31 rfl rfl ?_
          refine AWops.guard_yes rfl (Nat.le_of_ble_eq_true rfl) rfl (by rw [c22] <;> rfl) ?_
          refine s_len (n := r3.1.Roles.length) F.u_31 rfl (.inr ⟨(fun _ _ h => by cases h), ⟨_, rfl⟩⟩) ?_
          refine AWops.guard_yes rfl (Nat.le_of_ble_eq_true rfl) rfl (by rw [c22] <;> rfl) ?_
          refine s_binI (v := (.bool ((r3.1.Roles.length : Int) == 0))) rfl rfl rfl ?_
          refine s_pick_no (d := (sc (.bool ((r3.1.Roles.length : Int) == 0)))) rfl (by rw [c22] <;> rfl) rfl ?_
          refine s_move (d := (sc (.bool ((r3.1.Roles.length : Int) == 0)))) rfl ?_
          by_cases c23 : ((r3.1.Roles.length : Int) == 0) = true
          · replace h := (if_pos c23).symm.trans h
            refine AWops.guard_no rfl (Nat.le_of_ble_eq_true rfl) rfl c23 ?_
            refine AWops.guard_no rfl (Nat.le_of_ble_eq_true rfl) rfl c23 ?_
            refine AWops.guard_no rfl (Nat.le_of_ble_eq_true rfl) rfl c23 ?_
            refine s_pick_yes (d := (sc (.bool true))) rfl c23 rfl ?_
            refine s_move (d := (sc (.bool true))) rfl ?_
            refine AWops.guard_no rfl (Nat.le_of_ble_eq_true rfl) rfl rfl ?_
            refine AWops.guard_no rfl (Nat.le_of_ble_eq_true rfl) rfl rfl ?_
            refine s_pick_yes (d := (sc (.bool true))) rfl rfl rfl ?_
            refine s_move (d := (sc (.bool true))) rfl ?_
            refine AWops.guard_yes rfl (Nat.le_of_ble_eq_true rfl) rfl rfl ?_
            obtain ⟨r24, er24, h⟩ := Option.bind_eq_some_iff.mp h
            refine s_call2 (ρ := []) (br := false) (H2 := [(some (AObj.cells true (c_api_Model a0))), (some (AObj.cells true (c_api_Item r3.1)))]) (d := (sc (.bool r24))) F.ca_21 rfl rfl All2.nil All2.nil (by decide) rfl (dossierlaw27_awake.meets _  r24 er24) (.inl rfl) rfl rfl ?_
            refine s_pick_yes (d := (sc (.bool r24))) rfl rfl rfl ?_
            refine s_assign (d := (sc (.bool r24))) rfl ?_
            refine AWops.nil ?_
            refine AW.ret ?_
            obtain rfl := Option.some.inj h
            exact ⟨_, rfl, (Weak.gen (kk := 0) [] [] rfl rfl (by decide) (by decide) rfl rfl rfl (le_upd (le_top _) (.t (.one .sc))) All2.nil)⟩
          · replace h := (if_neg c23).symm.trans h
            replace c23 := Bool.eq_false_iff.mpr c23
            refine AWops.guard_yes rfl (Nat.le_of_ble_eq_true rfl) rfl c23 ?_
            refine s_fieldRef F.fo_36_11 (by decide) rfl ?_
            refine AWops.guard_yes rfl (Nat.le_of_ble_eq_true rfl) rfl c23 ?_
            refine s_load1 (c' := (C.p false (.sl r3.1.Roles.length (r3.1.Roles.flatMap e_str)))) F.ag_31 rfl rfl ?_
            refine AWops.guard_yes rfl (Nat.le_of_ble_eq_true rfl) rfl c23 ?_
            obtain ⟨r25, er25, h⟩ := Option.bind_eq_some_iff.mp h
            refine s_call2 (ρ := []) (br := false) (H2 := [(some (AObj.cells true (c_api_Model a0))), (some (AObj.cells true (c_api_Item r3.1)))]) (d := (sc (.bool r25))) F.ca_25 rfl rfl (All2.cons (.one .imm) (All2.cons (.one .sc) All2.nil)) All2.nil (by decide) rfl (slices_Contains_string_string.meets _ r3.1.Roles (⟨#[]⟩ : ByteArray) r25 er25) (.inl rfl) rfl rfl ?_
            refine s_pick_no (d := (sc (.bool r25))) rfl c23 rfl ?_
            refine s_move (d := (sc (.bool r25))) rfl ?_
            by_cases c26 : r25 = true
            · replace h := (if_pos c26).symm.trans h
              refine AWops.guard_no rfl (Nat.le_of_ble_eq_true rfl) rfl c26 ?_
              refine AWops.guard_no rfl (Nat.le_of_ble_eq_true rfl) rfl c26 ?_
              refine s_pick_yes (d := (sc (.bool true))) rfl c26 rfl ?_
              refine s_move (d := (sc (.bool true))) rfl ?_
              refine AWops.guard_yes rfl (Nat.le_of_ble_eq_true rfl) rfl rfl ?_
              obtain ⟨r27, er27, h⟩ := Option.bind_eq_some_iff.mp h
              refine s_call2 (ρ := []) (br := false) (H2 := [(some (AObj.cells true (c_api_Model a0))), (some (AObj.cells true (c_api_Item r3.1)))]) (d := (sc (.bool r27))) F.ca_21 rfl rfl All2.nil All2.nil (by decide) rfl (dossierlaw27_awake.meets _  r27 er27) (.inl rfl) rfl rfl ?_
              refine s_pick_yes (d := (sc (.bool r27))) rfl rfl rfl ?_
              refine s_assign (d := (sc (.bool r27))) rfl ?_
              refine AWops.nil ?_
              refine AW.ret ?_
              obtain rfl := Option.some.inj h
              exact ⟨_, rfl, (Weak.gen (kk := 0) [] [] rfl rfl (by decide) (by decide) rfl rfl rfl (le_upd (le_top _) (.t (.one .sc))) All2.nil)⟩
            · replace h := (if_neg c26).symm.trans h
              replace c26 := Bool.eq_false_iff.mpr c26
              refine AWops.guard_yes rfl (Nat.le_of_ble_eq_true rfl) rfl c26 ?_
              refine s_move (d := (sc (.int .i64 r4))) rfl ?_
              refine AWops.guard_yes rfl (Nat.le_of_ble_eq_true rfl) rfl c26 ?_
              refine s_binI (v := (.bool (r4 == 41))) rfl rfl rfl ?_
              refine s_pick_no (d := (sc (.bool (r4 == 41)))) rfl c26 rfl ?_
              refine s_move (d := (sc (.bool (r4 == 41)))) rfl ?_
              by_cases c28 : (r4 == 41) = true
              · replace h := (if_pos c28).symm.trans h
                refine AWops.guard_yes rfl (Nat.le_of_ble_eq_true rfl) rfl c28 ?_
                obtain ⟨r29, er29, h⟩ := Option.bind_eq_some_iff.mp h
                refine s_call2 (ρ := []) (br := false) (H2 := [(some (AObj.cells true (c_api_Model a0))), (some (AObj.cells true (c_api_Item r3.1)))]) (d := (sc (.bool r29))) F.ca_21 rfl rfl All2.nil All2.nil (by decide) rfl (dossierlaw27_awake.meets _  r29 er29) (.inl rfl) rfl rfl ?_
                refine s_pick_yes (d := (sc (.bool r29))) rfl c28 rfl ?_
                refine s_assign (d := (sc (.bool r29))) rfl ?_
                refine AWops.nil ?_
                refine AW.ret ?_
                obtain rfl := Option.some.inj h
                exact ⟨_, rfl, (Weak.gen (kk := 0) [] [] rfl rfl (by decide) (by decide) rfl rfl rfl (le_upd (le_top _) (.t (.one .sc))) All2.nil)⟩
              · replace h := (if_neg c28).symm.trans h
                replace c28 := Bool.eq_false_iff.mpr c28
                refine AWops.guard_no rfl (Nat.le_of_ble_eq_true rfl) rfl c28 ?_
                refine s_pick_no (d := (sc (.bool false))) rfl c28 rfl ?_
                refine s_assign (d := (sc (.bool false))) rfl ?_
                refine AWops.nil ?_
                refine AW.ret ?_
                obtain rfl := Option.some.inj h
                exact ⟨_, rfl, (Weak.gen (kk := 0) [] [] rfl rfl (by decide) (by decide) rfl rfl rfl (le_upd (le_top _) (.t (.one .sc))) All2.nil)⟩
        · replace h := (if_neg c22).symm.trans h
          replace c22 := Bool.eq_false_iff.mpr c22
          refine AWops.guard_no rfl (Nat.le_of_ble_eq_true rfl) rfl (by rw [c22] <;> rfl) ?_
          refine AWops.guard_no rfl (Nat.le_of_ble_eq_true rfl) rfl (by rw [c22] <;> rfl) ?_
          refine AWops.guard_no rfl (Nat.le_of_ble_eq_true rfl) rfl (by rw [c22] <;> rfl) ?_
          refine AWops.guard_no rfl (Nat.le_of_ble_eq_true rfl) rfl (by rw [c22] <;> rfl) ?_
          refine s_pick_yes (d := (sc (.bool true))) rfl (by rw [c22] <;> rfl) rfl ?_
          refine s_move (d := (sc (.bool true))) rfl ?_
          refine AWops.guard_no rfl (Nat.le_of_ble_eq_true rfl) rfl rfl ?_
          refine AWops.guard_no rfl (Nat.le_of_ble_eq_true rfl) rfl rfl ?_
          refine AWops.guard_no rfl (Nat.le_of_ble_eq_true rfl) rfl rfl ?_
          refine s_pick_yes (d := (sc (.bool true))) rfl rfl rfl ?_
          refine s_move (d := (sc (.bool true))) rfl ?_
          refine AWops.guard_no rfl (Nat.le_of_ble_eq_true rfl) rfl rfl ?_
          refine AWops.guard_no rfl (Nat.le_of_ble_eq_true rfl) rfl rfl ?_
          refine s_pick_yes (d := (sc (.bool true))) rfl rfl rfl ?_
          refine s_move (d := (sc (.bool true))) rfl ?_
          refine AWops.guard_yes rfl (Nat.le_of_ble_eq_true rfl) rfl rfl ?_
          obtain ⟨r30, er30, h⟩ := Option.bind_eq_some_iff.mp h
          refine s_call2 (ρ := []) (br := false) (H2 := [(some (AObj.cells true (c_api_Model a0))), (some (AObj.cells true (c_api_Item r3.1)))]) (d := (sc (.bool r30))) F.ca_21 rfl rfl All2.nil All2.nil (by decide) rfl (dossierlaw27_awake.meets _  r30 er30) (.inl rfl) rfl rfl ?_
          refine s_pick_yes (d := (sc (.bool r30))) rfl rfl rfl ?_
          refine s_assign (d := (sc (.bool r30))) rfl ?_
          refine AWops.nil ?_
          refine AW.ret ?_
          obtain rfl := Option.some.inj h
          exact ⟨_, rfl, (Weak.gen (kk := 0) [] [] rfl rfl (by decide) (by decide) rfl rfl rfl (le_upd (le_top _) (.t (.one .sc))) All2.nil)⟩
    · replace h := (if_neg c5).symm.trans h
      replace c5 := Bool.eq_false_iff.mpr c5
      refine AWops.guard_no rfl (Nat.le_of_ble_eq_true rfl) rfl c5 ?_
      refine AWops.guard_no rfl (Nat.le_of_ble_eq_true rfl) rfl c5 ?_
      refine AWops.guard_no rfl (Nat.le_of_ble_eq_true rfl) rfl c5 ?_
      refine s_pick_no (d := (sc (.bool false))) rfl c5 rfl ?_
      refine s_move (d := (sc (.bool false))) rfl ?_
      refine AWops.guard_no rfl (Nat.le_of_ble_eq_true rfl) rfl rfl ?_
      refine AWops.guard_no rfl (Nat.le_of_ble_eq_true rfl) rfl rfl ?_
      refine AWops.guard_no rfl (Nat.le_of_ble_eq_true rfl) rfl rfl ?_
      refine AWops.guard_no rfl (Nat.le_of_ble_eq_true rfl) rfl rfl ?_
      refine AWops.guard_no rfl (Nat.le_of_ble_eq_true rfl) rfl rfl ?_
      refine s_pick_no (d := (sc (.bool false))) rfl rfl rfl ?_
      refine AWops.nil ?_
      refine AW.cond_no rfl rfl ?_
      refine AW.skip ?_
      refine AW.seq ?_
      refine AW.region ?_
      refine s_move (d := (sc (.bool r3.2))) rfl ?_
      refine s_not rfl ?_
      refine s_move (d := (sc (.bool (!r3.2)))) rfl ?_
      by_cases c31 : r3.2 = true
      · replace h := (if_pos c31).symm.trans h
        refine AWops.guard_yes rfl (Nat.le_of_ble_eq_true rfl) rfl (by rw [c31] <;> rfl) ?_
        refine s_fieldRef F.fo_36_11 (by decide) rfl ?_
        refine AWops.guard_yes rfl (Nat.le_of_ble_eq_true rfl) rfl (by rw [c31] <;> rfl) ?_
        refine s_load1 (c' := (C.p false (.sl r3.1.Roles.length (r3.1.Roles.flatMap e_str)))) F.ag_31 rfl rfl ?_
        refine AWops.guard_yes rfl (Nat.le_of_ble_eq_true rfl) rfl (by rw [c31] <;> rfl) ?_
        refine s_len (n := r3.1.Roles.length) F.u_31 rfl (.inr ⟨(fun _ _ h => by cases h), ⟨_, rfl⟩⟩) ?_
        refine AWops.guard_yes rfl (Nat.le_of_ble_eq_true rfl) rfl (by rw [c31] <;> rfl) ?_
        refine s_binI (v := (.bool ((r3.1.Roles.length : Int) == 0))) rfl rfl rfl ?_
        refine s_pick_no (d := (sc (.bool ((r3.1.Roles.length : Int) == 0)))) rfl (by rw [c31] <;> rfl) rfl ?_
        refine s_move (d := (sc (.bool ((r3.1.Roles.length : Int) == 0)))) rfl ?_
        by_cases c32 : ((r3.1.Roles.length : Int) == 0) = true
        · replace h := (if_pos c32).symm.trans h
          refine AWops.guard_no rfl (Nat.le_of_ble_eq_true rfl) rfl c32 ?_
          refine AWops.guard_no rfl (Nat.le_of_ble_eq_true rfl) rfl c32 ?_
          refine AWops.guard_no rfl (Nat.le_of_ble_eq_true rfl) rfl c32 ?_
          refine s_pick_yes (d := (sc (.bool true))) rfl c32 rfl ?_
          refine s_move (d := (sc (.bool true))) rfl ?_
          refine AWops.guard_no rfl (Nat.le_of_ble_eq_true rfl) rfl rfl ?_
          refine AWops.guard_no rfl (Nat.le_of_ble_eq_true rfl) rfl rfl ?_
          refine s_pick_yes (d := (sc (.bool true))) rfl rfl rfl ?_
          refine s_move (d := (sc (.bool true))) rfl ?_
          refine AWops.guard_yes rfl (Nat.le_of_ble_eq_true rfl) rfl rfl ?_
          obtain ⟨r33, er33, h⟩ := Option.bind_eq_some_iff.mp h
          refine s_call2 (ρ := []) (br := false) (H2 := [(some (AObj.cells true (c_api_Model a0))), (some (AObj.cells true (c_api_Item r3.1)))]) (d := (sc (.bool r33))) F.ca_21 rfl rfl All2.nil All2.nil (by decide) rfl (dossierlaw27_awake.meets _  r33 er33) (.inl rfl) rfl rfl ?_
          refine s_pick_yes (d := (sc (.bool r33))) rfl rfl rfl ?_
          refine s_assign (d := (sc (.bool r33))) rfl ?_
          refine AWops.nil ?_
          refine AW.ret ?_
          obtain rfl := Option.some.inj h
          exact ⟨_, rfl, (Weak.gen (kk := 0) [] [] rfl rfl (by decide) (by decide) rfl rfl rfl (le_upd (le_top _) (.t (.one .sc))) All2.nil)⟩
        · replace h := (if_neg c32).symm.trans h
          replace c32 := Bool.eq_false_iff.mpr c32
          refine AWops.guard_yes rfl (Nat.le_of_ble_eq_true rfl) rfl c32 ?_
          refine s_fieldRef F.fo_36_11 (by decide) rfl ?_
          refine AWops.guard_yes rfl (Nat.le_of_ble_eq_true rfl) rfl c32 ?_
          refine s_load1 (c' := (C.p false (.sl r3.1.Roles.length (r3.1.Roles.flatMap e_str)))) F.ag_31 rfl rfl ?_
          refine AWops.guard_yes rfl (Nat.le_of_ble_eq_true rfl) rfl c32 ?_
          obtain ⟨r34, er34, h⟩ := Option.bind_eq_some_iff.mp h
          refine s_call2 (ρ := []) (br := false) (H2 := [(some (AObj.cells true (c_api_Model a0))), (some (AObj.cells true (c_api_Item r3.1)))]) (d := (sc (.bool r34))) F.ca_25 rfl rfl (All2.cons (.one .imm) (All2.cons (.one .sc) All2.nil)) All2.nil (by decide) rfl (slices_Contains_string_string.meets _ r3.1.Roles (⟨#[]⟩ : ByteArray) r34 er34) (.inl rfl) rfl rfl ?_
          refine s_pick_no (d := (sc (.bool r34))) rfl c32 rfl ?_
          refine s_move (d := (sc (.bool r34))) rfl ?_
          by_cases c35 : r34 = true
          · replace h := (if_pos c35).symm.trans h
            refine AWops.guard_no rfl (Nat.le_of_ble_eq_true rfl) rfl c35 ?_
            refine AWops.guard_no rfl (Nat.le_of_ble_eq_true rfl) rfl c35 ?_
            refine s_pick_yes (d := (sc (.bool true))) rfl c35 rfl ?_
            refine s_move (d := (sc (.bool true))) rfl ?_
            refine AWops.guard_yes rfl (Nat.le_of_ble_eq_true rfl) rfl rfl ?_
            obtain ⟨r36, er36, h⟩ := Option.bind_eq_some_iff.mp h
            refine s_call2 (ρ := []) (br := false) (H2 := [(some (AObj.cells true (c_api_Model a0))), (some (AObj.cells true (c_api_Item r3.1)))]) (d := (sc (.bool r36))) F.ca_21 rfl rfl All2.nil All2.nil (by decide) rfl (dossierlaw27_awake.meets _  r36 er36) (.inl rfl) rfl rfl ?_
            refine s_pick_yes (d := (sc (.bool r36))) rfl rfl rfl ?_
            refine s_assign (d := (sc (.bool r36))) rfl ?_
            refine AWops.nil ?_
            refine AW.ret ?_
            obtain rfl := Option.some.inj h
            exact ⟨_, rfl, (Weak.gen (kk := 0) [] [] rfl rfl (by decide) (by decide) rfl rfl rfl (le_upd (le_top _) (.t (.one .sc))) All2.nil)⟩
          · replace h := (if_neg c35).symm.trans h
            replace c35 := Bool.eq_false_iff.mpr c35
            refine AWops.guard_yes rfl (Nat.le_of_ble_eq_true rfl) rfl c35 ?_
            refine s_move (d := (sc (.int .i64 r4))) rfl ?_
            refine AWops.guard_yes rfl (Nat.le_of_ble_eq_true rfl) rfl c35 ?_
            refine s_binI (v := (.bool (r4 == 41))) rfl rfl rfl ?_
            refine s_pick_no (d := (sc (.bool (r4 == 41)))) rfl c35 rfl ?_
            refine s_move (d := (sc (.bool (r4 == 41)))) rfl ?_
            by_cases c37 : (r4 == 41) = true
            · replace h := (if_pos c37).symm.trans h
              refine AWops.guard_yes rfl (Nat.le_of_ble_eq_true rfl) rfl c37 ?_
              obtain ⟨r38, er38, h⟩ := Option.bind_eq_some_iff.mp h
              refine s_call2 (ρ := []) (br := false) (H2 := [(some (AObj.cells true (c_api_Model a0))), (some (AObj.cells true (c_api_Item r3.1)))]) (d := (sc (.bool r38))) F.ca_21 rfl rfl All2.nil All2.nil (by decide) rfl (dossierlaw27_awake.meets _  r38 er38) (.inl rfl) rfl rfl ?_
              refine s_pick_yes (d := (sc (.bool r38))) rfl c37 rfl ?_
              refine s_assign (d := (sc (.bool r38))) rfl ?_
              refine AWops.nil ?_
              refine AW.ret ?_
              obtain rfl := Option.some.inj h
              exact ⟨_, rfl, (Weak.gen (kk := 0) [] [] rfl rfl (by decide) (by decide) rfl rfl rfl (le_upd (le_top _) (.t (.one .sc))) All2.nil)⟩
            · replace h := (if_neg c37).symm.trans h
              replace c37 := Bool.eq_false_iff.mpr c37
              refine AWops.guard_no rfl (Nat.le_of_ble_eq_true rfl) rfl c37 ?_
              refine s_pick_no (d := (sc (.bool false))) rfl c37 rfl ?_
              refine s_assign (d := (sc (.bool false))) rfl ?_
              refine AWops.nil ?_
              refine AW.ret ?_
              obtain rfl := Option.some.inj h
              exact ⟨_, rfl, (Weak.gen (kk := 0) [] [] rfl rfl (by decide) (by decide) rfl rfl rfl (le_upd (le_top _) (.t (.one .sc))) All2.nil)⟩
      · replace h := (if_neg c31).symm.trans h
        replace c31 := Bool.eq_false_iff.mpr c31
        refine AWops.guard_no rfl (Nat.le_of_ble_eq_true rfl) rfl (by rw [c31] <;> rfl) ?_
        refine AWops.guard_no rfl (Nat.le_of_ble_eq_true rfl) rfl (by rw [c31] <;> rfl) ?_
        refine AWops.guard_no rfl (Nat.le_of_ble_eq_true rfl) rfl (by rw [c31] <;> rfl) ?_
        refine AWops.guard_no rfl (Nat.le_of_ble_eq_true rfl) rfl (by rw [c31] <;> rfl) ?_
        refine s_pick_yes (d := (sc (.bool true))) rfl (by rw [c31] <;> rfl) rfl ?_
        refine s_move (d := (sc (.bool true))) rfl ?_
        refine AWops.guard_no rfl (Nat.le_of_ble_eq_true rfl) rfl rfl ?_
        refine AWops.guard_no rfl (Nat.le_of_ble_eq_true rfl) rfl rfl ?_
        refine AWops.guard_no rfl (Nat.le_of_ble_eq_true rfl) rfl rfl ?_
        refine s_pick_yes (d := (sc (.bool true))) rfl rfl rfl ?_
        refine s_move (d := (sc (.bool true))) rfl ?_
        refine AWops.guard_no rfl (Nat.le_of_ble_eq_true rfl) rfl rfl ?_
        refine AWops.guard_no rfl (Nat.le_of_ble_eq_true rfl) rfl rfl ?_
        refine s_pick_yes (d := (sc (.bool true))) rfl rfl rfl ?_
        refine s_move (d := (sc (.bool true))) rfl ?_
        refine AWops.guard_yes rfl (Nat.le_of_ble_eq_true rfl) rfl rfl ?_
        obtain ⟨r39, er39, h⟩ := Option.bind_eq_some_iff.mp h
        refine s_call2 (ρ := []) (br := false) (H2 := [(some (AObj.cells true (c_api_Model a0))), (some (AObj.cells true (c_api_Item r3.1)))]) (d := (sc (.bool r39))) F.ca_21 rfl rfl All2.nil All2.nil (by decide) rfl (dossierlaw27_awake.meets _  r39 er39) (.inl rfl) rfl rfl ?_
        refine s_pick_yes (d := (sc (.bool r39))) rfl rfl rfl ?_
        refine s_assign (d := (sc (.bool r39))) rfl ?_
        refine AWops.nil ?_
        refine AW.ret ?_
        obtain rfl := Option.some.inj h
        exact ⟨_, rfl, (Weak.gen (kk := 0) [] [] rfl rfl (by decide) (by decide) rfl rfl rfl (le_upd (le_top _) (.t (.one .sc))) All2.nil)⟩
  · replace h := (if_neg c2).symm.trans h
    replace c2 := Bool.eq_false_iff.mpr c2
    refine AW.cond_yes rfl (by rw [c2] <;> rfl) ?_
    refine AW.seq ?_
    refine AW.region ?_
    obtain ⟨r40, er40, h⟩ := Option.bind_eq_some_iff.mp h
    refine s_call2 (ρ := []) (br := false) (H2 := [(some (AObj.cells true (c_api_Model a0)))]) (d := (sc (.bool r40))) F.ca_21 rfl rfl All2.nil All2.nil (by decide) rfl (dossierlaw27_awake.meets _  r40 er40) (.inl rfl) rfl rfl ?_
    refine s_assign (d := (sc (.bool r40))) rfl ?_
    refine AWops.nil ?_
    refine AW.ret ?_
    obtain rfl := Option.some.inj h
    exact ⟨_, rfl, (Weak.gen (kk := 0) [] [] rfl rfl (by decide) (by decide) rfl rfl rfl (le_upd (le_top _) (.t (.one .sc))) All2.nil)⟩
def model_Items_1.f (k : Nat) (a0 : api_Item) (a1 : List ByteArray) (p0 : List api_Item) : Option (Bool × (List api_Item)) := (model_own.f k a0).bind fun r1 => if (decide (p0.length + ([(⟨(⟨#[]⟩ : ByteArray), (⟨#[]⟩ : ByteArray), 0, ([] : List api_Sentry), ([] : List api_Sentry), (⟨#[]⟩ : ByteArray), (⟨#[]⟩ : ByteArray), (⟨#[]⟩ : ByteArray), false, false, 0, ([] : List ByteArray), ([] : List api_Item), ([] : List api_Item)⟩ : api_Item)] : List api_Item).length ≤ 628292358729)) = true then ((rd (p0 ++ ([(⟨(⟨#[]⟩ : ByteArray), (⟨#[]⟩ : ByteArray), 0, ([] : List api_Sentry), ([] : List api_Sentry), (⟨#[]⟩ : ByteArray), (⟨#[]⟩ : ByteArray), (⟨#[]⟩ : ByteArray), false, false, 0, ([] : List ByteArray), ([] : List api_Item), ([] : List api_Item)⟩ : api_Item)] : List api_Item)) (p0.length : Int)).bind fun v3 => some (true, (p0 ++ ([(⟨(⟨#[]⟩ : ByteArray), (⟨#[]⟩ : ByteArray), 0, ([] : List api_Sentry), ([] : List api_Sentry), (⟨#[]⟩ : ByteArray), (⟨#[]⟩ : ByteArray), (⟨#[]⟩ : ByteArray), false, false, 0, ([] : List ByteArray), ([] : List api_Item), ([] : List api_Item)⟩ : api_Item)] : List api_Item)).set (p0.length : Int).toNat r1)) else none
theorem model_Items_1.meets (k : Nat) (a0 : api_Item) (a1 : List ByteArray) (p0 : List api_Item) (r : Bool × (List api_Item)) (h : model_Items_1.f k a0 a1 p0 = some r) : Meets Try.prog 56 [(D.agg (c_api_Item a0)), (D.one (C.p false (.sl a1.length (a1.flatMap e_str)))), (D.one (C.ref 0 0))] [(some (AObj.cells false [(C.own 1 0 p0.length 14)])), (some (AObj.cells false (rowC e_api_Item p0)))] (sc (.bool r.1)) [(some (AObj.cells false [(C.own 2 0 r.2.length 14)])), none, (some (AObj.cells false (rowC e_api_Item r.2)))] := by
  unfold model_Items_1.f at h
  refine Meets.of_body (n := 13) Try.func56 rfl rfl (Nat.le_of_ble_eq_true rfl) fun x hx => ?_
  replace hx : x.k = 2 := hx
  show AW _ x _ _ ⟨13, fr0 [(D.agg (c_api_Item a0)), (D.one (C.p false (.sl a1.length (a1.flatMap e_str)))), (D.one (C.ref 0 0))], [(some (AObj.cells false [(C.own 1 0 p0.length 14)])), (some (AObj.cells false (rowC e_api_Item p0)))]⟩
  refine AW.weak (st' := ⟨13, (upd 13 (upd 13 (upd 13 topF 0 (D.agg (c_api_Item a0))) 1 (D.one (C.p false (.sl a1.length (a1.flatMap e_str))))) 2 (D.one (C.ref 0 0))), [(some (AObj.cells false [(C.own 2 0 p0.length 14)])), none, (some (AObj.cells false (rowC e_api_Item p0)))]⟩) (Weak.genL (kk := 2) [0, 1, 1] [] hx rfl (by decide) rfl rfl rfl rfl (le_upd (le_upd (le_upd (le_top _) (.t (.agg (All2.cons .sc (All2.cons .sc (All2.cons .sc (All2.cons .same (All2.cons .same (All2.cons .sc (All2.cons .sc (All2.cons .sc (All2.cons .sc (All2.cons .sc (All2.cons .sc (All2.cons .same (All2.cons .same (All2.cons .same All2.nil))))))))))))))))) (.t (.one .same))) (.t (.one (.ref rfl)))) (All2.cons (.cells (fun h => h) (All2.cons (.own rfl) All2.nil)) (All2.cons (.none _) (All2.cons (.cells (fun h => h) (all2_row _)) All2.nil)))) ?_
  refine AW.seq ?_
  refine AW.region ?_
  refine s_box (cs := (c_api_Item a0)) rfl (List.cons_ne_nil _ _) rfl ?_
  refine s_assign (d := (sc (.bool false))) rfl ?_
  refine AWops.nil ?_
  refine AW.seq ?_
  refine AW.weak (st' := ⟨13, (upd 13 (upd 13 topF 2 (D.one (C.ref 0 0))) 3 (D.one (C.ref 2 0))), [(some (AObj.cells false [(C.own 3 0 p0.length 14)])), none, (some (AObj.cells true (c_api_Item a0))), (some (AObj.cells false (rowC e_api_Item p0)))]⟩) (Weak.gen (kk := 2) [0, 1, 3, 2] [] hx rfl (by decide) (by decide) rfl rfl rfl (le_upd (le_upd (le_top _) (.t (.one (.ref rfl)))) (.t (.one (.ref rfl)))) (All2.cons (.cells (fun h => h) (All2.cons (.own rfl) All2.nil)) (All2.cons (.none _) (All2.cons (.cells (fun h => h) (All2.cons .sc (All2.cons .sc (All2.cons .sc (All2.cons .same (All2.cons .same (All2.cons .sc (All2.cons .sc (All2.cons .sc (All2.cons .sc (All2.cons .sc (All2.cons .sc (All2.cons .same (All2.cons .same (All2.cons .same All2.nil))))))))))))))) (All2.cons (.cells (fun h => h) (all2_row _)) All2.nil))))) ?_
  obtain ⟨r1, er1, h⟩ := Option.bind_eq_some_iff.mp h
  by_cases c2 : (decide (p0.length + ([(⟨(⟨#[]⟩ : ByteArray), (⟨#[]⟩ : ByteArray), 0, ([] : List api_Sentry), ([] : List api_Sentry), (⟨#[]⟩ : ByteArray), (⟨#[]⟩ : ByteArray), (⟨#[]⟩ : ByteArray), false, false, 0, ([] : List ByteArray), ([] : List api_Item), ([] : List api_Item)⟩ : api_Item)] : List api_Item).length ≤ 628292358729)) = true
  · replace h := (if_pos c2).symm.trans h
    have dc2 := of_decide_eq_true c2
    obtain ⟨v3, ev3, h⟩ := Option.bind_eq_some_iff.mp h
    obtain ⟨pv3, qv3, gv3⟩ := rd_some ev3
    refine AW.draw (n := 13) (L := 7) [(0, ⟨some 6, (D.one (C.own 3 0 p0.length 14)), [(2, (D.one (C.ref 0 0)))], [(0, (some (AObj.cells false [(C.own 3 0 p0.length 14)])))], [], none⟩), (1, ⟨some 7, (D.agg (c_api_Item a0)), [(3, (D.one (C.ref 2 0)))], [(2, (some (AObj.cells true (c_api_Item a0))))], [], none⟩), (2, ⟨some 8, (D.agg (c_api_Item r1)), [(7, (D.agg (c_api_Item a0)))], [], [], none⟩), (3, ⟨some 9, (sc (.int .i64 (p0.length : Int))), [(6, (D.one (C.own 3 0 p0.length 14)))], [], [], none⟩), (4, ⟨some 10, (D.one (C.own 5 0 (([(⟨(⟨#[]⟩ : ByteArray), (⟨#[]⟩ : ByteArray), 0, ([] : List api_Sentry), ([] : List api_Sentry), (⟨#[]⟩ : ByteArray), (⟨#[]⟩ : ByteArray), (⟨#[]⟩ : ByteArray), false, false, 0, ([] : List ByteArray), ([] : List api_Item), ([] : List api_Item)⟩ : api_Item)] : List api_Item).length) 14)), [], [], [(5, (some (AObj.cells true (rowC e_api_Item ([(⟨(⟨#[]⟩ : ByteArray), (⟨#[]⟩ : ByteArray), 0, ([] : List api_Sentry), ([] : List api_Sentry), (⟨#[]⟩ : ByteArray), (⟨#[]⟩ : ByteArray), (⟨#[]⟩ : ByteArray), false, false, 0, ([] : List ByteArray), ([] : List api_Item), ([] : List api_Item)⟩ : api_Item)] : List api_Item)))))], some 5⟩), (5, ⟨some 11, (D.one (C.own 6 0 ((p0 ++ ([(⟨(⟨#[]⟩ : ByteArray), (⟨#[]⟩ : ByteArray), 0, ([] : List api_Sentry), ([] : List api_Sentry), (⟨#[]⟩ : ByteArray), (⟨#[]⟩ : ByteArray), (⟨#[]⟩ : ByteArray), false, false, 0, ([] : List ByteArray), ([] : List api_Item), ([] : List api_Item)⟩ : api_Item)] : List api_Item)).length) 14)), [(6, (D.one (C.own 3 0 p0.length 14))), (10, (D.one (C.own 5 0 (([(⟨(⟨#[]⟩ : ByteArray), (⟨#[]⟩ : ByteArray), 0, ([] : List api_Sentry), ([] : List api_Sentry), (⟨#[]⟩ : ByteArray), (⟨#[]⟩ : ByteArray), (⟨#[]⟩ : ByteArray), false, false, 0, ([] : List ByteArray), ([] : List api_Item), ([] : List api_Item)⟩ : api_Item)] : List api_Item).length) 14)))], [(3, (some (AObj.cells false (rowC e_api_Item p0)))), (5, (some (AObj.cells true (rowC e_api_Item ([(⟨(⟨#[]⟩ : ByteArray), (⟨#[]⟩ : ByteArray), 0, ([] : List api_Sentry), ([] : List api_Sentry), (⟨#[]⟩ : ByteArray), (⟨#[]⟩ : ByteArray), (⟨#[]⟩ : ByteArray), false, false, 0, ([] : List ByteArray), ([] : List api_Item), ([] : List api_Item)⟩ : api_Item)] : List api_Item)))))], [(3, none), (6, (some (AObj.cells false (rowC e_api_Item (p0 ++ ([(⟨(⟨#[]⟩ : ByteArray), (⟨#[]⟩ : ByteArray), 0, ([] : List api_Sentry), ([] : List api_Sentry), (⟨#[]⟩ : ByteArray), (⟨#[]⟩ : ByteArray), (⟨#[]⟩ : ByteArray), false, false, 0, ([] : List ByteArray), ([] : List api_Item), ([] : List api_Item)⟩ : api_Item)] : List api_Item))))))], some 6⟩), (6, ⟨some 12, (D.one (C.ref 6 (0 + (p0.length : Int).toNat * 14))), [(9, (sc (.int .i64 (p0.length : Int)))), (11, (D.one (C.own 6 0 ((p0 ++ ([(⟨(⟨#[]⟩ : ByteArray), (⟨#[]⟩ : ByteArray), 0, ([] : List api_Sentry), ([] : List api_Sentry), (⟨#[]⟩ : ByteArray), (⟨#[]⟩ : ByteArray), (⟨#[]⟩ : ByteArray), false, false, 0, ([] : List ByteArray), ([] : List api_Item), ([] : List api_Item)⟩ : api_Item)] : List api_Item)).length) 14)))], [(6, (some (AObj.cells false (rowC e_api_Item (p0 ++ ([(⟨(⟨#[]⟩ : ByteArray), (⟨#[]⟩ : ByteArray), 0, ([] : List api_Sentry), ([] : List api_Sentry), (⟨#[]⟩ : ByteArray), (⟨#[]⟩ : ByteArray), (⟨#[]⟩ : ByteArray), false, false, 0, ([] : List ByteArray), ([] : List api_Item), ([] : List api_Item)⟩ : api_Item)] : List api_Item))))))], [], none⟩), (7, ⟨none, (D.one C.top), [(8, (D.agg (c_api_Item r1))), (12, (D.one (C.ref 6 (0 + (p0.length : Int).toNat * 14))))], [(6, (some (AObj.cells false (rowC e_api_Item (p0 ++ ([(⟨(⟨#[]⟩ : ByteArray), (⟨#[]⟩ : ByteArray), 0, ([] : List api_Sentry), ([] : List api_Sentry), (⟨#[]⟩ : ByteArray), (⟨#[]⟩ : ByteArray), (⟨#[]⟩ : ByteArray), false, false, 0, ([] : List ByteArray), ([] : List api_Item), ([] : List api_Item)⟩ : api_Item)] : List api_Item))))))], [(6, (some (AObj.cells false (rowC e_api_Item ((p0 ++ ([(⟨(⟨#[]⟩ : ByteArray), (⟨#[]⟩ : ByteArray), 0, ([] : List api_Sentry), ([] : List api_Sentry), (⟨#[]⟩ : ByteArray), (⟨#[]⟩ : ByteArray), (⟨#[]⟩ : ByteArray), false, false, 0, ([] : List ByteArray), ([] : List api_Item), ([] : List api_Item)⟩ : api_Item)] : List api_Item)).set (p0.length : Int).toNat r1)))))], none⟩), (8, ⟨none, (D.one C.top), [(2, (D.one (C.ref 0 0))), (11, (D.one (C.own 6 0 ((p0 ++ ([(⟨(⟨#[]⟩ : ByteArray), (⟨#[]⟩ : ByteArray), 0, ([] : List api_Sentry), ([] : List api_Sentry), (⟨#[]⟩ : ByteArray), (⟨#[]⟩ : ByteArray), (⟨#[]⟩ : ByteArray), false, false, 0, ([] : List ByteArray), ([] : List api_Item), ([] : List api_Item)⟩ : api_Item)] : List api_Item)).length) 14)))], [(0, (some (AObj.cells false [(C.own 3 0 p0.length 14)])))], [(0, (some (AObj.cells false [(C.own 6 0 ((p0 ++ ([(⟨(⟨#[]⟩ : ByteArray), (⟨#[]⟩ : ByteArray), 0, ([] : List api_Sentry), ([] : List api_Sentry), (⟨#[]⟩ : ByteArray), (⟨#[]⟩ : ByteArray), (⟨#[]⟩ : ByteArray), false, false, 0, ([] : List ByteArray), ([] : List api_Item), ([] : List api_Item)⟩ : api_Item)] : List api_Item)).length) 14)])))], none⟩)] [[], [], [1], [0], [], [0, 1, 2, 3, 4], [0, 1, 2, 3, 4, 5], [0, 1, 2, 3, 4, 5, 6], [0, 1, 2, 3, 4, 5]] (Nat.le_of_ble_eq_true rfl) [0, 0, 1, 1, 0, 2, 4, 5, 3] rfl (TK := [(4, 5), (5, 6)]) rfl (AllK.cons' ⟨(tk_upd (tk_upd tk_top rfl) rfl), (AllT.cons' rfl (AllT.cons' rfl (AllT.cons' rfl (AllT.cons' (tkO_row _) AllT.nil')))), (AllF.cons' (.inr rfl) (AllF.cons' (.inr rfl) (AllF.cons' (.inr rfl) (AllF.cons' (.inr rfl) (AllF.cons' (.inl rfl) (AllF.cons' (.inl rfl) (AllF.cons' (.inl rfl) (AllF.cons' (.inl rfl) (AllF.cons' (.inl rfl) AllF.nil')))))))))⟩ (AllK.cons' ⟨(tk_upd (tk_upd tk_top rfl) rfl), (AllT.cons' rfl (AllT.cons' rfl (AllT.cons' rfl (AllT.cons' (tkO_row _) AllT.nil')))), (AllF.cons' (.inr rfl) (AllF.cons' (.inr rfl) (AllF.cons' (.inr rfl) (AllF.cons' (.inr rfl) (AllF.cons' (.inr (by unfold tkFoot; simp only [List.all_cons, List.all_nil, tkO_row, Bool.and_true, Bool.true_and]; rfl)) (AllF.cons' (.inl rfl) (AllF.cons' (.inl rfl) (AllF.cons' (.inl rfl) (AllF.cons' (.inl rfl) AllF.nil')))))))))⟩ AllK.nil')) (AllF.cons' ⟨(AllS.cons' rfl AllS.nil'), (AllH.cons' rfl AllH.nil')⟩ (AllF.cons' ⟨(AllS.cons' rfl AllS.nil'), (AllH.cons' rfl AllH.nil')⟩ (AllF.cons' ⟨(AllS.cons' rfl AllS.nil'), AllH.nil'⟩ (AllF.cons' ⟨(AllS.cons' rfl AllS.nil'), AllH.nil'⟩ (AllF.cons' ⟨AllS.nil', AllH.nil'⟩ (AllF.cons' ⟨(AllS.cons' rfl (AllS.cons' rfl AllS.nil')), (AllH.cons' rfl (AllH.cons' rfl AllH.nil'))⟩ (AllF.cons' ⟨(AllS.cons' rfl (AllS.cons' rfl AllS.nil')), (AllH.cons' rfl AllH.nil')⟩ (AllF.cons' ⟨(AllS.cons' rfl (AllS.cons' rfl AllS.nil')), (AllH.cons' rfl AllH.nil')⟩ (AllF.cons' ⟨(AllS.cons' rfl (AllS.cons' rfl AllS.nil')), (AllH.cons' rfl AllH.nil')⟩ AllF.nil'))))))))) ?_ ?_
    · refine (AllStep.cons' ?_ (AllStep.cons' ?_ (AllStep.cons' ?_ (AllStep.cons' ?_ (AllStep.cons' ?_ (AllStep.cons' ?_ (AllStep.cons' ?_ (AllStep.cons' ?_ (AllStep.cons' ?_ AllStep.nil')))))))))
      · intro K rest fr hv htk k
        show AWops _ x _ _ K ⟨13, (upd 13 fr 2 (D.one (C.ref 0 0))), [(some (AObj.cells false [(C.own 3 0 p0.length 14)])), (hv 1), (hv 2), (hv 3), (hv 4), (hv 5), (hv 6)]⟩
        refine s_load1 (c' := (C.own 3 0 p0.length 14)) F.ag_34 rfl rfl ?_
        exact k
      · intro K rest fr hv htk k
        show AWops _ x _ _ K ⟨13, (upd 13 fr 3 (D.one (C.ref 2 0))), [(hv 0), (hv 1), (some (AObj.cells true (c_api_Item a0))), (hv 3), (hv 4), (hv 5), (hv 6)]⟩
        refine s_loadN (ds := (c_api_Item a0)) F.ag_36 F.sz_36 rfl rfl rfl ?_
        exact k
      · intro K rest fr hv htk k
        show AWops _ x _ _ K ⟨13, (upd 13 fr 7 (D.agg (c_api_Item a0))), [(hv 0), (hv 1), (hv 2), (hv 3), (hv 4), (hv 5), (hv 6)]⟩
        refine s_call2 (ρ := []) (br := false) (H2 := [(hv 0), (hv 1), (hv 2), (hv 3), (hv 4), (hv 5), (hv 6)]) (d := (D.agg (c_api_Item r1))) F.ca_54 rfl rfl (All2.cons (LendT.aggL (All2.cons .sc (All2.cons .sc (All2.cons .sc (All2.cons .imm (All2.cons .imm (All2.cons .sc (All2.cons .sc (All2.cons .sc (All2.cons .sc (All2.cons .sc (All2.cons .sc (All2.cons .imm (All2.cons .imm (All2.cons .imm All2.nil))))))))))))))) All2.nil) All2.nil (by decide) rfl (model_own.meets _ a0 r1 er1) (.inl rfl) rfl rfl ?_
        exact k
      · intro K rest fr hv htk k
        show AWops _ x _ _ K ⟨13, (upd 13 fr 6 (D.one (C.own 3 0 p0.length 14))), [(hv 0), (hv 1), (hv 2), (hv 3), (hv 4), (hv 5), (hv 6)]⟩
        refine s_len (n := p0.length) F.u_34 rfl (.inr ⟨(fun _ _ h => by cases h), ⟨_, rfl⟩⟩) ?_
        exact k
      · intro K rest fr hv htk k
        show AWops _ x _ _ K ⟨13, fr, [(hv 0), (hv 1), (hv 2), (hv 3), (hv 4), (hv 5), (hv 6)]⟩
        refine s_buildSlice (n := 1) (ps := [(0, (D.agg [(C.p true (.v (.string (⟨#[]⟩ : ByteArray)))), (C.p true (.v (.string (⟨#[]⟩ : ByteArray)))), (C.p true (.v (.int .i64 0))), (C.p true (.v (.slice none 0 0))), (C.p true (.v (.slice none 0 0))), (C.p true (.v (.string (⟨#[]⟩ : ByteArray)))), (C.p true (.v (.string (⟨#[]⟩ : ByteArray)))), (C.p true (.v (.string (⟨#[]⟩ : ByteArray)))), (C.p true (.v (.bool false))), (C.p true (.v (.bool false))), (C.p true (.v (.int .i64 0))), (C.p true (.v (.slice none 0 0))), (C.p true (.v (.slice none 0 0))), (C.p true (.v (.slice none 0 0)))]))]) (cs := [(C.p true (.v (.string (⟨#[]⟩ : ByteArray)))), (C.p true (.v (.string (⟨#[]⟩ : ByteArray)))), (C.p true (.v (.int .i64 0))), (C.p true (.v (.slice none 0 0))), (C.p true (.v (.slice none 0 0))), (C.p true (.v (.string (⟨#[]⟩ : ByteArray)))), (C.p true (.v (.string (⟨#[]⟩ : ByteArray)))), (C.p true (.v (.string (⟨#[]⟩ : ByteArray)))), (C.p true (.v (.bool false))), (C.p true (.v (.bool false))), (C.p true (.v (.int .i64 0))), (C.p true (.v (.slice none 0 0))), (C.p true (.v (.slice none 0 0))), (C.p true (.v (.slice none 0 0)))]) F.u_34 F.sz_36 F.z_36 rfl rfl (by decide) (by decide) rfl rfl ?_
        refine AWops.weak (Weak.nils (t := 7) (cs' := rowC e_api_Item ([(⟨(⟨#[]⟩ : ByteArray), (⟨#[]⟩ : ByteArray), 0, ([] : List api_Sentry), ([] : List api_Sentry), (⟨#[]⟩ : ByteArray), (⟨#[]⟩ : ByteArray), (⟨#[]⟩ : ByteArray), false, false, 0, ([] : List ByteArray), ([] : List api_Item), ([] : List api_Item)⟩ : api_Item)] : List api_Item)) rfl (by simp only [rowC, List.flatMap_cons, List.flatMap_nil, List.append_nil, List.cons_append, List.nil_append, List.map_cons, List.map_nil, e_api_Item_eq]; exact (All2.cons (.s _) (All2.cons (.s _) (All2.cons (.s _) (All2.cons .n (All2.cons .n (All2.cons (.s _) (All2.cons (.s _) (All2.cons (.s _) (All2.cons (.s _) (All2.cons (.s _) (All2.cons (.s _) (All2.cons .n (All2.cons .n (All2.cons .n All2.nil))))))))))))))) rfl) ?_
        refine AWops.weak (st' := ⟨13, (upd 13 fr 10 (D.one (C.own 5 0 (([(⟨(⟨#[]⟩ : ByteArray), (⟨#[]⟩ : ByteArray), 0, ([] : List api_Sentry), ([] : List api_Sentry), (⟨#[]⟩ : ByteArray), (⟨#[]⟩ : ByteArray), (⟨#[]⟩ : ByteArray), false, false, 0, ([] : List ByteArray), ([] : List api_Item), ([] : List api_Item)⟩ : api_Item)] : List api_Item).length) 14))), [(hv 0), (hv 1), (hv 2), (hv 3), (hv 4), (some (AObj.cells true (rowC e_api_Item ([(⟨(⟨#[]⟩ : ByteArray), (⟨#[]⟩ : ByteArray), 0, ([] : List api_Sentry), ([] : List api_Sentry), (⟨#[]⟩ : ByteArray), (⟨#[]⟩ : ByteArray), (⟨#[]⟩ : ByteArray), false, false, 0, ([] : List ByteArray), ([] : List api_Item), ([] : List api_Item)⟩ : api_Item)] : List api_Item)))), (hv 6)]⟩) (Weak.gen (kk := 2) [0, 1, 2, 3, 4, 7, 6] [] hx rfl (by decide) (by decide) rfl rfl rfl (le_upd2 (le_ok (p := 5) (L := 7) rfl (htk 5 rfl).1) (.t (.one (.own rfl)))) (All2.cons (ole_ok (p := 5) (L := 7) rfl ((htk 5 rfl).2 0)) (All2.cons (ole_ok (p := 5) (L := 7) rfl ((htk 5 rfl).2 1)) (All2.cons (ole_ok (p := 5) (L := 7) rfl ((htk 5 rfl).2 2)) (All2.cons (ole_ok (p := 5) (L := 7) rfl ((htk 5 rfl).2 3)) (All2.cons (ole_ok (p := 5) (L := 7) rfl ((htk 5 rfl).2 4)) (All2.cons (.cells (fun h => h) (all2_row _)) (All2.cons (ole_ok (p := 5) (L := 7) rfl ((htk 5 rfl).2 6)) All2.nil)))))))) ?_
        exact k
      · intro K rest fr hv htk k
        show AWops _ x _ _ K ⟨13, (upd 13 (upd 13 fr 10 (D.one (C.own 5 0 (([(⟨(⟨#[]⟩ : ByteArray), (⟨#[]⟩ : ByteArray), 0, ([] : List api_Sentry), ([] : List api_Sentry), (⟨#[]⟩ : ByteArray), (⟨#[]⟩ : ByteArray), (⟨#[]⟩ : ByteArray), false, false, 0, ([] : List ByteArray), ([] : List api_Item), ([] : List api_Item)⟩ : api_Item)] : List api_Item).length) 14))) 6 (D.one (C.own 3 0 p0.length 14))), [(hv 0), (hv 1), (hv 2), (some (AObj.cells false (rowC e_api_Item p0))), (hv 4), (some (AObj.cells true (rowC e_api_Item ([(⟨(⟨#[]⟩ : ByteArray), (⟨#[]⟩ : ByteArray), 0, ([] : List api_Sentry), ([] : List api_Sentry), (⟨#[]⟩ : ByteArray), (⟨#[]⟩ : ByteArray), (⟨#[]⟩ : ByteArray), false, false, 0, ([] : List ByteArray), ([] : List api_Item), ([] : List api_Item)⟩ : api_Item)] : List api_Item)))), (hv 6)]⟩
        refine t_append (xs := p0) (ys := ([(⟨(⟨#[]⟩ : ByteArray), (⟨#[]⟩ : ByteArray), 0, ([] : List api_Sentry), ([] : List api_Sentry), (⟨#[]⟩ : ByteArray), (⟨#[]⟩ : ByteArray), (⟨#[]⟩ : ByteArray), false, false, 0, ([] : List ByteArray), ([] : List api_Item), ([] : List api_Item)⟩ : api_Item)] : List api_Item)) (zs := p0 ++ ([(⟨(⟨#[]⟩ : ByteArray), (⟨#[]⟩ : ByteArray), 0, ([] : List api_Sentry), ([] : List api_Sentry), (⟨#[]⟩ : ByteArray), (⟨#[]⟩ : ByteArray), (⟨#[]⟩ : ByteArray), false, false, 0, ([] : List ByteArray), ([] : List api_Item), ([] : List api_Item)⟩ : api_Item)] : List api_Item)) (H' := [(hv 0), (hv 1), (hv 2), none, (hv 4), (some (AObj.cells true (rowC e_api_Item ([(⟨(⟨#[]⟩ : ByteArray), (⟨#[]⟩ : ByteArray), 0, ([] : List api_Sentry), ([] : List api_Sentry), (⟨#[]⟩ : ByteArray), (⟨#[]⟩ : ByteArray), (⟨#[]⟩ : ByteArray), false, false, 0, ([] : List ByteArray), ([] : List api_Item), ([] : List api_Item)⟩ : api_Item)] : List api_Item)))), (hv 6), (some (AObj.cells false (rowC e_api_Item (p0 ++ ([(⟨(⟨#[]⟩ : ByteArray), (⟨#[]⟩ : ByteArray), 0, ([] : List api_Sentry), ([] : List api_Sentry), (⟨#[]⟩ : ByteArray), (⟨#[]⟩ : ByteArray), (⟨#[]⟩ : ByteArray), false, false, 0, ([] : List ByteArray), ([] : List api_Item), ([] : List api_Item)⟩ : api_Item)] : List api_Item)))))]) F.u_34 F.in_36 rfl e_api_Item_len (.own rfl rfl) (.own rfl rfl) F.u_34 (by omega) (by omega) rfl rfl ?_
        refine AWops.weak (st' := ⟨13, (upd 13 (upd 13 (upd 13 fr 10 (D.one (C.own 5 0 (([(⟨(⟨#[]⟩ : ByteArray), (⟨#[]⟩ : ByteArray), 0, ([] : List api_Sentry), ([] : List api_Sentry), (⟨#[]⟩ : ByteArray), (⟨#[]⟩ : ByteArray), (⟨#[]⟩ : ByteArray), false, false, 0, ([] : List ByteArray), ([] : List api_Item), ([] : List api_Item)⟩ : api_Item)] : List api_Item).length) 14))) 6 (D.one (C.own 3 0 p0.length 14))) 11 (D.one (C.own 6 0 ((p0 ++ ([(⟨(⟨#[]⟩ : ByteArray), (⟨#[]⟩ : ByteArray), 0, ([] : List api_Sentry), ([] : List api_Sentry), (⟨#[]⟩ : ByteArray), (⟨#[]⟩ : ByteArray), (⟨#[]⟩ : ByteArray), false, false, 0, ([] : List ByteArray), ([] : List api_Item), ([] : List api_Item)⟩ : api_Item)] : List api_Item)).length) 14))), [(hv 0), (hv 1), (hv 2), none, (hv 4), (some (AObj.cells true (rowC e_api_Item ([(⟨(⟨#[]⟩ : ByteArray), (⟨#[]⟩ : ByteArray), 0, ([] : List api_Sentry), ([] : List api_Sentry), (⟨#[]⟩ : ByteArray), (⟨#[]⟩ : ByteArray), (⟨#[]⟩ : ByteArray), false, false, 0, ([] : List ByteArray), ([] : List api_Item), ([] : List api_Item)⟩ : api_Item)] : List api_Item)))), (some (AObj.cells false (rowC e_api_Item (p0 ++ ([(⟨(⟨#[]⟩ : ByteArray), (⟨#[]⟩ : ByteArray), 0, ([] : List api_Sentry), ([] : List api_Sentry), (⟨#[]⟩ : ByteArray), (⟨#[]⟩ : ByteArray), (⟨#[]⟩ : ByteArray), false, false, 0, ([] : List ByteArray), ([] : List api_Item), ([] : List api_Item)⟩ : api_Item)] : List api_Item)))))]⟩) (Weak.gen (kk := 2) [0, 1, 2, 3, 4, 5, 7] [] hx rfl (by decide) (by decide) rfl rfl rfl (le_upd2 (le_ok (p := 6) (L := 7) rfl (htk 6 rfl).1) (.t (.one (.own rfl)))) (All2.cons (ole_ok (p := 6) (L := 7) rfl ((htk 6 rfl).2 0)) (All2.cons (ole_ok (p := 6) (L := 7) rfl ((htk 6 rfl).2 1)) (All2.cons (ole_ok (p := 6) (L := 7) rfl ((htk 6 rfl).2 2)) (All2.cons (.none _) (All2.cons (ole_ok (p := 6) (L := 7) rfl ((htk 6 rfl).2 4)) (All2.cons (.cells (fun h => h) (all2_row _)) (All2.cons (.cells (fun h => h) (all2_row _)) All2.nil)))))))) ?_
        exact k
      · intro K rest fr hv htk k
        show AWops _ x _ _ K ⟨13, (upd 13 (upd 13 fr 11 (D.one (C.own 6 0 ((p0 ++ ([(⟨(⟨#[]⟩ : ByteArray), (⟨#[]⟩ : ByteArray), 0, ([] : List api_Sentry), ([] : List api_Sentry), (⟨#[]⟩ : ByteArray), (⟨#[]⟩ : ByteArray), (⟨#[]⟩ : ByteArray), false, false, 0, ([] : List ByteArray), ([] : List api_Item), ([] : List api_Item)⟩ : api_Item)] : List api_Item)).length) 14))) 9 (sc (.int .i64 (p0.length : Int)))), [(hv 0), (hv 1), (hv 2), (hv 3), (hv 4), (hv 5), (some (AObj.cells false (rowC e_api_Item (p0 ++ ([(⟨(⟨#[]⟩ : ByteArray), (⟨#[]⟩ : ByteArray), 0, ([] : List api_Sentry), ([] : List api_Sentry), (⟨#[]⟩ : ByteArray), (⟨#[]⟩ : ByteArray), (⟨#[]⟩ : ByteArray), false, false, 0, ([] : List ByteArray), ([] : List api_Item), ([] : List api_Item)⟩ : api_Item)] : List api_Item)))))]⟩
        refine s_indexOwn (d := (D.one (C.ref 6 (0 + (p0.length : Int).toNat * 14)))) F.u_34 F.sz_36 rfl rfl pv3 qv3 rfl ?_
        exact k
      · intro K rest fr hv htk k
        show AWops _ x _ _ K ⟨13, (upd 13 (upd 13 fr 12 (D.one (C.ref 6 (0 + (p0.length : Int).toNat * 14)))) 8 (D.agg (c_api_Item r1))), [(hv 0), (hv 1), (hv 2), (hv 3), (hv 4), (hv 5), (some (AObj.cells false (rowC e_api_Item (p0 ++ ([(⟨(⟨#[]⟩ : ByteArray), (⟨#[]⟩ : ByteArray), 0, ([] : List api_Sentry), ([] : List api_Sentry), (⟨#[]⟩ : ByteArray), (⟨#[]⟩ : ByteArray), (⟨#[]⟩ : ByteArray), false, false, 0, ([] : List ByteArray), ([] : List api_Item), ([] : List api_Item)⟩ : api_Item)] : List api_Item)))))]⟩
        refine s_store (cs' := rowC e_api_Item ((p0 ++ ([(⟨(⟨#[]⟩ : ByteArray), (⟨#[]⟩ : ByteArray), 0, ([] : List api_Sentry), ([] : List api_Sentry), (⟨#[]⟩ : ByteArray), (⟨#[]⟩ : ByteArray), (⟨#[]⟩ : ByteArray), false, false, 0, ([] : List ByteArray), ([] : List api_Item), ([] : List api_Item)⟩ : api_Item)] : List api_Item)).set (p0.length : Int).toNat r1)) rfl rfl rfl (List.cons_ne_nil _ _) rfl F.sz_36 (by rw [row_len e_api_Item_len]; have := (List.getElem?_eq_some_iff.mp gv3).1; show _ + 14 ≤ _; omega) (row_set (f := e_api_Item) (sz := 14) (o := 0) (ds := (p_api_Item r1)) e_api_Item_len gv3 (by rw [e_api_Item_eq, e_api_Item_eq]; rfl) (Nat.le_of_ble_eq_true rfl) rfl) ?_
        exact k
      · intro K rest fr hv htk k
        show AWops _ x _ _ K ⟨13, (upd 13 (upd 13 fr 11 (D.one (C.own 6 0 ((p0 ++ ([(⟨(⟨#[]⟩ : ByteArray), (⟨#[]⟩ : ByteArray), 0, ([] : List api_Sentry), ([] : List api_Sentry), (⟨#[]⟩ : ByteArray), (⟨#[]⟩ : ByteArray), (⟨#[]⟩ : ByteArray), false, false, 0, ([] : List ByteArray), ([] : List api_Item), ([] : List api_Item)⟩ : api_Item)] : List api_Item)).length) 14))) 2 (D.one (C.ref 0 0))), [(some (AObj.cells false [(C.own 3 0 p0.length 14)])), (hv 1), (hv 2), (hv 3), (hv 4), (hv 5), (hv 6)]⟩
        refine s_store (cs' := [(C.own 6 0 ((p0 ++ ([(⟨(⟨#[]⟩ : ByteArray), (⟨#[]⟩ : ByteArray), 0, ([] : List api_Sentry), ([] : List api_Sentry), (⟨#[]⟩ : ByteArray), (⟨#[]⟩ : ByteArray), (⟨#[]⟩ : ByteArray), false, false, 0, ([] : List ByteArray), ([] : List api_Item), ([] : List api_Item)⟩ : api_Item)] : List api_Item)).length) 14)]) rfl rfl rfl (List.cons_ne_nil _ _) rfl F.sz_34 (Nat.le_of_ble_eq_true rfl) rfl ?_
        exact k
    · refine AWops.weak (st' := ⟨13, topF, [(some (AObj.cells false [(C.own 2 0 ((p0 ++ ([(⟨(⟨#[]⟩ : ByteArray), (⟨#[]⟩ : ByteArray), 0, ([] : List api_Sentry), ([] : List api_Sentry), (⟨#[]⟩ : ByteArray), (⟨#[]⟩ : ByteArray), (⟨#[]⟩ : ByteArray), false, false, 0, ([] : List ByteArray), ([] : List api_Item), ([] : List api_Item)⟩ : api_Item)] : List api_Item)).length) 14)])), none, (some (AObj.cells false (rowC e_api_Item ((p0 ++ ([(⟨(⟨#[]⟩ : ByteArray), (⟨#[]⟩ : ByteArray), 0, ([] : List api_Sentry), ([] : List api_Sentry), (⟨#[]⟩ : ByteArray), (⟨#[]⟩ : ByteArray), (⟨#[]⟩ : ByteArray), false, false, 0, ([] : List ByteArray), ([] : List api_Item), ([] : List api_Item)⟩ : api_Item)] : List api_Item)).set (p0.length : Int).toNat r1))))]⟩) (Weak.gen (kk := 2) [0, 1, 6] [] hx rfl (by decide) (by decide) rfl rfl rfl (le_top _) (All2.cons (.cells (fun h => h) (All2.cons (CLe.ownN rfl (by simp)) All2.nil)) (All2.cons (.none _) (All2.cons (.cells (fun h => h) (all2_row _)) All2.nil)))) ?_
      refine AWops.nil ?_
      refine AW.seq ?_
      refine AW.region ?_
      refine s_assign (d := (sc (.bool true))) rfl ?_
      refine AWops.nil ?_
      refine AW.ret ?_
      obtain rfl := Option.some.inj h
      exact ⟨_, rfl, (Weak.gen (kk := 2) [0, 1, 2] [] rfl rfl (by decide) (by decide) rfl rfl rfl (le_upd (le_top _) (.t (.one .sc))) (All2.cons (.cells (fun h => h) (All2.cons (CLe.ownN rfl (by simp)) All2.nil)) (All2.cons (.none _) (All2.cons (.cells (fun h => h) (all2_row _)) All2.nil))))⟩
  · replace h := (if_neg c2).symm.trans h
    cases h
mutual
def model_walk_55x.f : Nat → api_Item → (List ByteArray) → (List api_Item) → Option (Bool × (List api_Item))
  | 0, _, _, _ => none
  | k + 1, a0, a1, p0 => (model_Items_1.f k a0 a1 p0).bind fun r1 => if r1.1 = true then ((slices_Clone_string_string.f k a1).bind fun r3 => if (decide (r3.length + ([a0.ID] : List ByteArray).length ≤ 8796093022208)) = true then (model_walk_55x.l0 k r1.2 0 a0 r3) else none) else (some (false, r1.2))
def model_walk_55x.l1 : Nat → (List api_Item) → Int → api_Item → (List ByteArray) → Int → Option (Bool × (List api_Item))
  | 0, _, _, _, _, _ => none
  | k + 1, x9, x10, a0, r3, x6 => if (decide (x10 < (a0.Kids.length : Int))) = true then ((rd a0.Kids x10).bind fun v12 => (model_walk_55x.f k v12 (r3 ++ ([a0.ID] : List ByteArray)) x9).bind fun r13 => if r13.1 = true then (model_walk_55x.l1 k r13.2 (IntKind.i64.wrap (x10 + 1)) a0 r3 x6) else (some (false, r13.2))) else (model_walk_55x.l0 k x9 (IntKind.i64.wrap (x6 + 1)) a0 r3)
def model_walk_55x.l2 : Nat → (List api_Item) → Int → api_Item → (List ByteArray) → Int → Option (Bool × (List api_Item))
  | 0, _, _, _, _, _ => none
  | k + 1, x16, x17, a0, r3, x6 => if (decide (x17 < (a0.Table.length : Int))) = true then ((rd a0.Table x17).bind fun v19 => (model_walk_55x.f k v19 (r3 ++ ([a0.ID] : List ByteArray)) x16).bind fun r20 => if r20.1 = true then (model_walk_55x.l2 k r20.2 (IntKind.i64.wrap (x17 + 1)) a0 r3 x6) else (some (false, r20.2))) else (model_walk_55x.l0 k x16 (IntKind.i64.wrap (x6 + 1)) a0 r3)
def model_walk_55x.l0 : Nat → (List api_Item) → Int → api_Item → (List ByteArray) → Option (Bool × (List api_Item))
  | 0, _, _, _, _ => none
  | k + 1, x5, x6, a0, r3 => if (decide (x6 < 2)) = true then (if (x6 == 0) = true then (model_walk_55x.l1 k x5 0 a0 r3 x6) else (if (x6 == 1) = true then (model_walk_55x.l2 k x5 0 a0 r3 x6) else (none))) else (some (true, x5))
end
theorem model_walk_55x.meets (k : Nat) : ∀ (a0 : api_Item) (a1 : List ByteArray) (p0 : List api_Item) (r : Bool × (List api_Item)), model_walk_55x.f k a0 a1 p0 = some r → Meets Try.prog 55 [(D.agg (c_api_Item a0)), (D.one (C.p false (.sl a1.length (a1.flatMap e_str)))), (D.one (C.clo 56 [(C.ref 0 0)]))] [(some (AObj.cells false [(C.own 1 0 p0.length 14)])), (some (AObj.cells false (rowC e_api_Item p0)))] (sc (.bool r.1)) [(some (AObj.cells false [(C.own 2 0 r.2.length 14)])), none, (some (AObj.cells false (rowC e_api_Item r.2)))] := by
  induction k using Nat.strongRecOn with
  | _ k ih =>
    cases k with
    | zero =>
      · intro a0 a1 p0 r h; exact absurd h (by simp [model_walk_55x.f])
    | succ k =>
      · intro a0 a1 p0 r h
        replace h := (model_walk_55x.f.eq_2 _ _ _ _).symm.trans h
        refine Meets.of_body (n := 44) Try.func55 rfl rfl (Nat.le_of_ble_eq_true rfl) fun x hx => ?_
        replace hx : x.k = 2 := hx
        show AW _ x _ _ ⟨44, fr0 [(D.agg (c_api_Item a0)), (D.one (C.p false (.sl a1.length (a1.flatMap e_str)))), (D.one (C.clo 56 [(C.ref 0 0)]))], [(some (AObj.cells false [(C.own 1 0 p0.length 14)])), (some (AObj.cells false (rowC e_api_Item p0)))]⟩
        refine AW.weak (st' := ⟨44, (upd 44 (upd 44 (upd 44 topF 0 (D.agg (c_api_Item a0))) 1 (D.one (C.p false (.sl a1.length (a1.flatMap e_str))))) 2 (D.one (C.clo 56 [(C.ref 0 0)]))), [(some (AObj.cells false [(C.own 2 0 p0.length 14)])), none, (some (AObj.cells false (rowC e_api_Item p0)))]⟩) (Weak.genL (kk := 2) [0, 1, 1] [] hx rfl (by decide) rfl rfl rfl rfl (le_upd (le_upd (le_upd (le_top _) (.t (.agg (All2.cons .sc (All2.cons .sc (All2.cons .sc (All2.cons .same (All2.cons .same (All2.cons .sc (All2.cons .sc (All2.cons .sc (All2.cons .sc (All2.cons .sc (All2.cons .sc (All2.cons .same (All2.cons .same (All2.cons .same All2.nil))))))))))))))))) (.t (.one .same))) (.t (.one (CLe.cloL (All2.cons (.ref rfl) All2.nil))))) (All2.cons (.cells (fun h => h) (All2.cons (.own rfl) All2.nil)) (All2.cons (.none _) (All2.cons (.cells (fun h => h) (all2_row _)) All2.nil)))) ?_
        refine AW.seq ?_
        refine AW.region ?_
        refine s_box (cs := (c_api_Item a0)) rfl (List.cons_ne_nil _ _) rfl ?_
        refine s_assign (d := (sc (.bool false))) rfl ?_
        refine AWops.nil ?_
        refine AW.seq ?_
        refine AW.seq ?_
        refine AW.region ?_
        refine s_move (d := (D.one (C.clo 56 [(C.ref 0 0)]))) rfl ?_
        refine s_loadN (ds := (c_api_Item a0)) F.ag_36 F.sz_36 rfl rfl rfl ?_
        refine s_move (d := (D.one (C.p false (.sl a1.length (a1.flatMap e_str))))) rfl ?_
        obtain ⟨r1, er1, h⟩ := Option.bind_eq_some_iff.mp h
        refine s_call2 (ρ := [0, 2]) (br := false) (H2 := [(some (AObj.cells false [(C.own 4 0 r1.2.length 14)])), none, none, (some (AObj.cells true (c_api_Item a0))), (some (AObj.cells false (rowC e_api_Item r1.2)))]) (d := (sc (.bool r1.1))) F.ca_56 rfl rfl (All2.cons (LendT.aggL (All2.cons .sc (All2.cons .sc (All2.cons .sc (All2.cons .imm (All2.cons .imm (All2.cons .sc (All2.cons .sc (All2.cons .sc (All2.cons .sc (All2.cons .sc (All2.cons .sc (All2.cons .imm (All2.cons .imm (All2.cons .imm All2.nil))))))))))))))) (All2.cons (.one .imm) (All2.cons (.one (.ref rfl)) All2.nil))) (All2.cons (.cells (All2.cons (.own rfl) All2.nil)) (All2.cons (.cells (lend_row _)) All2.nil)) (by decide) rfl (model_Items_1.meets _ a0 a1 p0 r1 er1) (.inl rfl) (by first | rfl | (simp only [mergeH2, orF, Bool.false_or, Bool.or_false, Bool.true_or, Bool.or_true, mergeAt, mergeObj, renO, ren_row, List.drop_succ_cons, List.drop_zero, List.map_cons, List.map_nil, Option.map_some, Option.map_none, List.length_cons, List.length_nil, Nat.zero_add, List.append_assoc, List.cons_append, List.nil_append]; done) | (simp only [mergeH2, orF, Bool.false_or, Bool.or_false, Bool.true_or, Bool.or_true, mergeAt, mergeObj, renO, ren_row, List.drop_succ_cons, List.drop_zero, List.map_cons, List.map_nil, Option.map_some, Option.map_none, List.length_cons, List.length_nil, Nat.zero_add, List.append_assoc, List.cons_append, List.nil_append]; rfl)) rfl ?_
        refine s_not rfl ?_
        refine AWops.nil ?_
        by_cases c2 : r1.1 = true
        · replace h := (if_pos c2).symm.trans h
          refine AW.cond_no rfl (by rw [c2] <;> rfl) ?_
          refine AW.skip ?_
          refine AW.seq ?_
          refine AW.weak (st' := ⟨44, (upd 44 (upd 44 (upd 44 topF 1 (D.one (C.p false (.sl a1.length (a1.flatMap e_str))))) 2 (D.one (C.clo 56 [(C.ref 0 0)]))) 3 (D.one (C.ref 2 0))), [(some (AObj.cells false [(C.own 3 0 r1.2.length 14)])), none, (some (AObj.cells true (c_api_Item a0))), (some (AObj.cells false (rowC e_api_Item r1.2)))]⟩) (Weak.gen (kk := 2) [0, 1, 3, 4] [] hx rfl (by decide) (by decide) rfl rfl rfl (le_upd (le_upd (le_upd (le_top _) (.t (.one .same))) (.t (.one (CLe.cloL (All2.cons (.ref rfl) All2.nil))))) (.t (.one (.ref rfl)))) (All2.cons (.cells (fun h => h) (All2.cons (.own rfl) All2.nil)) (All2.cons (.none _) (All2.cons (.cells (fun h => h) (All2.cons .sc (All2.cons .sc (All2.cons .sc (All2.cons .same (All2.cons .same (All2.cons .sc (All2.cons .sc (All2.cons .sc (All2.cons .sc (All2.cons .sc (All2.cons .sc (All2.cons .same (All2.cons .same (All2.cons .same All2.nil))))))))))))))) (All2.cons (.cells (fun h => h) (all2_row _)) All2.nil))))) ?_
          obtain ⟨r3, er3, h⟩ := Option.bind_eq_some_iff.mp h
          by_cases c4 : (decide (r3.length + ([a0.ID] : List ByteArray).length ≤ 8796093022208)) = true
          · replace h := (if_pos c4).symm.trans h
            have dc4 := of_decide_eq_true c4
            refine AW.draw (n := 44) (L := 7) [(0, ⟨some 17, (D.one (C.p false (.sl a1.length (a1.flatMap e_str)))), [(1, (D.one (C.p false (.sl a1.length (a1.flatMap e_str)))))], [], [], none⟩), (1, ⟨some 18, (D.one (C.own 4 0 r3.length 1)), [(17, (D.one (C.p false (.sl a1.length (a1.flatMap e_str)))))], [], [(4, (some (AObj.cells true (rowC e_str r3))))], some 4⟩), (2, ⟨some 19, (D.one (C.ref 2 0)), [(3, (D.one (C.ref 2 0)))], [], [], none⟩), (3, ⟨some 20, (sc (.string a0.ID)), [(19, (D.one (C.ref 2 0)))], [(2, (some (AObj.cells true (c_api_Item a0))))], [], none⟩), (4, ⟨some 21, (D.one (C.own 5 0 (([a0.ID] : List ByteArray).length) 1)), [(20, (sc (.string a0.ID)))], [], [(5, (some (AObj.cells true (rowC e_str ([a0.ID] : List ByteArray)))))], some 5⟩), (5, ⟨some 22, (D.one (C.own 6 0 ((r3 ++ ([a0.ID] : List ByteArray)).length) 1)), [(18, (D.one (C.own 4 0 r3.length 1))), (21, (D.one (C.own 5 0 (([a0.ID] : List ByteArray).length) 1)))], [(4, (some (AObj.cells true (rowC e_str r3)))), (5, (some (AObj.cells true (rowC e_str ([a0.ID] : List ByteArray)))))], [(4, none), (6, (some (AObj.cells true (rowC e_str (r3 ++ ([a0.ID] : List ByteArray))))))], some 6⟩), (6, ⟨some 7, (D.one (C.own 6 0 ((r3 ++ ([a0.ID] : List ByteArray)).length) 1)), [(22, (D.one (C.own 6 0 ((r3 ++ ([a0.ID] : List ByteArray)).length) 1)))], [], [], none⟩)] [[], [0], [], [2], [2, 3], [0, 1, 2, 3, 4], [0, 1, 2, 3, 4, 5]] (Nat.le_of_ble_eq_true rfl) [0, 1, 0, 1, 2, 3, 4] rfl (TK := [(1, 4), (4, 5), (5, 6)]) rfl (AllK.cons' ⟨(tk_upd (tk_upd (tk_upd tk_top rfl) rfl) rfl), (AllT.cons' rfl (AllT.cons' rfl (AllT.cons' rfl (AllT.cons' (tkO_row _) AllT.nil')))), (AllF.cons' (.inr rfl) (AllF.cons' (.inl rfl) (AllF.cons' (.inr rfl) (AllF.cons' (.inr rfl) (AllF.cons' (.inr (by unfold tkFoot; simp only [List.all_cons, List.all_nil, tkO_row, Bool.and_true, Bool.true_and]; rfl)) (AllF.cons' (.inl rfl) (AllF.cons' (.inl rfl) AllF.nil')))))))⟩ (AllK.cons' ⟨(tk_upd (tk_upd (tk_upd tk_top rfl) rfl) rfl), (AllT.cons' rfl (AllT.cons' rfl (AllT.cons' rfl (AllT.cons' (tkO_row _) AllT.nil')))), (AllF.cons' (.inr rfl) (AllF.cons' (.inr (by unfold tkFoot; simp only [List.all_cons, List.all_nil, tkO_row, Bool.and_true, Bool.true_and]; rfl)) (AllF.cons' (.inr rfl) (AllF.cons' (.inr rfl) (AllF.cons' (.inl rfl) (AllF.cons' (.inl rfl) (AllF.cons' (.inl rfl) AllF.nil')))))))⟩ (AllK.cons' ⟨(tk_upd (tk_upd (tk_upd tk_top rfl) rfl) rfl), (AllT.cons' rfl (AllT.cons' rfl (AllT.cons' rfl (AllT.cons' (tkO_row _) AllT.nil')))), (AllF.cons' (.inr rfl) (AllF.cons' (.inr (by unfold tkFoot; simp only [List.all_cons, List.all_nil, tkO_row, Bool.and_true, Bool.true_and]; rfl)) (AllF.cons' (.inr rfl) (AllF.cons' (.inr rfl) (AllF.cons' (.inr (by unfold tkFoot; simp only [List.all_cons, List.all_nil, tkO_row, Bool.and_true, Bool.true_and]; rfl)) (AllF.cons' (.inl rfl) (AllF.cons' (.inl rfl) AllF.nil')))))))⟩ AllK.nil'))) (AllF.cons' ⟨(AllS.cons' rfl AllS.nil'), AllH.nil'⟩ (AllF.cons' ⟨(AllS.cons' rfl AllS.nil'), AllH.nil'⟩ (AllF.cons' ⟨(AllS.cons' rfl AllS.nil'), AllH.nil'⟩ (AllF.cons' ⟨(AllS.cons' rfl AllS.nil'), (AllH.cons' rfl AllH.nil')⟩ (AllF.cons' ⟨(AllS.cons' rfl AllS.nil'), AllH.nil'⟩ (AllF.cons' ⟨(AllS.cons' rfl (AllS.cons' rfl AllS.nil')), (AllH.cons' rfl (AllH.cons' rfl AllH.nil'))⟩ (AllF.cons' ⟨(AllS.cons' rfl AllS.nil'), AllH.nil'⟩ AllF.nil'))))))) ?_ ?_
            · refine (AllStep.cons' ?_ (AllStep.cons' ?_ (AllStep.cons' ?_ (AllStep.cons' ?_ (AllStep.cons' ?_ (AllStep.cons' ?_ (AllStep.cons' ?_ AllStep.nil')))))))
              · intro K rest fr hv htk k
                show AWops _ x _ _ K ⟨44, (upd 44 fr 1 (D.one (C.p false (.sl a1.length (a1.flatMap e_str))))), [(hv 0), (hv 1), (hv 2), (hv 3), (hv 4), (hv 5), (hv 6)]⟩
                refine s_move (d := (D.one (C.p false (.sl a1.length (a1.flatMap e_str))))) rfl ?_
                exact k
              · intro K rest fr hv htk k
                show AWops _ x _ _ K ⟨44, (upd 44 fr 17 (D.one (C.p false (.sl a1.length (a1.flatMap e_str))))), [(hv 0), (hv 1), (hv 2), (hv 3), (hv 4), (hv 5), (hv 6)]⟩
                refine s_call2 (ρ := []) (br := false) (H2 := [(hv 0), (hv 1), (hv 2), (hv 3), (hv 4), (hv 5), (hv 6), (some (AObj.cells true (rowC e_str r3)))]) (d := (D.one (C.own 7 0 r3.length 1))) F.ca_61 rfl rfl (All2.cons (.one .imm) All2.nil) All2.nil (by decide) rfl (slices_Clone_string_string.meets _ a1 r3 er3) (.inl rfl) (by first | rfl | (simp only [mergeH2, orF, Bool.false_or, Bool.or_false, Bool.true_or, Bool.or_true, mergeAt, mergeObj, renO, ren_row, List.drop_succ_cons, List.drop_zero, List.map_cons, List.map_nil, Option.map_some, Option.map_none, List.length_cons, List.length_nil, Nat.zero_add, List.append_assoc, List.cons_append, List.nil_append]; done) | (simp only [mergeH2, orF, Bool.false_or, Bool.or_false, Bool.true_or, Bool.or_true, mergeAt, mergeObj, renO, ren_row, List.drop_succ_cons, List.drop_zero, List.map_cons, List.map_nil, Option.map_some, Option.map_none, List.length_cons, List.length_nil, Nat.zero_add, List.append_assoc, List.cons_append, List.nil_append]; rfl)) rfl ?_
                refine AWops.weak (st' := ⟨44, (upd 44 (upd 44 fr 17 (D.one (C.p false (.sl a1.length (a1.flatMap e_str))))) 18 (D.one (C.own 4 0 r3.length 1))), [(hv 0), (hv 1), (hv 2), (hv 3), (some (AObj.cells true (rowC e_str r3))), (hv 5), (hv 6)]⟩) (Weak.gen (kk := 2) [0, 1, 2, 3, 7, 5, 6] [] hx rfl (by decide) (by decide) rfl rfl rfl (le_upd2 (le_ok (p := 4) (L := 7) rfl (htk 4 rfl).1) (.t (.one (.own rfl)))) (All2.cons (ole_ok (p := 4) (L := 7) rfl ((htk 4 rfl).2 0)) (All2.cons (ole_ok (p := 4) (L := 7) rfl ((htk 4 rfl).2 1)) (All2.cons (ole_ok (p := 4) (L := 7) rfl ((htk 4 rfl).2 2)) (All2.cons (ole_ok (p := 4) (L := 7) rfl ((htk 4 rfl).2 3)) (All2.cons (.cells (fun h => h) (all2_row _)) (All2.cons (ole_ok (p := 4) (L := 7) rfl ((htk 4 rfl).2 5)) (All2.cons (ole_ok (p := 4) (L := 7) rfl ((htk 4 rfl).2 6)) All2.nil)))))))) ?_
                exact k
              · intro K rest fr hv htk k
                show AWops _ x _ _ K ⟨44, (upd 44 fr 3 (D.one (C.ref 2 0))), [(hv 0), (hv 1), (hv 2), (hv 3), (hv 4), (hv 5), (hv 6)]⟩
                refine s_fieldRef F.fo_36_0 (by decide) rfl ?_
                exact k
              · intro K rest fr hv htk k
                show AWops _ x _ _ K ⟨44, (upd 44 fr 19 (D.one (C.ref 2 0))), [(hv 0), (hv 1), (some (AObj.cells true (c_api_Item a0))), (hv 3), (hv 4), (hv 5), (hv 6)]⟩
                refine s_load1 (c' := (C.p true (.v (.string a0.ID)))) F.ag_9 rfl rfl ?_
                exact k
              · intro K rest fr hv htk k
                show AWops _ x _ _ K ⟨44, (upd 44 fr 20 (sc (.string a0.ID))), [(hv 0), (hv 1), (hv 2), (hv 3), (hv 4), (hv 5), (hv 6)]⟩
                refine s_buildSlice (n := 1) (ps := [(0, (sc (.string a0.ID)))]) (cs := rowC e_str ([a0.ID] : List ByteArray)) F.u_31 F.sz_9 F.z_9 rfl rfl (by decide) (by decide) rfl rfl ?_
                refine AWops.weak (st' := ⟨44, (upd 44 (upd 44 fr 20 (sc (.string a0.ID))) 21 (D.one (C.own 5 0 (([a0.ID] : List ByteArray).length) 1))), [(hv 0), (hv 1), (hv 2), (hv 3), (hv 4), (some (AObj.cells true (rowC e_str ([a0.ID] : List ByteArray)))), (hv 6)]⟩) (Weak.gen (kk := 2) [0, 1, 2, 3, 4, 7, 6] [] hx rfl (by decide) (by decide) rfl rfl rfl (le_upd2 (le_ok (p := 5) (L := 7) rfl (htk 5 rfl).1) (.t (.one (.own rfl)))) (All2.cons (ole_ok (p := 5) (L := 7) rfl ((htk 5 rfl).2 0)) (All2.cons (ole_ok (p := 5) (L := 7) rfl ((htk 5 rfl).2 1)) (All2.cons (ole_ok (p := 5) (L := 7) rfl ((htk 5 rfl).2 2)) (All2.cons (ole_ok (p := 5) (L := 7) rfl ((htk 5 rfl).2 3)) (All2.cons (ole_ok (p := 5) (L := 7) rfl ((htk 5 rfl).2 4)) (All2.cons (.cells (fun h => h) (all2_row _)) (All2.cons (ole_ok (p := 5) (L := 7) rfl ((htk 5 rfl).2 6)) All2.nil)))))))) ?_
                exact k
              · intro K rest fr hv htk k
                show AWops _ x _ _ K ⟨44, (upd 44 (upd 44 fr 21 (D.one (C.own 5 0 (([a0.ID] : List ByteArray).length) 1))) 18 (D.one (C.own 4 0 r3.length 1))), [(hv 0), (hv 1), (hv 2), (hv 3), (some (AObj.cells true (rowC e_str r3))), (some (AObj.cells true (rowC e_str ([a0.ID] : List ByteArray)))), (hv 6)]⟩
                refine t_append (xs := r3) (ys := ([a0.ID] : List ByteArray)) (zs := r3 ++ ([a0.ID] : List ByteArray)) (H' := [(hv 0), (hv 1), (hv 2), (hv 3), none, (some (AObj.cells true (rowC e_str ([a0.ID] : List ByteArray)))), (hv 6), (some (AObj.cells true (rowC e_str (r3 ++ ([a0.ID] : List ByteArray)))))]) F.u_31 F.in_9 rfl e_str_len (.own rfl rfl) (.own rfl rfl) F.u_31 (by omega) (by omega) rfl rfl ?_
                refine AWops.weak (st' := ⟨44, (upd 44 (upd 44 (upd 44 fr 21 (D.one (C.own 5 0 (([a0.ID] : List ByteArray).length) 1))) 18 (D.one (C.own 4 0 r3.length 1))) 22 (D.one (C.own 6 0 ((r3 ++ ([a0.ID] : List ByteArray)).length) 1))), [(hv 0), (hv 1), (hv 2), (hv 3), none, (some (AObj.cells true (rowC e_str ([a0.ID] : List ByteArray)))), (some (AObj.cells true (rowC e_str (r3 ++ ([a0.ID] : List ByteArray)))))]⟩) (Weak.gen (kk := 2) [0, 1, 2, 3, 4, 5, 7] [] hx rfl (by decide) (by decide) rfl rfl rfl (le_upd2 (le_ok (p := 6) (L := 7) rfl (htk 6 rfl).1) (.t (.one (.own rfl)))) (All2.cons (ole_ok (p := 6) (L := 7) rfl ((htk 6 rfl).2 0)) (All2.cons (ole_ok (p := 6) (L := 7) rfl ((htk 6 rfl).2 1)) (All2.cons (ole_ok (p := 6) (L := 7) rfl ((htk 6 rfl).2 2)) (All2.cons (ole_ok (p := 6) (L := 7) rfl ((htk 6 rfl).2 3)) (All2.cons (.none _) (All2.cons (.cells (fun h => h) (all2_row _)) (All2.cons (.cells (fun h => h) (all2_row _)) All2.nil)))))))) ?_
                exact k
              · intro K rest fr hv htk k
                show AWops _ x _ _ K ⟨44, (upd 44 fr 22 (D.one (C.own 6 0 ((r3 ++ ([a0.ID] : List ByteArray)).length) 1))), [(hv 0), (hv 1), (hv 2), (hv 3), (hv 4), (hv 5), (hv 6)]⟩
                refine s_assign (d := (D.one (C.own 6 0 ((r3 ++ ([a0.ID] : List ByteArray)).length) 1))) rfl ?_
                exact k
            · refine AWops.weak (st' := ⟨44, (upd 44 (upd 44 (upd 44 topF 2 (D.one (C.clo 56 [(C.ref 0 0)]))) 3 (D.one (C.ref 2 0))) 7 (D.one (C.own 3 0 ((r3 ++ ([a0.ID] : List ByteArray)).length) 1))), [(some (AObj.cells false [(C.own 4 0 r1.2.length 14)])), none, (some (AObj.cells true (c_api_Item a0))), (some (AObj.cells true (rowC e_str (r3 ++ ([a0.ID] : List ByteArray))))), (some (AObj.cells false (rowC e_api_Item r1.2)))]⟩) (Weak.gen (kk := 2) [0, 1, 2, 6, 3] [] hx rfl (by decide) (by decide) rfl rfl rfl (le_upd (le_upd (le_upd (le_top _) (.t (.one (CLe.cloL (All2.cons (.ref rfl) All2.nil))))) (.t (.one (.ref rfl)))) (.t (.one (.own rfl)))) (All2.cons (.cells (fun h => h) (All2.cons (.own rfl) All2.nil)) (All2.cons (.none _) (All2.cons (.cells (fun h => h) (All2.cons .sc (All2.cons .sc (All2.cons .sc (All2.cons .same (All2.cons .same (All2.cons .sc (All2.cons .sc (All2.cons .sc (All2.cons .sc (All2.cons .sc (All2.cons .sc (All2.cons .same (All2.cons .same (All2.cons .same All2.nil))))))))))))))) (All2.cons (.cells (fun h => h) (all2_row _)) (All2.cons (.cells (fun h => h) (all2_row _)) All2.nil)))))) ?_
              refine AWops.nil ?_
              refine AW.seq ?_
              refine AW.seq ?_
              refine AW.region ?_
              refine s_fieldRef F.fo_36_12 (by decide) rfl ?_
              refine s_load1 (c' := (C.p false (.sl a0.Kids.length (a0.Kids.flatMap e_api_Item)))) F.ag_34 rfl rfl ?_
              refine s_fieldRef F.fo_36_13 (by decide) rfl ?_
              refine s_load1 (c' := (C.p false (.sl a0.Table.length (a0.Table.flatMap e_api_Item)))) F.ag_34 rfl rfl ?_
              refine s_buildArr (ps := [(0, (D.one (C.p false (.sl a0.Kids.length (a0.Kids.flatMap e_api_Item))))), (1, (D.one (C.p false (.sl a0.Table.length (a0.Table.flatMap e_api_Item)))))]) (cs := [(C.p false (.sl a0.Kids.length (a0.Kids.flatMap e_api_Item))), (C.p false (.sl a0.Table.length (a0.Table.flatMap e_api_Item)))]) F.u_93 F.sz_34 F.z_93 rfl rfl rfl ?_
              refine s_move (d := (sc (.int .i64 0))) rfl ?_
              refine AWops.nil ?_
              refine AW.block ?_
              refine AW.loopw (st0 := ⟨44, (upd 44 (upd 44 (upd 44 (upd 44 topF 2 (D.one (C.clo 56 [(C.ref 0 0)]))) 7 (D.one (C.p false (.sl (r3 ++ ([a0.ID] : List ByteArray)).length ((r3 ++ ([a0.ID] : List ByteArray)).flatMap e_str))))) 27 (D.agg [(C.p false (.sl a0.Kids.length (a0.Kids.flatMap e_api_Item))), (C.p false (.sl a0.Table.length (a0.Table.flatMap e_api_Item)))])) 28 (sc (.int .i64 0))), [(some (AObj.cells false [(C.own 2 0 r1.2.length 14)])), none, (some (AObj.cells false (rowC e_api_Item r1.2)))]⟩) (fun kv st => kv ≤ k ∧ ∃ (x5 : List api_Item) (x6 : Int), model_walk_55x.l0 kv x5 x6 a0 r3 = some r ∧ st = ⟨44, (upd 44 (upd 44 (upd 44 (upd 44 topF 2 (D.one (C.clo 56 [(C.ref 0 0)]))) 7 (D.one (C.p false (.sl (r3 ++ ([a0.ID] : List ByteArray)).length ((r3 ++ ([a0.ID] : List ByteArray)).flatMap e_str))))) 27 (D.agg [(C.p false (.sl a0.Kids.length (a0.Kids.flatMap e_api_Item))), (C.p false (.sl a0.Table.length (a0.Table.flatMap e_api_Item)))])) 28 (sc (.int .i64 x6))), [(some (AObj.cells false [(C.own 2 0 x5.length 14)])), none, (some (AObj.cells false (rowC e_api_Item x5)))]⟩) (k := k) (Weak.gen (kk := 2) [0, 1, 4] [3] hx rfl (by decide) (by decide) rfl rfl rfl (le_upd (le_upd (le_upd (le_upd (le_top _) (.t (.one (CLe.cloL (All2.cons (.ref rfl) All2.nil))))) (.t (.one (CLe.frz e_str_len rfl rfl rfl)))) (.t (.agg (All2.cons .same (All2.cons .same All2.nil))))) (.t (.one .sc))) (All2.cons (.cells (fun h => h) (All2.cons (.own rfl) All2.nil)) (All2.cons (.none _) (All2.cons (.cells (fun h => h) (all2_row _)) All2.nil)))) ⟨Nat.le_refl _, r1.2, 0, h, rfl⟩ ?_
              rintro ql0 st ⟨hkl0, x5, x6, h, rfl⟩
              cases ql0 with
              | zero => exact absurd h (by simp [model_walk_55x.l0])
              | succ ql0 =>
                replace h := (model_walk_55x.l0.eq_2 _ _ _ _ _).symm.trans h
                refine AW.seq ?_
                refine AW.region ?_
                refine s_binI (v := (.bool (decide (x6 < 2)))) rfl rfl rfl ?_
                refine AWops.nil ?_
                refine AW.seq ?_
                by_cases c7 : (decide (x6 < 2)) = true
                · replace h := (if_pos c7).symm.trans h
                  refine AW.cond_yes rfl c7 ?_
                  refine AW.skip ?_
                  refine AW.seq ?_
                  refine AW.block ?_
                  refine AW.seq ?_
                  refine AW.region ?_
                  by_cases c8 : (x6 == 0) = true
                  · replace h := (if_pos c8).symm.trans h
                    have ic8 : x6 = 0 := by simpa using c8
                    refine s_indexAgg1 (c := (C.p false (.sl a0.Kids.length (a0.Kids.flatMap e_api_Item)))) F.u_93 F.sz_34 F.ag_34 rfl rfl (by omega) (by omega) (by rw [ic8]; rfl) ?_
                    refine s_assign (d := (D.one (C.p false (.sl a0.Kids.length (a0.Kids.flatMap e_api_Item))))) rfl ?_
                    refine AWops.nil ?_
                    refine AW.seq ?_
                    refine AW.region ?_
                    refine s_move (d := (D.one (C.p false (.sl a0.Kids.length (a0.Kids.flatMap e_api_Item))))) rfl ?_
                    refine s_len (n := a0.Kids.length) F.u_34 rfl (.inr ⟨(fun _ _ h => by cases h), ⟨_, rfl⟩⟩) ?_
                    refine s_move (d := (sc (.int .i64 0))) rfl ?_
                    refine AWops.nil ?_
                    refine AW.block ?_
                    refine AW.loopw (st0 := ⟨44, (upd 44 (upd 44 (upd 44 (upd 44 (upd 44 (upd 44 (upd 44 topF 2 (D.one (C.clo 56 [(C.ref 0 0)]))) 7 (D.one (C.p false (.sl (r3 ++ ([a0.ID] : List ByteArray)).length ((r3 ++ ([a0.ID] : List ByteArray)).flatMap e_str))))) 27 (D.agg [(C.p false (.sl a0.Kids.length (a0.Kids.flatMap e_api_Item))), (C.p false (.sl a0.Table.length (a0.Table.flatMap e_api_Item)))])) 28 (sc (.int .i64 x6))) 31 (D.one (C.p false (.sl a0.Kids.length (a0.Kids.flatMap e_api_Item))))) 32 (sc (.int .i64 (a0.Kids.length : Int)))) 33 (sc (.int .i64 0))), [(some (AObj.cells false [(C.own 2 0 x5.length 14)])), none, (some (AObj.cells false (rowC e_api_Item x5)))]⟩) (fun kv st => kv ≤ ql0 ∧ ∃ (x9 : List api_Item) (x10 : Int), model_walk_55x.l1 kv x9 x10 a0 r3 x6 = some r ∧ st = ⟨44, (upd 44 (upd 44 (upd 44 (upd 44 (upd 44 (upd 44 (upd 44 topF 2 (D.one (C.clo 56 [(C.ref 0 0)]))) 7 (D.one (C.p false (.sl (r3 ++ ([a0.ID] : List ByteArray)).length ((r3 ++ ([a0.ID] : List ByteArray)).flatMap e_str))))) 27 (D.agg [(C.p false (.sl a0.Kids.length (a0.Kids.flatMap e_api_Item))), (C.p false (.sl a0.Table.length (a0.Table.flatMap e_api_Item)))])) 28 (sc (.int .i64 x6))) 31 (D.one (C.p false (.sl a0.Kids.length (a0.Kids.flatMap e_api_Item))))) 32 (sc (.int .i64 (a0.Kids.length : Int)))) 33 (sc (.int .i64 x10))), [(some (AObj.cells false [(C.own 2 0 x9.length 14)])), none, (some (AObj.cells false (rowC e_api_Item x9)))]⟩) (k := ql0) (Weak.gen (kk := 2) [0, 1, 2] [] hx rfl (by decide) (by decide) rfl rfl rfl (le_upd (le_upd (le_upd (le_upd (le_upd (le_upd (le_upd (le_top _) (.t (.one (CLe.cloL (All2.cons (.ref rfl) All2.nil))))) (.t (.one .same))) (.t (.agg (All2.cons .same (All2.cons .same All2.nil))))) (.t (.one .sc))) (.t (.one .same))) (.t (.one .sc))) (.t (.one .sc))) (All2.cons (.cells (fun h => h) (All2.cons (.own rfl) All2.nil)) (All2.cons (.none _) (All2.cons (.cells (fun h => h) (all2_row _)) All2.nil)))) ⟨Nat.le_refl _, x5, 0, h, rfl⟩ ?_
                    rintro ql1 st ⟨hkl1, x9, x10, h, rfl⟩
                    cases ql1 with
                    | zero => exact absurd h (by simp [model_walk_55x.l1])
                    | succ ql1 =>
                      replace h := (model_walk_55x.l1.eq_2 _ _ _ _ _ _).symm.trans h
                      refine AW.seq ?_
                      refine AW.region ?_
                      refine s_binI (v := (.bool (decide (x10 < (a0.Kids.length : Int))))) rfl rfl rfl ?_
                      refine AWops.nil ?_
                      refine AW.seq ?_
                      by_cases c11 : (decide (x10 < (a0.Kids.length : Int))) = true
                      · replace h := (if_pos c11).symm.trans h
                        refine AW.cond_yes rfl c11 ?_
                        refine AW.skip ?_
                        refine AW.seq ?_
                        refine AW.block ?_
                        refine AW.seq ?_
                        refine AW.region ?_
                        obtain ⟨v12, ev12, h⟩ := Option.bind_eq_some_iff.mp h
                        obtain ⟨pv12, qv12, gv12⟩ := rd_some ev12
                        refine s_indexImm (ps := (p_api_Item v12)) F.u_34 F.sz_36 rfl rfl pv12 qv12 (flat_at e_api_Item_len gv12 (e_api_Item_eq v12)) ?_
                        refine s_loadN (ds := (c_api_Item v12)) F.ag_36 F.sz_36 rfl rfl rfl ?_
                        refine s_alloc (cs := [(C.p true (.v (.string (⟨#[]⟩ : ByteArray)))), (C.p true (.v (.string (⟨#[]⟩ : ByteArray)))), (C.p true (.v (.int .i64 0))), (C.p true (.v (.slice none 0 0))), (C.p true (.v (.slice none 0 0))), (C.p true (.v (.string (⟨#[]⟩ : ByteArray)))), (C.p true (.v (.string (⟨#[]⟩ : ByteArray)))), (C.p true (.v (.string (⟨#[]⟩ : ByteArray)))), (C.p true (.v (.bool false))), (C.p true (.v (.bool false))), (C.p true (.v (.int .i64 0))), (C.p true (.v (.slice none 0 0))), (C.p true (.v (.slice none 0 0))), (C.p true (.v (.slice none 0 0)))]) F.z_36 rfl rfl ?_
                        refine s_store (cs' := (c_api_Item v12)) rfl rfl rfl (List.cons_ne_nil _ _) rfl F.sz_36 (Nat.le_of_ble_eq_true rfl) rfl ?_
                        refine AWops.nil ?_
                        refine AW.seq ?_
                        refine AW.region ?_
                        refine s_loadN (ds := (c_api_Item v12)) F.ag_36 F.sz_36 rfl rfl rfl ?_
                        refine s_move (d := (D.one (C.p false (.sl (r3 ++ ([a0.ID] : List ByteArray)).length ((r3 ++ ([a0.ID] : List ByteArray)).flatMap e_str))))) rfl ?_
                        refine s_move (d := (D.one (C.clo 56 [(C.ref 0 0)]))) rfl ?_
                        obtain ⟨r13, er13, h⟩ := Option.bind_eq_some_iff.mp h
                        refine s_call2 (ρ := [0, 2]) (br := false) (H2 := [(some (AObj.cells false [(C.own 4 0 r13.2.length 14)])), none, none, (some (AObj.cells true (c_api_Item v12))), (some (AObj.cells false (rowC e_api_Item r13.2)))]) (d := (sc (.bool r13.1))) F.ca_55 rfl rfl (All2.cons (LendT.aggL (All2.cons .sc (All2.cons .sc (All2.cons .sc (All2.cons .imm (All2.cons .imm (All2.cons .sc (All2.cons .sc (All2.cons .sc (All2.cons .sc (All2.cons .sc (All2.cons .sc (All2.cons .imm (All2.cons .imm (All2.cons .imm All2.nil))))))))))))))) (All2.cons (.one .imm) (All2.cons (.one (LendC.cloL (All2.cons (.ref rfl) All2.nil))) All2.nil))) (All2.cons (.cells (All2.cons (.own rfl) All2.nil)) (All2.cons (.cells (lend_row _)) All2.nil)) (by decide) rfl (ih _ (by omega) v12 (r3 ++ ([a0.ID] : List ByteArray)) x9 r13 er13) (.inl rfl) (by first | rfl | (simp only [mergeH2, orF, Bool.false_or, Bool.or_false, Bool.true_or, Bool.or_true, mergeAt, mergeObj, renO, ren_row, List.drop_succ_cons, List.drop_zero, List.map_cons, List.map_nil, Option.map_some, Option.map_none, List.length_cons, List.length_nil, Nat.zero_add, List.append_assoc, List.cons_append, List.nil_append]; done) | (simp only [mergeH2, orF, Bool.false_or, Bool.or_false, Bool.true_or, Bool.or_true, mergeAt, mergeObj, renO, ren_row, List.drop_succ_cons, List.drop_zero, List.map_cons, List.map_nil, Option.map_some, Option.map_none, List.length_cons, List.length_nil, Nat.zero_add, List.append_assoc, List.cons_append, List.nil_append]; rfl)) rfl ?_
                        refine s_not rfl ?_
                        refine AWops.nil ?_
                        by_cases c14 : r13.1 = true
                        · replace h := (if_pos c14).symm.trans h
                          refine AW.cond_no rfl (by rw [c14] <;> rfl) ?_
                          refine AW.skip ?_
                          refine AW.region ?_
                          refine s_binI (v := (.int .i64 (IntKind.i64.wrap (x10 + 1)))) rfl rfl rfl ?_
                          refine s_move (d := (sc (.int .i64 (IntKind.i64.wrap (x10 + 1))))) rfl ?_
                          refine AWops.nil ?_
                          exact ⟨_, ⟨44, (upd 44 (upd 44 (upd 44 (upd 44 (upd 44 (upd 44 (upd 44 topF 2 (D.one (C.clo 56 [(C.ref 0 0)]))) 7 (D.one (C.p false (.sl (r3 ++ ([a0.ID] : List ByteArray)).length ((r3 ++ ([a0.ID] : List ByteArray)).flatMap e_str))))) 27 (D.agg [(C.p false (.sl a0.Kids.length (a0.Kids.flatMap e_api_Item))), (C.p false (.sl a0.Table.length (a0.Table.flatMap e_api_Item)))])) 28 (sc (.int .i64 x6))) 31 (D.one (C.p false (.sl a0.Kids.length (a0.Kids.flatMap e_api_Item))))) 32 (sc (.int .i64 (a0.Kids.length : Int)))) 33 (sc (.int .i64 (IntKind.i64.wrap (x10 + 1))))), [(some (AObj.cells false [(C.own 2 0 r13.2.length 14)])), none, (some (AObj.cells false (rowC e_api_Item r13.2)))]⟩, by omega, (Weak.gen (kk := 2) [0, 1, 4] [] hx rfl (by decide) (by decide) rfl rfl rfl (le_upd (le_upd (le_upd (le_upd (le_upd (le_upd (le_upd (le_top _) (.t (.one (CLe.cloL (All2.cons (.ref rfl) All2.nil))))) (.t (.one .same))) (.t (.agg (All2.cons .same (All2.cons .same All2.nil))))) (.t (.one .sc))) (.t (.one .same))) (.t (.one .sc))) (.t (.one .sc))) (All2.cons (.cells (fun h => h) (All2.cons (.own rfl) All2.nil)) (All2.cons (.none _) (All2.cons (.cells (fun h => h) (all2_row _)) All2.nil)))), by omega, r13.2, IntKind.i64.wrap (x10 + 1), h, rfl⟩
                        · replace h := (if_neg c14).symm.trans h
                          replace c14 := Bool.eq_false_iff.mpr c14
                          refine AW.cond_yes rfl (by rw [c14] <;> rfl) ?_
                          refine AW.seq ?_
                          refine AW.region ?_
                          refine s_assign (d := (sc (.bool false))) rfl ?_
                          refine AWops.nil ?_
                          refine AW.ret ?_
                          obtain rfl := Option.some.inj h
                          exact ⟨_, rfl, (Weak.gen (kk := 2) [0, 1, 4] [] rfl rfl (by decide) (by decide) rfl rfl rfl (le_upd (le_top _) (.t (.one .sc))) (All2.cons (.cells (fun h => h) (All2.cons (.own rfl) All2.nil)) (All2.cons (.none _) (All2.cons (.cells (fun h => h) (all2_row _)) All2.nil))))⟩
                      · replace h := (if_neg c11).symm.trans h
                        replace c11 := Bool.eq_false_iff.mpr c11
                        refine AW.cond_no rfl c11 ?_
                        refine AW.exit ?_
                        refine AW.region ?_
                        refine s_binI (v := (.int .i64 (IntKind.i64.wrap (x6 + 1)))) rfl rfl rfl ?_
                        refine s_move (d := (sc (.int .i64 (IntKind.i64.wrap (x6 + 1))))) rfl ?_
                        refine AWops.nil ?_
                        exact ⟨_, ⟨44, (upd 44 (upd 44 (upd 44 (upd 44 topF 2 (D.one (C.clo 56 [(C.ref 0 0)]))) 7 (D.one (C.p false (.sl (r3 ++ ([a0.ID] : List ByteArray)).length ((r3 ++ ([a0.ID] : List ByteArray)).flatMap e_str))))) 27 (D.agg [(C.p false (.sl a0.Kids.length (a0.Kids.flatMap e_api_Item))), (C.p false (.sl a0.Table.length (a0.Table.flatMap e_api_Item)))])) 28 (sc (.int .i64 (IntKind.i64.wrap (x6 + 1))))), [(some (AObj.cells false [(C.own 2 0 x9.length 14)])), none, (some (AObj.cells false (rowC e_api_Item x9)))]⟩, by omega, (Weak.gen (kk := 2) [0, 1, 2] [] hx rfl (by decide) (by decide) rfl rfl rfl (le_upd (le_upd (le_upd (le_upd (le_top _) (.t (.one (CLe.cloL (All2.cons (.ref rfl) All2.nil))))) (.t (.one .same))) (.t (.agg (All2.cons .same (All2.cons .same All2.nil))))) (.t (.one .sc))) (All2.cons (.cells (fun h => h) (All2.cons (.own rfl) All2.nil)) (All2.cons (.none _) (All2.cons (.cells (fun h => h) (all2_row _)) All2.nil)))), by omega, x9, IntKind.i64.wrap (x6 + 1), h, rfl⟩
                  · replace h := (if_neg c8).symm.trans h
                    replace c8 := Bool.eq_false_iff.mpr c8
                    by_cases c15 : (x6 == 1) = true
                    · replace h := (if_pos c15).symm.trans h
                      have ic15 : x6 = 1 := by simpa using c15
                      refine s_indexAgg1 (c := (C.p false (.sl a0.Table.length (a0.Table.flatMap e_api_Item)))) F.u_93 F.sz_34 F.ag_34 rfl rfl (by omega) (by omega) (by rw [ic15]; rfl) ?_
                      refine s_assign (d := (D.one (C.p false (.sl a0.Table.length (a0.Table.flatMap e_api_Item))))) rfl ?_
                      refine AWops.nil ?_
                      refine AW.seq ?_
                      refine AW.region ?_
                      refine s_move (d := (D.one (C.p false (.sl a0.Table.length (a0.Table.flatMap e_api_Item))))) rfl ?_
                      refine s_len (n := a0.Table.length) F.u_34 rfl (.inr ⟨(fun _ _ h => by cases h), ⟨_, rfl⟩⟩) ?_
                      refine s_move (d := (sc (.int .i64 0))) rfl ?_
                      refine AWops.nil ?_
                      refine AW.block ?_
                      refine AW.loopw (st0 := ⟨44, (upd 44 (upd 44 (upd 44 (upd 44 (upd 44 (upd 44 (upd 44 topF 2 (D.one (C.clo 56 [(C.ref 0 0)]))) 7 (D.one (C.p false (.sl (r3 ++ ([a0.ID] : List ByteArray)).length ((r3 ++ ([a0.ID] : List ByteArray)).flatMap e_str))))) 27 (D.agg [(C.p false (.sl a0.Kids.length (a0.Kids.flatMap e_api_Item))), (C.p false (.sl a0.Table.length (a0.Table.flatMap e_api_Item)))])) 28 (sc (.int .i64 x6))) 31 (D.one (C.p false (.sl a0.Table.length (a0.Table.flatMap e_api_Item))))) 32 (sc (.int .i64 (a0.Table.length : Int)))) 33 (sc (.int .i64 0))), [(some (AObj.cells false [(C.own 2 0 x5.length 14)])), none, (some (AObj.cells false (rowC e_api_Item x5)))]⟩) (fun kv st => kv ≤ ql0 ∧ ∃ (x16 : List api_Item) (x17 : Int), model_walk_55x.l2 kv x16 x17 a0 r3 x6 = some r ∧ st = ⟨44, (upd 44 (upd 44 (upd 44 (upd 44 (upd 44 (upd 44 (upd 44 topF 2 (D.one (C.clo 56 [(C.ref 0 0)]))) 7 (D.one (C.p false (.sl (r3 ++ ([a0.ID] : List ByteArray)).length ((r3 ++ ([a0.ID] : List ByteArray)).flatMap e_str))))) 27 (D.agg [(C.p false (.sl a0.Kids.length (a0.Kids.flatMap e_api_Item))), (C.p false (.sl a0.Table.length (a0.Table.flatMap e_api_Item)))])) 28 (sc (.int .i64 x6))) 31 (D.one (C.p false (.sl a0.Table.length (a0.Table.flatMap e_api_Item))))) 32 (sc (.int .i64 (a0.Table.length : Int)))) 33 (sc (.int .i64 x17))), [(some (AObj.cells false [(C.own 2 0 x16.length 14)])), none, (some (AObj.cells false (rowC e_api_Item x16)))]⟩) (k := ql0) (Weak.gen (kk := 2) [0, 1, 2] [] hx rfl (by decide) (by decide) rfl rfl rfl (le_upd (le_upd (le_upd (le_upd (le_upd (le_upd (le_upd (le_top _) (.t (.one (CLe.cloL (All2.cons (.ref rfl) All2.nil))))) (.t (.one .same))) (.t (.agg (All2.cons .same (All2.cons .same All2.nil))))) (.t (.one .sc))) (.t (.one .same))) (.t (.one .sc))) (.t (.one .sc))) (All2.cons (.cells (fun h => h) (All2.cons (.own rfl) All2.nil)) (All2.cons (.none _) (All2.cons (.cells (fun h => h) (all2_row _)) All2.nil)))) ⟨Nat.le_refl _, x5, 0, h, rfl⟩ ?_
                      rintro ql2 st ⟨hkl2, x16, x17, h, rfl⟩
                      cases ql2 with
                      | zero => exact absurd h (by simp [model_walk_55x.l2])
                      | succ ql2 =>
                        replace h := (model_walk_55x.l2.eq_2 _ _ _ _ _ _).symm.trans h
                        refine AW.seq ?_
                        refine AW.region ?_
                        refine s_binI (v := (.bool (decide (x17 < (a0.Table.length : Int))))) rfl rfl rfl ?_
                        refine AWops.nil ?_
                        refine AW.seq ?_
                        by_cases c18 : (decide (x17 < (a0.Table.length : Int))) = true
                        · replace h := (if_pos c18).symm.trans h
                          refine AW.cond_yes rfl c18 ?_
                          refine AW.skip ?_
                          refine AW.seq ?_
                          refine AW.block ?_
                          refine AW.seq ?_
                          refine AW.region ?_
                          obtain ⟨v19, ev19, h⟩ := Option.bind_eq_some_iff.mp h
                          obtain ⟨pv19, qv19, gv19⟩ := rd_some ev19
                          refine s_indexImm (ps := (p_api_Item v19)) F.u_34 F.sz_36 rfl rfl pv19 qv19 (flat_at e_api_Item_len gv19 (e_api_Item_eq v19)) ?_
                          refine s_loadN (ds := (c_api_Item v19)) F.ag_36 F.sz_36 rfl rfl rfl ?_
                          refine s_alloc (cs := [(C.p true (.v (.string (⟨#[]⟩ : ByteArray)))), (C.p true (.v (.string (⟨#[]⟩ : ByteArray)))), (C.p true (.v (.int .i64 0))), (C.p true (.v (.slice none 0 0))), (C.p true (.v (.slice none 0 0))), (C.p true (.v (.string (⟨#[]⟩ : ByteArray)))), (C.p true (.v (.string (⟨#[]⟩ : ByteArray)))), (C.p true (.v (.string (⟨#[]⟩ : ByteArray)))), (C.p true (.v (.bool false))), (C.p true (.v (.bool false))), (C.p true (.v (.int .i64 0))), (C.p true (.v (.slice none 0 0))), (C.p true (.v (.slice none 0 0))), (C.p true (.v (.slice none 0 0)))]) F.z_36 rfl rfl ?_
                          refine s_store (cs' := (c_api_Item v19)) rfl rfl rfl (List.cons_ne_nil _ _) rfl F.sz_36 (Nat.le_of_ble_eq_true rfl) rfl ?_
                          refine AWops.nil ?_
                          refine AW.seq ?_
                          refine AW.region ?_
                          refine s_loadN (ds := (c_api_Item v19)) F.ag_36 F.sz_36 rfl rfl rfl ?_
                          refine s_move (d := (D.one (C.p false (.sl (r3 ++ ([a0.ID] : List ByteArray)).length ((r3 ++ ([a0.ID] : List ByteArray)).flatMap e_str))))) rfl ?_
                          refine s_move (d := (D.one (C.clo 56 [(C.ref 0 0)]))) rfl ?_
                          obtain ⟨r20, er20, h⟩ := Option.bind_eq_some_iff.mp h
                          refine s_call2 (ρ := [0, 2]) (br := false) (H2 := [(some (AObj.cells false [(C.own 4 0 r20.2.length 14)])), none, none, (some (AObj.cells true (c_api_Item v19))), (some (AObj.cells false (rowC e_api_Item r20.2)))]) (d := (sc (.bool r20.1))) F.ca_55 rfl rfl (All2.cons (LendT.aggL (All2.cons .sc (All2.cons .sc (All2.cons .sc (All2.cons .imm (All2.cons .imm (All2.cons .sc (All2.cons .sc (All2.cons .sc (All2.cons .sc (All2.cons .sc (All2.cons .sc (All2.cons .imm (All2.cons .imm (All2.cons .imm All2.nil))))))))))))))) (All2.cons (.one .imm) (All2.cons (.one (LendC.cloL (All2.cons (.ref rfl) All2.nil))) All2.nil))) (All2.cons (.cells (All2.cons (.own rfl) All2.nil)) (All2.cons (.cells (lend_row _)) All2.nil)) (by decide) rfl (ih _ (by omega) v19 (r3 ++ ([a0.ID] : List ByteArray)) x16 r20 er20) (.inl rfl) (by first | rfl | (simp only [mergeH2, orF, Bool.false_or, Bool.or_false, Bool.true_or, Bool.or_true, mergeAt, mergeObj, renO, ren_row, List.drop_succ_cons, List.drop_zero, List.map_cons, List.map_nil, Option.map_some, Option.map_none, List.length_cons, List.length_nil, Nat.zero_add, List.append_assoc, List.cons_append, List.nil_append]; done) | (simp only [mergeH2, orF, Bool.false_or, Bool.or_false, Bool.true_or, Bool.or_true, mergeAt, mergeObj, renO, ren_row, List.drop_succ_cons, List.drop_zero, List.map_cons, List.map_nil, Option.map_some, Option.map_none, List.length_cons, List.length_nil, Nat.zero_add, List.append_assoc, List.cons_append, List.nil_append]; rfl)) rfl ?_
                          refine s_not rfl ?_
                          refine AWops.nil ?_
                          by_cases c21 : r20.1 = true
                          · replace h := (if_pos c21).symm.trans h
                            refine AW.cond_no rfl (by rw [c21] <;> rfl) ?_
                            refine AW.skip ?_
                            refine AW.region ?_
                            refine s_binI (v := (.int .i64 (IntKind.i64.wrap (x17 + 1)))) rfl rfl rfl ?_
                            refine s_move (d := (sc (.int .i64 (IntKind.i64.wrap (x17 + 1))))) rfl ?_
                            refine AWops.nil ?_
                            exact ⟨_, ⟨44, (upd 44 (upd 44 (upd 44 (upd 44 (upd 44 (upd 44 (upd 44 topF 2 (D.one (C.clo 56 [(C.ref 0 0)]))) 7 (D.one (C.p false (.sl (r3 ++ ([a0.ID] : List ByteArray)).length ((r3 ++ ([a0.ID] : List ByteArray)).flatMap e_str))))) 27 (D.agg [(C.p false (.sl a0.Kids.length (a0.Kids.flatMap e_api_Item))), (C.p false (.sl a0.Table.length (a0.Table.flatMap e_api_Item)))])) 28 (sc (.int .i64 x6))) 31 (D.one (C.p false (.sl a0.Table.length (a0.Table.flatMap e_api_Item))))) 32 (sc (.int .i64 (a0.Table.length : Int)))) 33 (sc (.int .i64 (IntKind.i64.wrap (x17 + 1))))), [(some (AObj.cells false [(C.own 2 0 r20.2.length 14)])), none, (some (AObj.cells false (rowC e_api_Item r20.2)))]⟩, by omega, (Weak.gen (kk := 2) [0, 1, 4] [] hx rfl (by decide) (by decide) rfl rfl rfl (le_upd (le_upd (le_upd (le_upd (le_upd (le_upd (le_upd (le_top _) (.t (.one (CLe.cloL (All2.cons (.ref rfl) All2.nil))))) (.t (.one .same))) (.t (.agg (All2.cons .same (All2.cons .same All2.nil))))) (.t (.one .sc))) (.t (.one .same))) (.t (.one .sc))) (.t (.one .sc))) (All2.cons (.cells (fun h => h) (All2.cons (.own rfl) All2.nil)) (All2.cons (.none _) (All2.cons (.cells (fun h => h) (all2_row _)) All2.nil)))), by omega, r20.2, IntKind.i64.wrap (x17 + 1), h, rfl⟩
                          · replace h := (if_neg c21).symm.trans h
                            replace c21 := Bool.eq_false_iff.mpr c21
                            refine AW.cond_yes rfl (by rw [c21] <;> rfl) ?_
                            refine AW.seq ?_
                            refine AW.region ?_
                            refine s_assign (d := (sc (.bool false))) rfl ?_
                            refine AWops.nil ?_
                            refine AW.ret ?_
                            obtain rfl := Option.some.inj h
                            exact ⟨_, rfl, (Weak.gen (kk := 2) [0, 1, 4] [] rfl rfl (by decide) (by decide) rfl rfl rfl (le_upd (le_top _) (.t (.one .sc))) (All2.cons (.cells (fun h => h) (All2.cons (.own rfl) All2.nil)) (All2.cons (.none _) (All2.cons (.cells (fun h => h) (all2_row _)) All2.nil))))⟩
                        · replace h := (if_neg c18).symm.trans h
                          replace c18 := Bool.eq_false_iff.mpr c18
                          refine AW.cond_no rfl c18 ?_
                          refine AW.exit ?_
                          refine AW.region ?_
                          refine s_binI (v := (.int .i64 (IntKind.i64.wrap (x6 + 1)))) rfl rfl rfl ?_
                          refine s_move (d := (sc (.int .i64 (IntKind.i64.wrap (x6 + 1))))) rfl ?_
                          refine AWops.nil ?_
                          exact ⟨_, ⟨44, (upd 44 (upd 44 (upd 44 (upd 44 topF 2 (D.one (C.clo 56 [(C.ref 0 0)]))) 7 (D.one (C.p false (.sl (r3 ++ ([a0.ID] : List ByteArray)).length ((r3 ++ ([a0.ID] : List ByteArray)).flatMap e_str))))) 27 (D.agg [(C.p false (.sl a0.Kids.length (a0.Kids.flatMap e_api_Item))), (C.p false (.sl a0.Table.length (a0.Table.flatMap e_api_Item)))])) 28 (sc (.int .i64 (IntKind.i64.wrap (x6 + 1))))), [(some (AObj.cells false [(C.own 2 0 x16.length 14)])), none, (some (AObj.cells false (rowC e_api_Item x16)))]⟩, by omega, (Weak.gen (kk := 2) [0, 1, 2] [] hx rfl (by decide) (by decide) rfl rfl rfl (le_upd (le_upd (le_upd (le_upd (le_top _) (.t (.one (CLe.cloL (All2.cons (.ref rfl) All2.nil))))) (.t (.one .same))) (.t (.agg (All2.cons .same (All2.cons .same All2.nil))))) (.t (.one .sc))) (All2.cons (.cells (fun h => h) (All2.cons (.own rfl) All2.nil)) (All2.cons (.none _) (All2.cons (.cells (fun h => h) (all2_row _)) All2.nil)))), by omega, x16, IntKind.i64.wrap (x6 + 1), h, rfl⟩
                    · replace h := (if_neg c15).symm.trans h
                      replace c15 := Bool.eq_false_iff.mpr c15
                      cases h
                · replace h := (if_neg c7).symm.trans h
                  replace c7 := Bool.eq_false_iff.mpr c7
                  refine AW.cond_no rfl c7 ?_
                  refine AW.exit ?_
                  refine AW.seq ?_
                  refine AW.region ?_
                  refine s_assign (d := (sc (.bool true))) rfl ?_
                  refine AWops.nil ?_
                  refine AW.ret ?_
                  obtain rfl := Option.some.inj h
                  exact ⟨_, rfl, (Weak.gen (kk := 2) [0, 1, 2] [] rfl rfl (by decide) (by decide) rfl rfl rfl (le_upd (le_top _) (.t (.one .sc))) (All2.cons (.cells (fun h => h) (All2.cons (.own rfl) All2.nil)) (All2.cons (.none _) (All2.cons (.cells (fun h => h) (all2_row _)) All2.nil))))⟩
          · replace h := (if_neg c4).symm.trans h
            cases h
        · replace h := (if_neg c2).symm.trans h
          replace c2 := Bool.eq_false_iff.mpr c2
          refine AW.cond_yes rfl (by rw [c2] <;> rfl) ?_
          refine AW.seq ?_
          refine AW.region ?_
          refine s_assign (d := (sc (.bool false))) rfl ?_
          refine AWops.nil ?_
          refine AW.ret ?_
          obtain rfl := Option.some.inj h
          exact ⟨_, rfl, (Weak.gen (kk := 2) [0, 1, 4] [] rfl rfl (by decide) (by decide) rfl rfl rfl (le_upd (le_top _) (.t (.one .sc))) (All2.cons (.cells (fun h => h) (All2.cons (.own rfl) All2.nil)) (All2.cons (.none _) (All2.cons (.cells (fun h => h) (all2_row _)) All2.nil))))⟩
def model_Items.f (k : Nat) (a0 : api_Model) : Option (List api_Item) := (model_walk_55x.f k a0.Plan ([] : List ByteArray) ([] : List api_Item)).bind fun r1 => some r1.2
theorem model_Items.meets (k : Nat) (a0 : api_Model) (r : (List api_Item)) (h : model_Items.f k a0 = some r) : Meets Try.prog 48 [(D.agg (c_api_Model a0))] [] (D.one (C.own 0 0 r.length 14)) [(some (AObj.cells true (rowC e_api_Item r)))] := by
  unfold model_Items.f at h
  refine Meets.of_body (n := 9) Try.func48 rfl rfl (Nat.le_of_ble_eq_true rfl) fun x hx => ?_
  replace hx : x.k = 0 := hx
  show AW _ x _ _ ⟨9, fr0 [(D.agg (c_api_Model a0))], []⟩
  refine AW.seq ?_
  refine AW.region ?_
  refine s_box (cs := (c_api_Model a0)) rfl (List.cons_ne_nil _ _) rfl ?_
  refine s_assign (d := (sc (.slice none 0 0))) rfl ?_
  refine AWops.nil ?_
  refine AW.seq ?_
  refine AW.region ?_
  refine s_alloc (cs := [(C.p true (.v (.slice none 0 0)))]) F.z_34 rfl rfl ?_
  refine AWops.nil ?_
  refine AW.seq ?_
  refine AW.region ?_
  refine s_fieldRef F.fo_38_4 (by decide) rfl ?_
  refine s_loadN (ds := (c_api_Item a0.Plan)) F.ag_36 F.sz_36 rfl rfl rfl ?_
  refine s_func (cs := [(C.ref 1 0)]) rfl ?_
  obtain ⟨r1, er1, h⟩ := Option.bind_eq_some_iff.mp h
  refine AWops.weak (Weak.nilC (t := 1) (j := 0) (sz := 14) rfl rfl rfl) ?_
  refine s_call2 (ρ := [1, 2]) (br := false) (H2 := [(some (AObj.cells true (c_api_Model a0))), (some (AObj.cells true [(C.own 3 0 r1.2.length 14)])), none, (some (AObj.cells true (rowC e_api_Item r1.2)))]) (d := (sc (.bool r1.1))) F.ca_55 rfl rfl (All2.cons (LendT.aggL (All2.cons .sc (All2.cons .sc (All2.cons .sc (All2.cons .imm (All2.cons .imm (All2.cons .sc (All2.cons .sc (All2.cons .sc (All2.cons .sc (All2.cons .sc (All2.cons .sc (All2.cons .imm (All2.cons .imm (All2.cons .imm All2.nil))))))))))))))) (All2.cons (.one .nil) (All2.cons (.one (LendC.cloL (All2.cons (.ref rfl) All2.nil))) All2.nil))) (All2.cons (.cells (All2.cons (.own rfl) All2.nil)) (All2.cons (.cells All2.nil) All2.nil)) (by decide) rfl (model_walk_55x.meets _ a0.Plan ([] : List ByteArray) ([] : List api_Item) r1 er1) (.inl rfl) (by first | rfl | (simp only [mergeH2, orF, Bool.false_or, Bool.or_false, Bool.true_or, Bool.or_true, mergeAt, mergeObj, renO, ren_row, List.drop_succ_cons, List.drop_zero, List.map_cons, List.map_nil, Option.map_some, Option.map_none, List.length_cons, List.length_nil, Nat.zero_add, List.append_assoc, List.cons_append, List.nil_append]; done) | (simp only [mergeH2, orF, Bool.false_or, Bool.or_false, Bool.true_or, Bool.or_true, mergeAt, mergeObj, renO, ren_row, List.drop_succ_cons, List.drop_zero, List.map_cons, List.map_nil, Option.map_some, Option.map_none, List.length_cons, List.length_nil, Nat.zero_add, List.append_assoc, List.cons_append, List.nil_append]; rfl)) rfl ?_
  refine AWops.nil ?_
  refine AW.seq ?_
  refine AW.region ?_
  refine s_load1 (c' := (C.own 3 0 r1.2.length 14)) F.ag_34 rfl rfl ?_
  refine s_assign (d := (D.one (C.own 3 0 r1.2.length 14))) rfl ?_
  refine AWops.nil ?_
  refine AW.ret ?_
  obtain rfl := Option.some.inj h
  exact ⟨_, rfl, (Weak.gen (kk := 0) [3] [] rfl rfl (by decide) (by decide) rfl rfl rfl (le_upd (le_top _) (.t (.one (.own rfl)))) (All2.cons (.cells (fun h => h) (all2_row _)) All2.nil))⟩
end Go.Abs.GenR
