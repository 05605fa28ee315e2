import Derived.Test.YtiegaebmhpdnmaaGenRdb
set_option linter.unusedVariables false
set_option linter.unusedSimpArgs false
set_option maxRecDepth 100000
set_option maxHeartbeats 4000000
namespace Go.Abs.GenRd
open Go.Abs Go.Proofs
mutual
def dossierref03_Disk_Crash_44.j1 : Nat → Int → dossierref03_Disk → (List Int) → (List dossierref03_File) → Int → dossierref03_File → Option dossierref03_Disk
 | 0, _, _, _, _, _, _ => none
 | k + 1, x8, p0, a1, x1, x2, v4 => if (decide (0 ≤ 0 ∧ 0 ≤ (IntKind.i64.wrap (v4.Sure + x8)) ∧ (IntKind.i64.wrap (v4.Sure + x8)) ≤ (v4.B.length : Int))) = true then (if (decide (([] : List Int).length + (sub v4.B 0 (IntKind.i64.wrap (v4.Sure + x8))).length ≤ 140737488355328)) = true then (if (decide (x1.length + ([(⟨v4.Name, sub v4.B 0 (IntKind.i64.wrap (v4.Sure + x8)), ((sub v4.B 0 (IntKind.i64.wrap (v4.Sure + x8))).length : Int)⟩ : dossierref03_File)] : List dossierref03_File).length ≤ 2932031007402)) = true then (dossierref03_Disk_Crash_44.l0 k (x1 ++ ([(⟨v4.Name, sub v4.B 0 (IntKind.i64.wrap (v4.Sure + x8)), ((sub v4.B 0 (IntKind.i64.wrap (v4.Sure + x8))).length : Int)⟩ : dossierref03_File)] : List dossierref03_File)) (IntKind.i64.wrap (x2 + 1)) p0 a1) else none) else none) else none
def dossierref03_Disk_Crash_44.l0 : Nat → (List dossierref03_File) → Int → dossierref03_Disk → (List Int) → Option dossierref03_Disk
 | 0, _, _, _, _ => none
 | k + 1, x1, x2, p0, a1 => if (decide (x2 < (p0.L.length : Int))) = true then ((rd p0.L x2).bind fun v4 => if (decide (x2 < (a1.length : Int))) = true then ((rd a1 x2).bind fun v7 => dossierref03_Disk_Crash_44.j1 k (if (if (IntKind.i64.wrap ((v4.B.length : Int) - v4.Sure)) < v7 then (IntKind.i64.wrap ((v4.B.length : Int) - v4.Sure)) else v7) > 0 then (if (IntKind.i64.wrap ((v4.B.length : Int) - v4.Sure)) < v7 then (IntKind.i64.wrap ((v4.B.length : Int) - v4.Sure)) else v7) else 0) p0 a1 x1 x2 v4) else (dossierref03_Disk_Crash_44.j1 k 0 p0 a1 x1 x2 v4)) else (some (⟨x1, p0.Most, (-1), false⟩ : dossierref03_Disk))
end
def dossierref03_Disk_Crash_44.f (k : Nat) (p0 : dossierref03_Disk) (a1 : List Int) : Option dossierref03_Disk := dossierref03_Disk_Crash_44.l0 k ([] : List dossierref03_File) 0 p0 a1
theorem dossierref03_Disk_Crash_44.meets (k : Nat) (p0 : dossierref03_Disk) (a1 : List Int) (r : dossierref03_Disk) (h : dossierref03_Disk_Crash_44.f k p0 a1 = some r) : Meets Try.prog 44 [(rf 0 0), (D.one (C.p false (.sl a1.length (a1.flatMap e_i64))))] [(o_dossierref03_Disk_0 false (C.own 1 0 p0.L.length 3) p0), (or_ e_dossierref03_File p0.L)] (D.tup []) [(o_dossierref03_Disk_0 false (C.own 2 0 r.L.length 3) r), none, (or_ e_dossierref03_File r.L)] := by
 unfold dossierref03_Disk_Crash_44.f at h
 refine Meets.of_body (n := 64) Try.func44 rfl rfl (nl rfl) fun x hx => ?_
 replace hx : x.k = 2 := hx
 show AW _ x _ _ ⟨64, fr0 [(rf 0 0), (D.one (C.p false (.sl a1.length (a1.flatMap e_i64))))], [(o_dossierref03_Disk_0 false (C.own 1 0 p0.L.length 3) p0), (or_ e_dossierref03_File p0.L)]⟩
 refine AW.weak (st' := ⟨64, (upd 64 (upd 64 topF 0 (rf 0 0)) 1 (D.one (C.p false (.sl a1.length (a1.flatMap e_i64))))), [(o_dossierref03_Disk_0 false (C.own 2 0 p0.L.length 3) p0), none, (or_ e_dossierref03_File p0.L)]⟩) (Weak.genL (kk := 2) [0, 1, 1] [] hx rfl (by decide) rfl rfl rfl rfl (le_upd (le_upd (le_top _) (o1 (.ref rfl))) (o1 .same)) (ac (qo rfl) (ac (.none _) (ac (.cells id (all2_row _)) an)))) (AW.seq (AW.region ?_))
 refine s_assign (d := (sc (.slice none 0 0))) rfl (AWops.nil (AW.seq (AW.seq (AW.region ?_))))
 refine s_move (d := (rf 0 0)) rfl (s_nilCheck (d := (rf 0 0)) rfl (.inl ⟨_, _, rfl⟩) (s_fieldRef F.fo_72_0 (by decide) rfl (s_load1 (c' := (C.own 2 0 p0.L.length 3)) F.ag_70 rfl rfl (s_len (n := p0.L.length) F.u_70 rfl (.inr ⟨(fun _ _ h => by cases h), ⟨_, rfl⟩⟩) (s_move (d := (si 0)) rfl (AWops.nil (AW.block ?_)))))))
 refine AW.loopw (st0 := ⟨64, (upd 64 (upd 64 (upd 64 (upd 64 (upd 64 (upd 64 topF 0 (rf 0 0)) 1 (D.one (C.p false (.sl a1.length (a1.flatMap e_i64))))) 4 (D.one (C.own 2 0 ([] : List dossierref03_File).length 3))) 12 (D.one (C.own 3 0 p0.L.length 3))) 13 (si (p0.L.length : Int))) 14 (si 0)), [(o_dossierref03_Disk_0 false (C.own 3 0 p0.L.length 3) p0), none, (some (AObj.cells true (rowC e_dossierref03_File ([] : List dossierref03_File)))), (or_ e_dossierref03_File p0.L)]⟩) (fun kv st => kv ≤ k ∧ ∃ (x1 : List dossierref03_File) (x2 : Int), dossierref03_Disk_Crash_44.l0 kv x1 x2 p0 a1 = some r ∧ st = ⟨64, (upd 64 (upd 64 (upd 64 (upd 64 (upd 64 (upd 64 topF 0 (rf 0 0)) 1 (D.one (C.p false (.sl a1.length (a1.flatMap e_i64))))) 4 (D.one (C.own 2 0 x1.length 3))) 12 (D.one (C.own 3 0 p0.L.length 3))) 13 (si (p0.L.length : Int))) 14 (si x2)), [(o_dossierref03_Disk_0 false (C.own 3 0 p0.L.length 3) p0), none, (ow_ e_dossierref03_File x1), (or_ e_dossierref03_File p0.L)]⟩) (k := k) (Weak.trans (Weak.nil (sz := 3) (i := 4) rfl) (wg 2 [0, 1, 3, 2] [] hx (le_upd (le_upd (le_upd (le_upd (le_upd (le_upd (le_top _) (o1 (.ref rfl))) (o1 .same)) (o1 (.own rfl))) (o1 (.own rfl))) (o1 .sc)) (o1 .sc)) (ac (qo rfl) (ac (.none _) (ac (.cells (fun _ => rfl) an) (ac (.cells id (all2_row _)) an)))))) ⟨Nat.le_refl _, ([] : List dossierref03_File), 0, h, rfl⟩ ?_
 rintro ql0 st ⟨hkl0, x1, x2, h, rfl⟩
 cases ql0 with
 | zero => exact absurd h (by simp [dossierref03_Disk_Crash_44.l0])
 | succ ql0 =>
  replace h := (dossierref03_Disk_Crash_44.l0.eq_2 _ _ _ _ _).symm.trans h
  refine AW.seq (AW.region ?_)
  refine s_binI (v := (.bool (decide (x2 < (p0.L.length : Int))))) rfl rfl rfl (AWops.nil (AW.seq ?_))
  rcases itH h with ⟨c3, h⟩ | ⟨c3, h⟩
  ·refine AW.cond_yes rfl c3 (AW.skip (AW.seq (AW.block (AW.seq (AW.region ?_)))))
   refine s_move (d := (si x2)) rfl ?_
   obtain ⟨v4, ev4, h⟩ := bnd h
   obtain ⟨pv4, qv4, gv4⟩ := rd_some ev4
   refine s_indexOwn (d := (D.one (C.ref 3 (0 + x2.toNat * 3)))) F.u_70 F.sz_82 rfl rfl pv4 qv4 rfl ?_
   obtain ⟨R5, hR5⟩ := row_at (f := e_dossierref03_File) (sz := 3) (o := 0) e_dossierref03_File_len gv4 (e_dossierref03_File_eq v4) (by decide)
   refine s_loadN (ds := (c_dossierref03_File v4)) F.ag_82 F.sz_82 (congrArg some hR5) rfl rfl (s_alloc (cs := [(ct (⟨#[]⟩ : ByteArray)), (C.p true (.v (.slice none 0 0))), (ci 0)]) F.z_82 rfl rfl (s_assign (d := (si x2)) rfl (s_store (cs' := (c_dossierref03_File v4)) rfl rfl rfl (List.cons_ne_nil _ _) rfl F.sz_82 (nl rfl) rfl (AWops.nil (AW.seq (AW.region (s_assign (d := (si 0)) rfl (AWops.nil ?_))))))))
   refine AW.seqJ (fun st => ∃ (x8 : Int), dossierref03_Disk_Crash_44.j1 ql0 x8 p0 a1 x1 x2 v4 = some r ∧ st = ⟨64, (upd 64 (upd 64 (upd 64 (upd 64 (upd 64 (upd 64 (upd 64 (upd 64 topF 0 (rf 0 0)) 1 (D.one (C.p false (.sl a1.length (a1.flatMap e_i64))))) 4 (D.one (C.own 2 0 x1.length 3))) 6 (rf 3 0)) 7 (si x8)) 12 (D.one (C.own 4 0 p0.L.length 3))) 13 (si (p0.L.length : Int))) 14 (si x2)), [(o_dossierref03_Disk_0 false (C.own 4 0 p0.L.length 3) p0), none, (ow_ e_dossierref03_File x1), (some (AObj.cells true (c_dossierref03_File v4))), (or_ e_dossierref03_File p0.L)]⟩) ?_ ?_
   ·refine AW.seq (AW.region ?_)
    refine s_move (d := (si x2)) rfl (s_move (d := (D.one (C.p false (.sl a1.length (a1.flatMap e_i64))))) rfl (s_len (n := a1.length) F.u_24 rfl (.inr ⟨(fun _ _ h => by cases h), ⟨_, rfl⟩⟩) (s_binI (v := (.bool (decide (x2 < (a1.length : Int))))) rfl rfl rfl (AWops.nil ?_))))
    rcases itH h with ⟨c6, h⟩ | ⟨c6, h⟩
    ·refine AW.cond_yes rfl c6 ?_
     refine AW.weak (st' := ⟨64, (upd 64 (upd 64 (upd 64 (upd 64 (upd 64 (upd 64 (upd 64 (upd 64 (upd 64 topF 0 (rf 0 0)) 1 (D.one (C.p false (.sl a1.length (a1.flatMap e_i64))))) 4 (D.one (C.own 2 0 x1.length 3))) 5 (si x2)) 6 (rf 3 0)) 7 (si 0)) 12 (D.one (C.own 4 0 p0.L.length 3))) 13 (si (p0.L.length : Int))) 14 (si x2)), [(o_dossierref03_Disk_0 false (C.own 4 0 p0.L.length 3) p0), none, (ow_ e_dossierref03_File x1), (some (AObj.cells true (c_dossierref03_File v4))), (or_ e_dossierref03_File p0.L)]⟩) (wg 2 [0, 1, 2, 4, 3] [] hx (le_upd (le_upd (le_upd (le_upd (le_upd (le_upd (le_upd (le_upd (le_upd (le_top _) (o1 (.ref rfl))) (o1 .same)) (o1 (.own rfl))) (o1 .sc)) (o1 (.ref rfl))) (o1 .sc)) (o1 (.own rfl))) (o1 .sc)) (o1 .sc)) (ac (qo rfl) (ac (.none _) (ac (.cells (fun _ => rfl) (all2_row _)) (ac (.cells (fun _ => rfl) (ac .sc (ac .same (ac .sc an)))) (ac (.cells id (all2_row _)) an)))))) ?_
     obtain ⟨v7, ev7, h⟩ := bnd h
     obtain ⟨pv7, qv7, gv7⟩ := rd_some ev7
     refine AW.draw (n := 64) (L := 5) [(ft 0 23 (D.one (C.p false (.sl a1.length (a1.flatMap e_i64)))) [(1, (D.one (C.p false (.sl a1.length (a1.flatMap e_i64)))))]), (ft 1 24 (si x2) [(5, (si x2))]), (ft 2 25 (D.one (C.peek false [P.v (.int .i64 v7)])) [(23, (D.one (C.p false (.sl a1.length (a1.flatMap e_i64))))), (24, (si x2))]), (ft 3 26 (si v7) [(25, (D.one (C.peek false [P.v (.int .i64 v7)])))]), (ft 4 27 (rf 3 1) [(6, (rf 3 0))]), (5, ⟨some 28, (D.one (C.p false (.sl v4.B.length (v4.B.flatMap e_u8)))), [(27, (rf 3 1))], [(3, (some (AObj.cells true (c_dossierref03_File v4))))], [], none⟩), (ft 6 29 (si (v4.B.length : Int)) [(28, (D.one (C.p false (.sl v4.B.length (v4.B.flatMap e_u8)))))]), (ft 7 30 (rf 3 2) [(6, (rf 3 0))]), (8, ⟨some 31, (si v4.Sure), [(30, (rf 3 2))], [(3, (some (AObj.cells true (c_dossierref03_File v4))))], [], none⟩), (ft 9 32 (si (IntKind.i64.wrap ((v4.B.length : Int) - v4.Sure))) [(29, (si (v4.B.length : Int))), (31, (si v4.Sure))]), (ft 10 33 (si (if (IntKind.i64.wrap ((v4.B.length : Int) - v4.Sure)) < v7 then (IntKind.i64.wrap ((v4.B.length : Int) - v4.Sure)) else v7)) [(26, (si v7)), (32, (si (IntKind.i64.wrap ((v4.B.length : Int) - v4.Sure))))]), (ft 11 34 (si (if (if (IntKind.i64.wrap ((v4.B.length : Int) - v4.Sure)) < v7 then (IntKind.i64.wrap ((v4.B.length : Int) - v4.Sure)) else v7) > 0 then (if (IntKind.i64.wrap ((v4.B.length : Int) - v4.Sure)) < v7 then (IntKind.i64.wrap ((v4.B.length : Int) - v4.Sure)) else v7) else 0)) [(33, (si (if (IntKind.i64.wrap ((v4.B.length : Int) - v4.Sure)) < v7 then (IntKind.i64.wrap ((v4.B.length : Int) - v4.Sure)) else v7)))]), (ft 12 7 (si (if (if (IntKind.i64.wrap ((v4.B.length : Int) - v4.Sure)) < v7 then (IntKind.i64.wrap ((v4.B.length : Int) - v4.Sure)) else v7) > 0 then (if (IntKind.i64.wrap ((v4.B.length : Int) - v4.Sure)) < v7 then (IntKind.i64.wrap ((v4.B.length : Int) - v4.Sure)) else v7) else 0)) [(34, (si (if (if (IntKind.i64.wrap ((v4.B.length : Int) - v4.Sure)) < v7 then (IntKind.i64.wrap ((v4.B.length : Int) - v4.Sure)) else v7) > 0 then (if (IntKind.i64.wrap ((v4.B.length : Int) - v4.Sure)) < v7 then (IntKind.i64.wrap ((v4.B.length : Int) - v4.Sure)) else v7) else 0)))])] [[], [], [0, 1], [0, 1, 2], [], [4], [4, 5], [], [7], [4, 5, 6, 7, 8], (.range 10), (.range 11), (.range 12)] (nl rfl) [0, 0, 1, 2, 0, 1, 2, 0, 1, 3, 4, 5, 6] rfl (TK := []) rfl AllK.nil' (by repeat (first | refine fC ⟨?_, ?_⟩ ?_ | refine sC rfl ?_ | refine hC rfl ?_ | trivial)) ?_ ?_
     ·refine y8 ?_ ?_ ?_ ?_ ?_ ?_ ?_ ?_ (y4 ?_ ?_ ?_ ?_ (pC ?_ yN))
      ·intro K _ f w u k
       show Wp K ⟨64, (upd 64 f 1 (D.one (C.p false (.sl a1.length (a1.flatMap e_i64))))), _⟩
       refine s_move (d := (D.one (C.p false (.sl a1.length (a1.flatMap e_i64))))) rfl k
      ·intro K _ f w u k
       show Wp K ⟨64, (upd 64 f 5 (si x2)), _⟩
       refine s_move (d := (si x2)) rfl k
      ·intro K _ f w u k
       show Wp K ⟨64, (upd 64 (upd 64 f 24 (si x2)) 23 (D.one (C.p false (.sl a1.length (a1.flatMap e_i64))))), [_, _, _, _, _]⟩
       refine s_indexImm (ps := [P.v (.int .i64 v7)]) F.u_24 F.sz_3 rfl rfl pv7 qv7 (flat_at e_i64_len gv7 (e_i64_eq v7)) k
      ·intro K _ f w u k
       show Wp K ⟨64, (upd 64 f 25 (D.one (C.peek false [P.v (.int .i64 v7)]))), [_, _, _, _, _]⟩
       refine s_load1 (c' := (ci v7)) F.ag_3 rfl rfl k
      ·intro K _ f w u k
       show Wp K ⟨64, (upd 64 f 6 (rf 3 0)), [_, _, _, _, _]⟩
       refine s_fieldRef F.fo_82_1 (by decide) rfl k
      ·intro K _ f w u k
       show Wp K ⟨64, (upd 64 f 27 (rf 3 1)), [_, _, _, (some (AObj.cells true (c_dossierref03_File v4))), _]⟩
       refine s_load1 (c' := (C.p false (.sl v4.B.length (v4.B.flatMap e_u8)))) F.ag_22 rfl rfl k
      ·intro K _ f w u k
       show Wp K ⟨64, (upd 64 f 28 (D.one (C.p false (.sl v4.B.length (v4.B.flatMap e_u8))))), [_, _, _, _, _]⟩
       refine s_len (n := v4.B.length) F.u_22 rfl (.inr ⟨(fun _ _ h => by cases h), ⟨_, rfl⟩⟩) k
      ·intro K _ f w u k
       show Wp K ⟨64, (upd 64 f 6 (rf 3 0)), [_, _, _, _, _]⟩
       refine s_fieldRef F.fo_82_2 (by decide) rfl k
      ·intro K _ f w u k
       show Wp K ⟨64, (upd 64 f 30 (rf 3 2)), [_, _, _, (some (AObj.cells true (c_dossierref03_File v4))), _]⟩
       refine s_load1 (c' := (ci v4.Sure)) F.ag_3 rfl rfl k
      ·intro K _ f w u k
       show Wp K ⟨64, (upd 64 (upd 64 f 31 (si v4.Sure)) 29 (si (v4.B.length : Int))), _⟩
       refine s_binI (v := (.int .i64 (IntKind.i64.wrap ((v4.B.length : Int) - v4.Sure)))) rfl rfl rfl k
      ·intro K _ f w u k
       show Wp K ⟨64, (upd 64 (upd 64 f 32 (si (IntKind.i64.wrap ((v4.B.length : Int) - v4.Sure)))) 26 (si v7)), [_, _, _, _, _]⟩
       refine s_min2 (r := (if (IntKind.i64.wrap ((v4.B.length : Int) - v4.Sure)) < v7 then (IntKind.i64.wrap ((v4.B.length : Int) - v4.Sure)) else v7)) rfl rfl rfl k
      ·intro K _ f w u k
       show Wp K ⟨64, (upd 64 f 33 (si (if (IntKind.i64.wrap ((v4.B.length : Int) - v4.Sure)) < v7 then (IntKind.i64.wrap ((v4.B.length : Int) - v4.Sure)) else v7))), [_, _, _, _, _]⟩
       refine s_max2 (r := (if (if (IntKind.i64.wrap ((v4.B.length : Int) - v4.Sure)) < v7 then (IntKind.i64.wrap ((v4.B.length : Int) - v4.Sure)) else v7) > 0 then (if (IntKind.i64.wrap ((v4.B.length : Int) - v4.Sure)) < v7 then (IntKind.i64.wrap ((v4.B.length : Int) - v4.Sure)) else v7) else 0)) rfl rfl rfl k
      ·intro K _ f w u k
       show Wp K ⟨64, (upd 64 f 34 (si (if (if (IntKind.i64.wrap ((v4.B.length : Int) - v4.Sure)) < v7 then (IntKind.i64.wrap ((v4.B.length : Int) - v4.Sure)) else v7) > 0 then (if (IntKind.i64.wrap ((v4.B.length : Int) - v4.Sure)) < v7 then (IntKind.i64.wrap ((v4.B.length : Int) - v4.Sure)) else v7) else 0))), _⟩
       refine s_assign (d := (si (if (if (IntKind.i64.wrap ((v4.B.length : Int) - v4.Sure)) < v7 then (IntKind.i64.wrap ((v4.B.length : Int) - v4.Sure)) else v7) > 0 then (if (IntKind.i64.wrap ((v4.B.length : Int) - v4.Sure)) < v7 then (IntKind.i64.wrap ((v4.B.length : Int) - v4.Sure)) else v7) else 0))) rfl k
     ·refine AWops.weak (st' := ⟨64, (upd 64 (upd 64 (upd 64 (upd 64 (upd 64 (upd 64 (upd 64 (upd 64 topF 0 (rf 0 0)) 1 (D.one (C.p false (.sl a1.length (a1.flatMap e_i64))))) 4 (D.one (C.own 2 0 x1.length 3))) 6 (rf 3 0)) 7 (si (if (if (IntKind.i64.wrap ((v4.B.length : Int) - v4.Sure)) < v7 then (IntKind.i64.wrap ((v4.B.length : Int) - v4.Sure)) else v7) > 0 then (if (IntKind.i64.wrap ((v4.B.length : Int) - v4.Sure)) < v7 then (IntKind.i64.wrap ((v4.B.length : Int) - v4.Sure)) else v7) else 0))) 12 (D.one (C.own 4 0 p0.L.length 3))) 13 (si (p0.L.length : Int))) 14 (si x2)), [(o_dossierref03_Disk_0 false (C.own 4 0 p0.L.length 3) p0), none, (ow_ e_dossierref03_File x1), (some (AObj.cells true (c_dossierref03_File v4))), (or_ e_dossierref03_File p0.L)]⟩) (wg 2 [0, 1, 2, 3, 4] [] hx (le_upd (le_upd (le_upd (le_upd (le_upd (le_upd (le_upd (le_upd (le_top _) (o1 (.ref rfl))) (o1 .same)) (o1 (.own rfl))) (o1 (.ref rfl))) (o1 .sc)) (o1 (.own rfl))) (o1 .sc)) (o1 .sc)) (ac (qo rfl) (ac (.none _) (ac (.cells (fun _ => rfl) (all2_row _)) (ac (.cells (fun _ => rfl) (ac .sc (ac .same (ac .sc an)))) (ac (.cells id (all2_row _)) an)))))) (AWops.nil ?_)
      exact ⟨⟨64, (upd 64 (upd 64 (upd 64 (upd 64 (upd 64 (upd 64 (upd 64 (upd 64 topF 0 (rf 0 0)) 1 (D.one (C.p false (.sl a1.length (a1.flatMap e_i64))))) 4 (D.one (C.own 2 0 x1.length 3))) 6 (rf 3 0)) 7 (si (if (if (IntKind.i64.wrap ((v4.B.length : Int) - v4.Sure)) < v7 then (IntKind.i64.wrap ((v4.B.length : Int) - v4.Sure)) else v7) > 0 then (if (IntKind.i64.wrap ((v4.B.length : Int) - v4.Sure)) < v7 then (IntKind.i64.wrap ((v4.B.length : Int) - v4.Sure)) else v7) else 0))) 12 (D.one (C.own 4 0 p0.L.length 3))) 13 (si (p0.L.length : Int))) 14 (si x2)), [(o_dossierref03_Disk_0 false (C.own 4 0 p0.L.length 3) p0), none, (ow_ e_dossierref03_File x1), (some (AObj.cells true (c_dossierref03_File v4))), (or_ e_dossierref03_File p0.L)]⟩, (wg 2 [0, 1, 2, 3, 4] [] hx (le_upd (le_upd (le_upd (le_upd (le_upd (le_upd (le_upd (le_upd (le_top _) (o1 (.ref rfl))) (o1 .same)) (o1 (.own rfl))) (o1 (.ref rfl))) (o1 .sc)) (o1 (.own rfl))) (o1 .sc)) (o1 .sc)) (ac (qo rfl) (ac (.none _) (ac (.cells (fun _ => rfl) (all2_row _)) (ac (.cells (fun _ => rfl) (ac .sc (ac .same (ac .sc an)))) (ac (.cells id (all2_row _)) an)))))), (if (if (IntKind.i64.wrap ((v4.B.length : Int) - v4.Sure)) < v7 then (IntKind.i64.wrap ((v4.B.length : Int) - v4.Sure)) else v7) > 0 then (if (IntKind.i64.wrap ((v4.B.length : Int) - v4.Sure)) < v7 then (IntKind.i64.wrap ((v4.B.length : Int) - v4.Sure)) else v7) else 0), h, rfl⟩
    ·refine AW.cond_no rfl c6 (AW.skip ?_)
     exact ⟨⟨64, (upd 64 (upd 64 (upd 64 (upd 64 (upd 64 (upd 64 (upd 64 (upd 64 topF 0 (rf 0 0)) 1 (D.one (C.p false (.sl a1.length (a1.flatMap e_i64))))) 4 (D.one (C.own 2 0 x1.length 3))) 6 (rf 3 0)) 7 (si 0)) 12 (D.one (C.own 4 0 p0.L.length 3))) 13 (si (p0.L.length : Int))) 14 (si x2)), [(o_dossierref03_Disk_0 false (C.own 4 0 p0.L.length 3) p0), none, (ow_ e_dossierref03_File x1), (some (AObj.cells true (c_dossierref03_File v4))), (or_ e_dossierref03_File p0.L)]⟩, (wg 2 [0, 1, 2, 4, 3] [] hx (le_upd (le_upd (le_upd (le_upd (le_upd (le_upd (le_upd (le_upd (le_top _) (o1 (.ref rfl))) (o1 .same)) (o1 (.own rfl))) (o1 (.ref rfl))) (o1 .sc)) (o1 (.own rfl))) (o1 .sc)) (o1 .sc)) (ac (qo rfl) (ac (.none _) (ac (.cells (fun _ => rfl) (all2_row _)) (ac (.cells (fun _ => rfl) (ac .sc (ac .same (ac .sc an)))) (ac (.cells id (all2_row _)) an)))))), 0, h, rfl⟩
   ·rintro st ⟨x8, h, rfl⟩
    cases ql0 with
    | zero => exact absurd h (by simp [dossierref03_Disk_Crash_44.j1])
    | succ qj1 =>
     replace h := (dossierref03_Disk_Crash_44.j1.eq_2 _ _ _ _ _ _ _).symm.trans h
     refine AW.seq (AW.region ?_)
     refine s_buildSlice (n := 0) (ps := []) (cs := rowC e_u8 ([] : List Int)) F.u_22 F.sz_5 F.z_5 rfl rfl (by decide) (by decide) rfl rfl (s_fieldRef F.fo_82_1 (by decide) rfl (s_load1 (c' := (C.p false (.sl v4.B.length (v4.B.flatMap e_u8)))) F.ag_22 rfl rfl (s_fieldRef F.fo_82_2 (by decide) rfl (s_load1 (c' := (ci v4.Sure)) F.ag_3 rfl rfl (s_move (d := (si x8)) rfl ?_)))))
     refine s_binI (v := (.int .i64 (IntKind.i64.wrap (v4.Sure + x8)))) rfl rfl rfl ?_
     obtain ⟨c9, h⟩ := gdH h
     have dc9 := of_decide_eq_true c9
     refine t_sliceImm (a := 0) (b := IntKind.i64.wrap (v4.Sure + x8)) F.u_22 F.sz_5 e_u8_len rfl (by omega) (by omega) (by omega) .no (.yes rfl (by omega) rfl) ?_
     obtain ⟨c10, h⟩ := gdH h
     have dc10 := of_decide_eq_true c10
     refine t_append (xs := ([] : List Int)) (ys := sub v4.B 0 (IntKind.i64.wrap (v4.Sure + x8))) (zs := sub v4.B 0 (IntKind.i64.wrap (v4.Sure + x8))) (H' := [(o_dossierref03_Disk_0 false (C.own 4 0 p0.L.length 3) p0), none, (ow_ e_dossierref03_File x1), (some (AObj.cells true (c_dossierref03_File v4))), (or_ e_dossierref03_File p0.L), none, (some (AObj.cells true (rowC e_u8 (sub v4.B 0 (IntKind.i64.wrap (v4.Sure + x8))))))]) F.u_22 F.in_5 rfl e_u8_len (.own rfl rfl) .imm F.u_22 (by omega) (by omega) rfl rfl (s_assign (d := (D.one (C.own 6 0 ((sub v4.B 0 (IntKind.i64.wrap (v4.Sure + x8))).length) 1))) rfl (AWops.nil (AW.region (s_move (d := (D.one (C.own 2 0 x1.length 3))) rfl (s_fieldRef F.fo_82_0 (by decide) rfl (s_load1 (c' := (ct v4.Name)) F.ag_9 rfl rfl (s_move (d := (D.one (C.own 6 0 ((sub v4.B 0 (IntKind.i64.wrap (v4.Sure + x8))).length) 1))) rfl ?_)))))))
     refine s_move (d := (D.one (C.own 6 0 ((sub v4.B 0 (IntKind.i64.wrap (v4.Sure + x8))).length) 1))) rfl (s_len (n := (sub v4.B 0 (IntKind.i64.wrap (v4.Sure + x8))).length) F.u_22 rfl (.inr ⟨(fun _ _ h => by cases h), ⟨_, rfl⟩⟩) (s_build (ps := [(0, (st_ v4.Name)), (1, (D.one (C.own 6 0 ((sub v4.B 0 (IntKind.i64.wrap (v4.Sure + x8))).length) 1))), (2, (si ((sub v4.B 0 (IntKind.i64.wrap (v4.Sure + x8))).length : Int)))]) (cs := [(ct v4.Name), (C.own 6 0 ((sub v4.B 0 (IntKind.i64.wrap (v4.Sure + x8))).length) 1), (ci ((sub v4.B 0 (IntKind.i64.wrap (v4.Sure + x8))).length : Int))]) F.z_82 rfl F.so_82 rfl rfl ?_))
     refine AWops.weak (st' := ⟨64, (upd 64 (upd 64 (upd 64 (upd 64 (upd 64 (upd 64 (upd 64 (upd 64 (upd 64 (upd 64 (upd 64 (upd 64 (upd 64 (upd 64 (upd 64 (upd 64 (upd 64 (upd 64 (upd 64 (upd 64 (upd 64 (upd 64 (upd 64 (upd 64 topF 0 (rf 0 0)) 1 (D.one (C.p false (.sl a1.length (a1.flatMap e_i64))))) 4 (D.one (C.own 2 0 x1.length 3))) 6 (rf 3 0)) 7 (si x8)) 8 (D.one (C.p false (.sl (sub v4.B 0 (IntKind.i64.wrap (v4.Sure + x8))).length ((sub v4.B 0 (IntKind.i64.wrap (v4.Sure + x8))).flatMap e_u8))))) 12 (D.one (C.own 4 0 p0.L.length 3))) 13 (si (p0.L.length : Int))) 14 (si x2)) 36 (rf 3 1)) 37 (D.one (C.p false (.sl v4.B.length (v4.B.flatMap e_u8))))) 38 (rf 3 2)) 39 (si v4.Sure)) 40 (si x8)) 41 (si (IntKind.i64.wrap (v4.Sure + x8)))) 42 (D.one (C.p false (.sl (sub v4.B 0 (IntKind.i64.wrap (v4.Sure + x8))).length ((sub v4.B 0 (IntKind.i64.wrap (v4.Sure + x8))).flatMap e_u8))))) 43 (D.one (C.p false (.sl (sub v4.B 0 (IntKind.i64.wrap (v4.Sure + x8))).length ((sub v4.B 0 (IntKind.i64.wrap (v4.Sure + x8))).flatMap e_u8))))) 44 (D.one (C.own 2 0 x1.length 3))) 45 (rf 3 0)) 46 (st_ v4.Name)) 47 (D.one (C.p false (.sl (sub v4.B 0 (IntKind.i64.wrap (v4.Sure + x8))).length ((sub v4.B 0 (IntKind.i64.wrap (v4.Sure + x8))).flatMap e_u8))))) 48 (D.one (C.p false (.sl (sub v4.B 0 (IntKind.i64.wrap (v4.Sure + x8))).length ((sub v4.B 0 (IntKind.i64.wrap (v4.Sure + x8))).flatMap e_u8))))) 49 (si ((sub v4.B 0 (IntKind.i64.wrap (v4.Sure + x8))).length : Int))) 50 (D.agg [(ct v4.Name), (C.p false (.sl (sub v4.B 0 (IntKind.i64.wrap (v4.Sure + x8))).length ((sub v4.B 0 (IntKind.i64.wrap (v4.Sure + x8))).flatMap e_u8))), (ci ((sub v4.B 0 (IntKind.i64.wrap (v4.Sure + x8))).length : Int))])), [(o_dossierref03_Disk_0 false (C.own 4 0 p0.L.length 3) p0), none, (ow_ e_dossierref03_File x1), (some (AObj.cells true (c_dossierref03_File v4))), (or_ e_dossierref03_File p0.L)]⟩) (wg 2 [0, 1, 2, 3, 4] [6] hx (le_upd (le_upd (le_upd (le_upd (le_upd (le_upd (le_upd (le_upd (le_upd (le_upd (le_upd (le_upd (le_upd (le_upd (le_upd (le_upd (le_upd (le_upd (le_upd (le_upd (le_upd (le_upd (le_upd (le_upd (le_top _) (o1 (.ref rfl))) (o1 .same)) (o1 (.own rfl))) (o1 (.ref rfl))) (o1 .sc)) (o1 (CLe.frz e_u8_len rfl rfl rfl))) (o1 (.own rfl))) (o1 .sc)) (o1 .sc)) (o1 (.ref rfl))) (o1 .same)) (o1 (.ref rfl))) (o1 .sc)) (o1 .sc)) (o1 .sc)) (o1 .same)) (o1 (CLe.frz e_u8_len rfl rfl rfl))) (o1 (.own rfl))) (o1 (.ref rfl))) (o1 .sc)) (o1 (CLe.frz e_u8_len rfl rfl rfl))) (o1 (CLe.frz e_u8_len rfl rfl rfl))) (o1 .sc)) (.t (.agg (ac .sc (ac (CLe.frz e_u8_len rfl rfl rfl) (ac .sc an)))))) (ac (qo rfl) (ac (.none _) (ac (.cells (fun _ => rfl) (all2_row _)) (ac (.cells (fun _ => rfl) (ac .sc (ac .same (ac .sc an)))) (ac (.cells id (all2_row _)) an)))))) ?_
     refine s_buildSlice (n := 1) (ps := [(0, (D.agg [(ct v4.Name), (C.p false (.sl (sub v4.B 0 (IntKind.i64.wrap (v4.Sure + x8))).length ((sub v4.B 0 (IntKind.i64.wrap (v4.Sure + x8))).flatMap e_u8))), (ci ((sub v4.B 0 (IntKind.i64.wrap (v4.Sure + x8))).length : Int))]))]) (cs := rowC e_dossierref03_File ([(⟨v4.Name, sub v4.B 0 (IntKind.i64.wrap (v4.Sure + x8)), ((sub v4.B 0 (IntKind.i64.wrap (v4.Sure + x8))).length : Int)⟩ : dossierref03_File)] : List dossierref03_File)) F.u_70 F.sz_82 F.z_82 rfl rfl (by decide) (by decide) rfl rfl ?_
     obtain ⟨c11, h⟩ := gdH h
     have dc11 := of_decide_eq_true c11
     refine t_append (xs := x1) (ys := ([(⟨v4.Name, sub v4.B 0 (IntKind.i64.wrap (v4.Sure + x8)), ((sub v4.B 0 (IntKind.i64.wrap (v4.Sure + x8))).length : Int)⟩ : dossierref03_File)] : List dossierref03_File)) (zs := x1 ++ ([(⟨v4.Name, sub v4.B 0 (IntKind.i64.wrap (v4.Sure + x8)), ((sub v4.B 0 (IntKind.i64.wrap (v4.Sure + x8))).length : Int)⟩ : dossierref03_File)] : List dossierref03_File)) (H' := [(o_dossierref03_Disk_0 false (C.own 4 0 p0.L.length 3) p0), none, none, (some (AObj.cells true (c_dossierref03_File v4))), (or_ e_dossierref03_File p0.L), (some (AObj.cells true (rowC e_dossierref03_File ([(⟨v4.Name, sub v4.B 0 (IntKind.i64.wrap (v4.Sure + x8)), ((sub v4.B 0 (IntKind.i64.wrap (v4.Sure + x8))).length : Int)⟩ : dossierref03_File)] : List dossierref03_File)))), (some (AObj.cells true (rowC e_dossierref03_File (x1 ++ ([(⟨v4.Name, sub v4.B 0 (IntKind.i64.wrap (v4.Sure + x8)), ((sub v4.B 0 (IntKind.i64.wrap (v4.Sure + x8))).length : Int)⟩ : dossierref03_File)] : List dossierref03_File)))))]) F.u_70 F.in_82 rfl e_dossierref03_File_len (.own rfl rfl) (.own rfl rfl) F.u_70 (by omega) (by omega) rfl rfl (s_assign (d := (D.one (C.own 6 0 ((x1 ++ ([(⟨v4.Name, sub v4.B 0 (IntKind.i64.wrap (v4.Sure + x8)), ((sub v4.B 0 (IntKind.i64.wrap (v4.Sure + x8))).length : Int)⟩ : dossierref03_File)] : List dossierref03_File)).length) 3))) rfl (AWops.nil (AW.region (s_binI (v := (.int .i64 (IntKind.i64.wrap (x2 + 1)))) rfl rfl rfl (s_move (d := (si (IntKind.i64.wrap (x2 + 1)))) rfl (AWops.nil ?_))))))
     exact ⟨_, ⟨64, (upd 64 (upd 64 (upd 64 (upd 64 (upd 64 (upd 64 topF 0 (rf 0 0)) 1 (D.one (C.p false (.sl a1.length (a1.flatMap e_i64))))) 4 (D.one (C.own 2 0 (x1 ++ ([(⟨v4.Name, sub v4.B 0 (IntKind.i64.wrap (v4.Sure + x8)), ((sub v4.B 0 (IntKind.i64.wrap (v4.Sure + x8))).length : Int)⟩ : dossierref03_File)] : List dossierref03_File)).length 3))) 12 (D.one (C.own 3 0 p0.L.length 3))) 13 (si (p0.L.length : Int))) 14 (si (IntKind.i64.wrap (x2 + 1)))), [(o_dossierref03_Disk_0 false (C.own 3 0 p0.L.length 3) p0), none, (some (AObj.cells true (rowC e_dossierref03_File (x1 ++ ([(⟨v4.Name, sub v4.B 0 (IntKind.i64.wrap (v4.Sure + x8)), ((sub v4.B 0 (IntKind.i64.wrap (v4.Sure + x8))).length : Int)⟩ : dossierref03_File)] : List dossierref03_File))))), (or_ e_dossierref03_File p0.L)]⟩, by omega, (wg 2 [0, 1, 6, 4] [] hx (le_upd (le_upd (le_upd (le_upd (le_upd (le_upd (le_top _) (o1 (.ref rfl))) (o1 .same)) (o1 (.own rfl))) (o1 (.own rfl))) (o1 .sc)) (o1 .sc)) (ac (qo rfl) (ac (.none _) (ac (.cells (fun _ => rfl) (all2_row _)) (ac (.cells id (all2_row _)) an))))), by omega, x1 ++ ([(⟨v4.Name, sub v4.B 0 (IntKind.i64.wrap (v4.Sure + x8)), ((sub v4.B 0 (IntKind.i64.wrap (v4.Sure + x8))).length : Int)⟩ : dossierref03_File)] : List dossierref03_File), IntKind.i64.wrap (x2 + 1), h, rfl⟩
  ·refine AW.cond_no rfl c3 (AW.exit (AW.region ?_))
   refine s_move (d := (rf 0 0)) rfl (s_move (d := (rf 0 0)) rfl (s_move (d := (rf 0 0)) rfl (s_move (d := (D.one (C.own 2 0 x1.length 3))) rfl (s_nilCheck (d := (rf 0 0)) rfl (.inl ⟨_, _, rfl⟩) (s_fieldRef F.fo_72_0 (by decide) rfl ?_)))))
   refine s_store (cs' := [(C.own 2 0 x1.length 3), (ci p0.Most), (ci p0.Burns), (cb p0.Off)]) rfl rfl rfl (List.cons_ne_nil _ _) rfl F.sz_70 (nl rfl) rfl (s_nilCheck (d := (rf 0 0)) rfl (.inl ⟨_, _, rfl⟩) (s_fieldRef F.fo_72_3 (by decide) rfl (s_store (cs' := [(C.own 2 0 x1.length 3), (ci p0.Most), (ci p0.Burns), (cb false)]) rfl rfl rfl (List.cons_ne_nil _ _) rfl F.sz_4 (nl rfl) rfl (s_nilCheck (d := (rf 0 0)) rfl (.inl ⟨_, _, rfl⟩) (s_fieldRef F.fo_72_2 (by decide) rfl ?_)))))
   refine s_store (cs' := [(C.own 2 0 x1.length 3), (ci p0.Most), (ci (-1)), (cb false)]) rfl rfl rfl (List.cons_ne_nil _ _) rfl F.sz_3 (nl rfl) rfl (AWops.nil ?_)
   obtain rfl := Option.some.inj h
   exact ⟨_, rfl, (wg 2 [0, 1, 2] [] rfl (le_upd (le_top _) (DLe.tup an)) (ac (qo rfl) (ac (.none _) (ac (.cells (fun _ => rfl) (all2_row _)) an))))⟩
def vdisk_Disk_Names.f (k : Nat) (p0 : vdisk_Disk) : Option (List ByteArray) := (vdisk_Disk_none.f k p0).bind fun r1 => if (okK p0.files) = true then (some (sortK p0.files)) else none
theorem vdisk_Disk_Names.meets (k : Nat) (p0 : vdisk_Disk) (r : (List ByteArray)) (h : vdisk_Disk_Names.f k p0 = some r) : Meets Try.prog 24 [(rf 0 0)] [(o_vdisk_Disk_03 false (C.mp 1) (C.p true (.v (.pointer none))) p0), (om_ e_vdisk_file p0.files)] (D.one (C.own 2 0 r.length 1)) [(o_vdisk_Disk_03 false (C.mp 1) (C.p true (.v (.pointer none))) p0), (om_ e_vdisk_file p0.files), (ow_ e_str r)] := by
 unfold vdisk_Disk_Names.f at h
 refine Meets.of_body (n := 11) Try.func24 rfl rfl (nl rfl) fun x hx => ?_
 replace hx : x.k = 2 := hx
 show AW _ x _ _ ⟨11, fr0 [(rf 0 0)], [(o_vdisk_Disk_03 false (C.mp 1) (C.p true (.v (.pointer none))) p0), (om_ e_vdisk_file p0.files)]⟩
 refine AW.seq (AW.region ?_)
 refine s_assign (d := (sc (.slice none 0 0))) rfl (AWops.nil (AW.seq (AW.seq (AW.region ?_))))
 refine s_move (d := (rf 0 0)) rfl ?_
 obtain ⟨r1, er1, h⟩ := bnd h
 have kr1 := vdisk_Disk_none.const er1
 subst kr1
 refine cc [0, 1] [(o_vdisk_Disk_03 false (C.mp 1) (C.p true (.v (.pointer none))) p0), (om_ e_vdisk_file p0.files)] (sb false) F.ca_35 rfl rfl (ac (.one (.ref rfl)) an) (ac (.cells (ac (.mp rfl) (ac .sc (ac .sc (ac .sc (ac .sc an)))))) (ac .map an)) (vdisk_Disk_none.meets _ p0 false er1) (AWops.nil ?_)
 refine AW.cond_no rfl rfl (AW.skip (AW.seq (AW.region ?_)))
 refine s_move (d := (rf 0 0)) rfl (s_nilCheck (d := (rf 0 0)) rfl (.inl ⟨_, _, rfl⟩) (s_fieldRef F.fo_50_0 (by decide) rfl (s_load1 (c' := (C.mp 1)) F.ag_47 rfl rfl (cc [1] [(o_vdisk_Disk_03 false (C.mp 1) (C.p true (.v (.pointer none))) p0), (om_ e_vdisk_file p0.files), (some (AObj.cells true [(C.mp 1)]))] (D.one (C.clo 62 [(C.ref 2 0)])) F.ca_48 rfl rfl (ac (.one (.mp rfl)) an) (ac .map an) (SK.keys _) ?_))))
 obtain ⟨c2, h⟩ := gdH h
 refine cc [2, 1] [(o_vdisk_Disk_03 false (C.mp 1) (C.p true (.v (.pointer none))) p0), (om_ e_vdisk_file p0.files), (some (AObj.cells true [(C.mp 1)])), (some (AObj.cells true (rowC e_str (sortK p0.files))))] (D.one (C.own 3 0 ((sortK p0.files).length) 1)) F.ca_47 rfl rfl (ac (.one (LendC.cloL (ac (.ref rfl) an))) an) (ac (.cells (ac (.mp rfl) an)) (ac .map an)) (SK.sorted (b := true) (f := e_vdisk_file) c2) (s_assign (d := (D.one (C.own 3 0 ((sortK p0.files).length) 1))) rfl (AWops.nil (AW.ret ?_)))
 obtain rfl := Option.some.inj h
 exact ⟨_, rfl, (wg 2 [0, 1, 3] [] rfl (le_upd (le_top _) (o1 (.own rfl))) (ac (qs rfl) (ac .map (ac (.cells (fun _ => rfl) (all2_row _)) an))))⟩
mutual
def vdisk_Disk_Crash.l0 : Nat → Int → Int → Bool → (List (ByteArray × vdisk_file)) → Int → (List Int) → (List ByteArray) → Option (Int × vdisk_Disk)
 | 0, _, _, _, _, _, _, _ => none
 | k + 1, x3, x4, x5, x6, x7, a1, r2 => if (decide (x7 < (r2.length : Int))) = true then ((rd r2 x7).bind fun v9 => if (decide (x7 < (a1.length : Int))) = true then ((rd a1 x7).bind fun v12 => if (decide (v12 > 0)) = true then ((rd a1 x7).bind fun v14 => if (decide (0 ≤ (IntKind.i64.wrap (((lk_vdisk_file v9 x6).sure) + (if (IntKind.i64.wrap ((((lk_vdisk_file v9 x6).b).length : Int) - ((lk_vdisk_file v9 x6).sure))) < v14 then (IntKind.i64.wrap ((((lk_vdisk_file v9 x6).b).length : Int) - ((lk_vdisk_file v9 x6).sure))) else v14))) ∧ (IntKind.i64.wrap (((lk_vdisk_file v9 x6).sure) + (if (IntKind.i64.wrap ((((lk_vdisk_file v9 x6).b).length : Int) - ((lk_vdisk_file v9 x6).sure))) < v14 then (IntKind.i64.wrap ((((lk_vdisk_file v9 x6).b).length : Int) - ((lk_vdisk_file v9 x6).sure))) else v14))) ≤ (((lk_vdisk_file v9 x6).b).length : Int))) = true then ((vdisk_Disk_set.f k (⟨x6, x3, x4, (), x5⟩ : vdisk_Disk) v9 (⟨sub ((lk_vdisk_file v9 x6).b) 0 (IntKind.i64.wrap (((lk_vdisk_file v9 x6).sure) + (if (IntKind.i64.wrap ((((lk_vdisk_file v9 x6).b).length : Int) - ((lk_vdisk_file v9 x6).sure))) < v14 then (IntKind.i64.wrap ((((lk_vdisk_file v9 x6).b).length : Int) - ((lk_vdisk_file v9 x6).sure))) else v14))), IntKind.i64.wrap (((lk_vdisk_file v9 x6).sure) + (if (IntKind.i64.wrap ((((lk_vdisk_file v9 x6).b).length : Int) - ((lk_vdisk_file v9 x6).sure))) < v14 then (IntKind.i64.wrap ((((lk_vdisk_file v9 x6).b).length : Int) - ((lk_vdisk_file v9 x6).sure))) else v14))⟩ : vdisk_file)).bind fun r16 => vdisk_Disk_Crash.l0 k r16.room r16.used r16.dead r16.files (IntKind.i64.wrap (x7 + 1)) a1 r2) else none) else (if (decide (0 ≤ ((lk_vdisk_file v9 x6).sure) ∧ ((lk_vdisk_file v9 x6).sure) ≤ (((lk_vdisk_file v9 x6).b).length : Int))) = true then ((vdisk_Disk_set.f k (⟨x6, x3, x4, (), x5⟩ : vdisk_Disk) v9 (⟨sub ((lk_vdisk_file v9 x6).b) 0 ((lk_vdisk_file v9 x6).sure), (lk_vdisk_file v9 x6).sure⟩ : vdisk_file)).bind fun r18 => vdisk_Disk_Crash.l0 k r18.room r18.used r18.dead r18.files (IntKind.i64.wrap (x7 + 1)) a1 r2) else none)) else (if (decide (0 ≤ ((lk_vdisk_file v9 x6).sure) ∧ ((lk_vdisk_file v9 x6).sure) ≤ (((lk_vdisk_file v9 x6).b).length : Int))) = true then ((vdisk_Disk_set.f k (⟨x6, x3, x4, (), x5⟩ : vdisk_Disk) v9 (⟨sub ((lk_vdisk_file v9 x6).b) 0 ((lk_vdisk_file v9 x6).sure), (lk_vdisk_file v9 x6).sure⟩ : vdisk_file)).bind fun r20 => vdisk_Disk_Crash.l0 k r20.room r20.used r20.dead r20.files (IntKind.i64.wrap (x7 + 1)) a1 r2) else none)) else (some (0, (⟨x6, x3, x4, (), false⟩ : vdisk_Disk)))
end
def vdisk_Disk_Crash.f (k : Nat) (p0 : vdisk_Disk) (a1 : List Int) : Option (Int × vdisk_Disk) := (vdisk_Disk_none.f k p0).bind fun r1 => (vdisk_Disk_Names.f k p0).bind fun r2 => vdisk_Disk_Crash.l0 k p0.room p0.used p0.dead p0.files 0 a1 r2
theorem vdisk_Disk_Crash.meets (k : Nat) (p0 : vdisk_Disk) (a1 : List Int) (r : Int × vdisk_Disk) (h : vdisk_Disk_Crash.f k p0 a1 = some r) : Meets Try.prog 11 [(rf 0 0), (D.one (C.p false (.sl a1.length (a1.flatMap e_i64))))] [(o_vdisk_Disk_03 false (C.mp 1) (C.p true (.v (.pointer none))) p0), (om_ e_vdisk_file p0.files)] (si r.1) [(o_vdisk_Disk_03 false (C.mp 1) (C.p true (.v (.pointer none))) r.2), (om_ e_vdisk_file r.2.files)] := by
 unfold vdisk_Disk_Crash.f at h
 refine Meets.of_body (n := 69) Try.func11 rfl rfl (nl rfl) fun x hx => ?_
 replace hx : x.k = 2 := hx
 show AW _ x _ _ ⟨69, fr0 [(rf 0 0), (D.one (C.p false (.sl a1.length (a1.flatMap e_i64))))], [(o_vdisk_Disk_03 false (C.mp 1) (C.p true (.v (.pointer none))) p0), (om_ e_vdisk_file p0.files)]⟩
 refine AW.seq (AW.region ?_)
 refine s_assign (d := (si 0)) rfl (AWops.nil (AW.seq (AW.seq (AW.region ?_))))
 refine s_move (d := (rf 0 0)) rfl ?_
 obtain ⟨r1, er1, h⟩ := bnd h
 have kr1 := vdisk_Disk_none.const er1
 subst kr1
 refine cc [0, 1] [(o_vdisk_Disk_03 false (C.mp 1) (C.p true (.v (.pointer none))) p0), (om_ e_vdisk_file p0.files)] (sb false) F.ca_35 rfl rfl (ac (.one (.ref rfl)) an) (ac (.cells (ac (.mp rfl) (ac .sc (ac .sc (ac .sc (ac .sc an)))))) (ac .map an)) (vdisk_Disk_none.meets _ p0 false er1) (AWops.nil ?_)
 refine AW.cond_no rfl rfl (AW.skip (AW.seq (AW.seq (AW.region ?_))))
 refine s_move (d := (rf 0 0)) rfl ?_
 obtain ⟨r2, er2, h⟩ := bnd h
 refine cc [0, 1] [(o_vdisk_Disk_03 false (C.mp 1) (C.p true (.v (.pointer none))) p0), (om_ e_vdisk_file p0.files), (ow_ e_str r2)] (D.one (C.own 2 0 r2.length 1)) F.ca_24 rfl rfl (ac (.one (.ref rfl)) an) (ac (.cells (ac (.mp rfl) (ac .sc (ac .sc (ac .sc (ac .sc an)))))) (ac .map an)) (vdisk_Disk_Names.meets _ p0 r2 er2) (s_len (n := r2.length) F.u_55 rfl (.inr ⟨(fun _ _ h => by cases h), ⟨_, rfl⟩⟩) (s_move (d := (si 0)) rfl (AWops.nil (AW.block ?_))))
 refine AW.loopw (st0 := ⟨69, (upd 69 (upd 69 (upd 69 (upd 69 (upd 69 topF 0 (rf 0 0)) 1 (D.one (C.p false (.sl a1.length (a1.flatMap e_i64))))) 12 (D.one (C.own 2 0 r2.length 1))) 13 (si (r2.length : Int))) 14 (si 0)), [(some (AObj.cells false [(C.mp 1), (ci p0.room), (ci p0.used), (C.p true (.v (.pointer none))), (cb p0.dead)])), (om_ e_vdisk_file p0.files), (ow_ e_str r2)]⟩) (fun kv st => kv ≤ k ∧ ∃ (x3 : Int) (x4 : Int) (x5 : Bool) (x6 : List (ByteArray × vdisk_file)) (x7 : Int), vdisk_Disk_Crash.l0 kv x3 x4 x5 x6 x7 a1 r2 = some r ∧ st = ⟨69, (upd 69 (upd 69 (upd 69 (upd 69 (upd 69 topF 0 (rf 0 0)) 1 (D.one (C.p false (.sl a1.length (a1.flatMap e_i64))))) 12 (D.one (C.own 2 0 r2.length 1))) 13 (si (r2.length : Int))) 14 (si x7)), [(some (AObj.cells false [(C.mp 1), (ci x3), (ci x4), (C.p true (.v (.pointer none))), (cb x5)])), (om_ e_vdisk_file x6), (ow_ e_str r2)]⟩) (k := k) (wg 2 [0, 1, 2] [] hx (le_upd (le_upd (le_upd (le_upd (le_upd (le_top _) (o1 (.ref rfl))) (o1 .same)) (o1 (.own rfl))) (o1 .sc)) (o1 .sc)) (ac (qs rfl) (ac .map (ac (.cells (fun _ => rfl) (all2_row _)) an)))) ⟨Nat.le_refl _, p0.room, p0.used, p0.dead, p0.files, 0, h, rfl⟩ ?_
 rintro ql0 st ⟨hkl0, x3, x4, x5, x6, x7, h, rfl⟩
 cases ql0 with
 | zero => exact absurd h (by simp [vdisk_Disk_Crash.l0])
 | succ ql0 =>
  replace h := (vdisk_Disk_Crash.l0.eq_2 _ _ _ _ _ _ _ _).symm.trans h
  refine AW.seq (AW.region ?_)
  refine s_binI (v := (.bool (decide (x7 < (r2.length : Int))))) rfl rfl rfl (AWops.nil (AW.seq ?_))
  rcases itH h with ⟨c8, h⟩ | ⟨c8, h⟩
  ·refine AW.cond_yes rfl c8 (AW.skip (AW.seq (AW.block (AW.seq (AW.region ?_)))))
   refine s_move (d := (si x7)) rfl ?_
   obtain ⟨v9, ev9, h⟩ := bnd h
   obtain ⟨pv9, qv9, gv9⟩ := rd_some ev9
   refine s_indexOwn (d := (D.one (C.ref 2 (0 + x7.toNat * 1)))) F.u_55 F.sz_9 rfl rfl pv9 qv9 rfl ?_
   obtain ⟨R10, hR10⟩ := row_at (f := e_str) (sz := 1) (o := 0) e_str_len gv9 (e_str_eq v9) (by decide)
   refine s_load1 (c' := (ct v9)) F.ag_9 (congrArg some hR10) rfl (s_assign (d := (si x7)) rfl (s_assign (d := (st_ v9)) rfl (AWops.nil (AW.seq (AW.region (s_move (d := (rf 0 0)) rfl (s_nilCheck (d := (rf 0 0)) rfl (.inl ⟨_, _, rfl⟩) (s_fieldRef F.fo_50_0 (by decide) rfl ?_))))))))
   refine s_load1 (c' := (C.mp 1)) F.ag_47 rfl rfl (s_move (d := (st_ v9)) rfl (t_lookup (b := true) F.u_47 F.u_9 F.z_65 (z := ((⟨([] : List Int), 0⟩ : vdisk_file) : vdisk_file)) (zs := [(.slice none 0 0), (.int .i64 0)]) rfl (fun h => by cases h) (ac ZRel.n (ac (ZRel.v _ rfl) an)) rfl rfl rfl rfl (s_alloc (cs := [(C.p true (.v (.slice none 0 0))), (ci 0)]) F.z_65 rfl rfl (s_store (cs' := (c_vdisk_file (lk_vdisk_file v9 x6))) rfl rfl rfl (List.cons_ne_nil _ _) rfl F.sz_65 (nl rfl) rfl (AWops.nil (AW.seq (AW.region (s_fieldRef F.fo_65_1 (by decide) rfl ?_))))))))
   refine s_load1 (c' := (ci ((lk_vdisk_file v9 x6).sure))) F.ag_3 rfl rfl (s_assign (d := (si ((lk_vdisk_file v9 x6).sure))) rfl (AWops.nil (AW.seq (AW.seq (AW.region (s_move (d := (si x7)) rfl (s_move (d := (D.one (C.p false (.sl a1.length (a1.flatMap e_i64))))) rfl (s_len (n := a1.length) F.u_24 rfl (.inr ⟨(fun _ _ h => by cases h), ⟨_, rfl⟩⟩) (s_binI (v := (.bool (decide (x7 < (a1.length : Int))))) rfl rfl rfl ?_)))))))))
   refine s_move (d := (sb (decide (x7 < (a1.length : Int))))) rfl ?_
   rcases itH h with ⟨c11, h⟩ | ⟨c11, h⟩
   ·refine AWops.guard_yes rfl (nl rfl) rfl c11 ?_
    refine s_move (d := (D.one (C.p false (.sl a1.length (a1.flatMap e_i64))))) rfl ?_
    refine AWops.guard_yes rfl (nl rfl) rfl c11 ?_
    refine s_move (d := (si x7)) rfl ?_
    refine AWops.guard_yes rfl (nl rfl) rfl c11 ?_
    obtain ⟨v12, ev12, h⟩ := bnd h
    obtain ⟨pv12, qv12, gv12⟩ := rd_some ev12
    refine s_indexImm (ps := [P.v (.int .i64 v12)]) F.u_24 F.sz_3 rfl rfl pv12 qv12 (flat_at e_i64_len gv12 (e_i64_eq v12)) ?_
    refine AWops.guard_yes rfl (nl rfl) rfl c11 ?_
    refine s_load1 (c' := (ci v12)) F.ag_3 rfl rfl ?_
    refine AWops.guard_yes rfl (nl rfl) rfl c11 ?_
    refine s_binI (v := (.bool (decide (v12 > 0)))) rfl rfl rfl (s_pick_yes (d := (sb (decide (v12 > 0)))) rfl c11 rfl (AWops.nil ?_))
    rcases itH h with ⟨c13, h⟩ | ⟨c13, h⟩
    ·refine AW.cond_yes rfl c13 ?_
     refine AW.weak (st' := ⟨69, (upd 69 (upd 69 (upd 69 (upd 69 (upd 69 (upd 69 (upd 69 (upd 69 (upd 69 (upd 69 (upd 69 (upd 69 (upd 69 (upd 69 topF 0 (rf 0 0)) 1 (D.one (C.p false (.sl a1.length (a1.flatMap e_i64))))) 5 (si x7)) 6 (st_ v9)) 7 (rf 2 0)) 8 (si ((lk_vdisk_file v9 x6).sure))) 12 (D.one (C.own 3 0 r2.length 1))) 13 (si (r2.length : Int))) 14 (si x7)) 32 (D.one (C.p false (.sl a1.length (a1.flatMap e_i64))))) 33 (si x7)) 34 (D.one (C.peek false [P.v (.int .i64 v12)]))) 35 (si v12)) 36 (sb (decide (v12 > 0)))), [(some (AObj.cells false [(C.mp 1), (ci x3), (ci x4), (C.p true (.v (.pointer none))), (cb x5)])), (om_ e_vdisk_file x6), (some (AObj.cells true (c_vdisk_file (lk_vdisk_file v9 x6)))), (ow_ e_str r2)]⟩) (wg 2 [0, 1, 3, 2] [] hx (le_upd (le_upd (le_upd (le_upd (le_upd (le_upd (le_upd (le_upd (le_upd (le_upd (le_upd (le_upd (le_upd (le_upd (le_top _) (o1 (.ref rfl))) (o1 .same)) (o1 .sc)) (o1 .sc)) (o1 (.ref rfl))) (o1 .sc)) (o1 (.own rfl))) (o1 .sc)) (o1 .sc)) (o1 .same)) (o1 .sc)) (o1 .peek)) (o1 .sc)) (o1 .sc)) (ac (qs rfl) (ac .map (ac (.cells (fun _ => rfl) (ac .same (ac .sc an))) (ac (.cells (fun _ => rfl) (all2_row _)) an))))) ?_
     obtain ⟨v14, ev14, h⟩ := bnd h
     obtain ⟨pv14, qv14, gv14⟩ := rd_some ev14
     refine AW.draw (n := 69) (L := 4) [(ft 0 38 (rf 2 1) [(7, (rf 2 0))]), (1, ⟨some 39, (si ((lk_vdisk_file v9 x6).sure)), [(38, (rf 2 1))], [(2, (some (AObj.cells true (c_vdisk_file (lk_vdisk_file v9 x6)))))], [], none⟩), (ft 2 40 (D.one (C.p false (.sl a1.length (a1.flatMap e_i64)))) [(1, (D.one (C.p false (.sl a1.length (a1.flatMap e_i64)))))]), (ft 3 41 (si x7) [(5, (si x7))]), (ft 4 42 (D.one (C.peek false [P.v (.int .i64 v14)])) [(40, (D.one (C.p false (.sl a1.length (a1.flatMap e_i64))))), (41, (si x7))]), (ft 5 43 (si v14) [(42, (D.one (C.peek false [P.v (.int .i64 v14)])))]), (ft 6 44 (rf 2 0) [(7, (rf 2 0))]), (7, ⟨some 45, (D.one (C.p false (.sl ((lk_vdisk_file v9 x6).b).length (((lk_vdisk_file v9 x6).b).flatMap e_u8)))), [(44, (rf 2 0))], [(2, (some (AObj.cells true (c_vdisk_file (lk_vdisk_file v9 x6)))))], [], none⟩), (ft 8 46 (si (((lk_vdisk_file v9 x6).b).length : Int)) [(45, (D.one (C.p false (.sl ((lk_vdisk_file v9 x6).b).length (((lk_vdisk_file v9 x6).b).flatMap e_u8)))))]), (ft 9 47 (rf 2 1) [(7, (rf 2 0))]), (10, ⟨some 48, (si ((lk_vdisk_file v9 x6).sure)), [(47, (rf 2 1))], [(2, (some (AObj.cells true (c_vdisk_file (lk_vdisk_file v9 x6)))))], [], none⟩), (ft 11 49 (si (IntKind.i64.wrap ((((lk_vdisk_file v9 x6).b).length : Int) - ((lk_vdisk_file v9 x6).sure)))) [(46, (si (((lk_vdisk_file v9 x6).b).length : Int))), (48, (si ((lk_vdisk_file v9 x6).sure)))]), (ft 12 50 (si (if (IntKind.i64.wrap ((((lk_vdisk_file v9 x6).b).length : Int) - ((lk_vdisk_file v9 x6).sure))) < v14 then (IntKind.i64.wrap ((((lk_vdisk_file v9 x6).b).length : Int) - ((lk_vdisk_file v9 x6).sure))) else v14)) [(43, (si v14)), (49, (si (IntKind.i64.wrap ((((lk_vdisk_file v9 x6).b).length : Int) - ((lk_vdisk_file v9 x6).sure)))))]), (ft 13 51 (si (IntKind.i64.wrap (((lk_vdisk_file v9 x6).sure) + (if (IntKind.i64.wrap ((((lk_vdisk_file v9 x6).b).length : Int) - ((lk_vdisk_file v9 x6).sure))) < v14 then (IntKind.i64.wrap ((((lk_vdisk_file v9 x6).b).length : Int) - ((lk_vdisk_file v9 x6).sure))) else v14)))) [(39, (si ((lk_vdisk_file v9 x6).sure))), (50, (si (if (IntKind.i64.wrap ((((lk_vdisk_file v9 x6).b).length : Int) - ((lk_vdisk_file v9 x6).sure))) < v14 then (IntKind.i64.wrap ((((lk_vdisk_file v9 x6).b).length : Int) - ((lk_vdisk_file v9 x6).sure))) else v14)))]), (ft 14 8 (si (IntKind.i64.wrap (((lk_vdisk_file v9 x6).sure) + (if (IntKind.i64.wrap ((((lk_vdisk_file v9 x6).b).length : Int) - ((lk_vdisk_file v9 x6).sure))) < v14 then (IntKind.i64.wrap ((((lk_vdisk_file v9 x6).b).length : Int) - ((lk_vdisk_file v9 x6).sure))) else v14)))) [(51, (si (IntKind.i64.wrap (((lk_vdisk_file v9 x6).sure) + (if (IntKind.i64.wrap ((((lk_vdisk_file v9 x6).b).length : Int) - ((lk_vdisk_file v9 x6).sure))) < v14 then (IntKind.i64.wrap ((((lk_vdisk_file v9 x6).b).length : Int) - ((lk_vdisk_file v9 x6).sure))) else v14)))))])] [[], [0], [], [], [2, 3], [2, 3, 4], [], [6], [6, 7], [], [9], [6, 7, 8, 9, 10], [2, 3, 4, 5, 6, 7, 8, 9, 10, 11], (.range 13), (.range 14)] (nl rfl) [0, 1, 0, 0, 1, 2, 0, 1, 2, 0, 1, 3, 4, 5, 6] rfl (TK := []) rfl AllK.nil' (by repeat (first | refine fC ⟨?_, ?_⟩ ?_ | refine sC rfl ?_ | refine hC rfl ?_ | trivial)) ?_ ?_
     ·refine y8 ?_ ?_ ?_ ?_ ?_ ?_ ?_ ?_ (y4 ?_ ?_ ?_ ?_ (y2 ?_ ?_ (pC ?_ yN)))
      ·intro K _ f w u k
       show Wp K ⟨69, (upd 69 f 7 (rf 2 0)), [_, _, _, _]⟩
       refine s_fieldRef F.fo_65_1 (by decide) rfl k
      ·intro K _ f w u k
       show Wp K ⟨69, (upd 69 f 38 (rf 2 1)), [_, _, (some (AObj.cells true (c_vdisk_file (lk_vdisk_file v9 x6)))), _]⟩
       refine s_load1 (c' := (ci ((lk_vdisk_file v9 x6).sure))) F.ag_3 rfl rfl k
      ·intro K _ f w u k
       show Wp K ⟨69, (upd 69 f 1 (D.one (C.p false (.sl a1.length (a1.flatMap e_i64))))), _⟩
       refine s_move (d := (D.one (C.p false (.sl a1.length (a1.flatMap e_i64))))) rfl k
      ·intro K _ f w u k
       show Wp K ⟨69, (upd 69 f 5 (si x7)), _⟩
       refine s_move (d := (si x7)) rfl k
      ·intro K _ f w u k
       show Wp K ⟨69, (upd 69 (upd 69 f 41 (si x7)) 40 (D.one (C.p false (.sl a1.length (a1.flatMap e_i64))))), [_, _, _, _]⟩
       refine s_indexImm (ps := [P.v (.int .i64 v14)]) F.u_24 F.sz_3 rfl rfl pv14 qv14 (flat_at e_i64_len gv14 (e_i64_eq v14)) k
      ·intro K _ f w u k
       show Wp K ⟨69, (upd 69 f 42 (D.one (C.peek false [P.v (.int .i64 v14)]))), [_, _, _, _]⟩
       refine s_load1 (c' := (ci v14)) F.ag_3 rfl rfl k
      ·intro K _ f w u k
       show Wp K ⟨69, (upd 69 f 7 (rf 2 0)), [_, _, _, _]⟩
       refine s_fieldRef F.fo_65_0 (by decide) rfl k
      ·intro K _ f w u k
       show Wp K ⟨69, (upd 69 f 44 (rf 2 0)), [_, _, (some (AObj.cells true (c_vdisk_file (lk_vdisk_file v9 x6)))), _]⟩
       refine s_load1 (c' := (C.p false (.sl ((lk_vdisk_file v9 x6).b).length (((lk_vdisk_file v9 x6).b).flatMap e_u8)))) F.ag_22 rfl rfl k
      ·intro K _ f w u k
       show Wp K ⟨69, (upd 69 f 45 (D.one (C.p false (.sl ((lk_vdisk_file v9 x6).b).length (((lk_vdisk_file v9 x6).b).flatMap e_u8))))), [_, _, _, _]⟩
       refine s_len (n := ((lk_vdisk_file v9 x6).b).length) F.u_22 rfl (.inr ⟨(fun _ _ h => by cases h), ⟨_, rfl⟩⟩) k
      ·intro K _ f w u k
       show Wp K ⟨69, (upd 69 f 7 (rf 2 0)), [_, _, _, _]⟩
       refine s_fieldRef F.fo_65_1 (by decide) rfl k
      ·intro K _ f w u k
       show Wp K ⟨69, (upd 69 f 47 (rf 2 1)), [_, _, (some (AObj.cells true (c_vdisk_file (lk_vdisk_file v9 x6)))), _]⟩
       refine s_load1 (c' := (ci ((lk_vdisk_file v9 x6).sure))) F.ag_3 rfl rfl k
      ·intro K _ f w u k
       show Wp K ⟨69, (upd 69 (upd 69 f 48 (si ((lk_vdisk_file v9 x6).sure))) 46 (si (((lk_vdisk_file v9 x6).b).length : Int))), _⟩
       refine s_binI (v := (.int .i64 (IntKind.i64.wrap ((((lk_vdisk_file v9 x6).b).length : Int) - ((lk_vdisk_file v9 x6).sure))))) rfl rfl rfl k
      ·intro K _ f w u k
       show Wp K ⟨69, (upd 69 (upd 69 f 49 (si (IntKind.i64.wrap ((((lk_vdisk_file v9 x6).b).length : Int) - ((lk_vdisk_file v9 x6).sure))))) 43 (si v14)), [_, _, _, _]⟩
       refine s_min2 (r := (if (IntKind.i64.wrap ((((lk_vdisk_file v9 x6).b).length : Int) - ((lk_vdisk_file v9 x6).sure))) < v14 then (IntKind.i64.wrap ((((lk_vdisk_file v9 x6).b).length : Int) - ((lk_vdisk_file v9 x6).sure))) else v14)) rfl rfl rfl k
      ·intro K _ f w u k
       show Wp K ⟨69, (upd 69 (upd 69 f 50 (si (if (IntKind.i64.wrap ((((lk_vdisk_file v9 x6).b).length : Int) - ((lk_vdisk_file v9 x6).sure))) < v14 then (IntKind.i64.wrap ((((lk_vdisk_file v9 x6).b).length : Int) - ((lk_vdisk_file v9 x6).sure))) else v14))) 39 (si ((lk_vdisk_file v9 x6).sure))), _⟩
       refine s_binI (v := (.int .i64 (IntKind.i64.wrap (((lk_vdisk_file v9 x6).sure) + (if (IntKind.i64.wrap ((((lk_vdisk_file v9 x6).b).length : Int) - ((lk_vdisk_file v9 x6).sure))) < v14 then (IntKind.i64.wrap ((((lk_vdisk_file v9 x6).b).length : Int) - ((lk_vdisk_file v9 x6).sure))) else v14))))) rfl rfl rfl k
      ·intro K _ f w u k
       show Wp K ⟨69, (upd 69 f 51 (si (IntKind.i64.wrap (((lk_vdisk_file v9 x6).sure) + (if (IntKind.i64.wrap ((((lk_vdisk_file v9 x6).b).length : Int) - ((lk_vdisk_file v9 x6).sure))) < v14 then (IntKind.i64.wrap ((((lk_vdisk_file v9 x6).b).length : Int) - ((lk_vdisk_file v9 x6).sure))) else v14))))), _⟩
       refine s_assign (d := (si (IntKind.i64.wrap (((lk_vdisk_file v9 x6).sure) + (if (IntKind.i64.wrap ((((lk_vdisk_file v9 x6).b).length : Int) - ((lk_vdisk_file v9 x6).sure))) < v14 then (IntKind.i64.wrap ((((lk_vdisk_file v9 x6).b).length : Int) - ((lk_vdisk_file v9 x6).sure))) else v14))))) rfl k
     ·refine AWops.weak (st' := ⟨69, (upd 69 (upd 69 (upd 69 (upd 69 (upd 69 (upd 69 (upd 69 (upd 69 (upd 69 (upd 69 (upd 69 (upd 69 (upd 69 topF 0 (rf 0 0)) 1 (D.one (C.p false (.sl a1.length (a1.flatMap e_i64))))) 6 (st_ v9)) 7 (rf 2 0)) 8 (si (IntKind.i64.wrap (((lk_vdisk_file v9 x6).sure) + (if (IntKind.i64.wrap ((((lk_vdisk_file v9 x6).b).length : Int) - ((lk_vdisk_file v9 x6).sure))) < v14 then (IntKind.i64.wrap ((((lk_vdisk_file v9 x6).b).length : Int) - ((lk_vdisk_file v9 x6).sure))) else v14))))) 12 (D.one (C.own 3 0 r2.length 1))) 13 (si (r2.length : Int))) 14 (si x7)) 32 (D.one (C.p false (.sl a1.length (a1.flatMap e_i64))))) 33 (si x7)) 34 (D.one (C.peek false [P.v (.int .i64 v12)]))) 35 (si v12)) 36 (sb (decide (v12 > 0)))), [(some (AObj.cells false [(C.mp 1), (ci x3), (ci x4), (C.p true (.v (.pointer none))), (cb x5)])), (om_ e_vdisk_file x6), (some (AObj.cells true (c_vdisk_file (lk_vdisk_file v9 x6)))), (ow_ e_str r2)]⟩) (wg 2 [0, 1, 2, 3] [] hx (le_upd (le_upd (le_upd (le_upd (le_upd (le_upd (le_upd (le_upd (le_upd (le_upd (le_upd (le_upd (le_upd (le_top _) (o1 (.ref rfl))) (o1 .same)) (o1 .sc)) (o1 (.ref rfl))) (o1 .sc)) (o1 (.own rfl))) (o1 .sc)) (o1 .sc)) (o1 .same)) (o1 .sc)) (o1 .peek)) (o1 .sc)) (o1 .sc)) (ac (qs rfl) (ac .map (ac (.cells (fun _ => rfl) (ac .same (ac .sc an))) (ac (.cells (fun _ => rfl) (all2_row _)) an))))) (AWops.nil (AW.region ?_))
      refine s_move (d := (rf 0 0)) rfl (s_move (d := (st_ v9)) rfl (s_fieldRef F.fo_65_0 (by decide) rfl (s_load1 (c' := (C.p false (.sl ((lk_vdisk_file v9 x6).b).length (((lk_vdisk_file v9 x6).b).flatMap e_u8)))) F.ag_22 rfl rfl (s_move (d := (si (IntKind.i64.wrap (((lk_vdisk_file v9 x6).sure) + (if (IntKind.i64.wrap ((((lk_vdisk_file v9 x6).b).length : Int) - ((lk_vdisk_file v9 x6).sure))) < v14 then (IntKind.i64.wrap ((((lk_vdisk_file v9 x6).b).length : Int) - ((lk_vdisk_file v9 x6).sure))) else v14))))) rfl (s_move (d := (si (IntKind.i64.wrap (((lk_vdisk_file v9 x6).sure) + (if (IntKind.i64.wrap ((((lk_vdisk_file v9 x6).b).length : Int) - ((lk_vdisk_file v9 x6).sure))) < v14 then (IntKind.i64.wrap ((((lk_vdisk_file v9 x6).b).length : Int) - ((lk_vdisk_file v9 x6).sure))) else v14))))) rfl ?_)))))
      obtain ⟨c15, h⟩ := gdH h
      have dc15 := of_decide_eq_true c15
      refine t_slice3Imm F.u_22 F.sz_5 e_u8_len rfl rfl rfl (by omega) (by omega) (s_move (d := (si (IntKind.i64.wrap (((lk_vdisk_file v9 x6).sure) + (if (IntKind.i64.wrap ((((lk_vdisk_file v9 x6).b).length : Int) - ((lk_vdisk_file v9 x6).sure))) < v14 then (IntKind.i64.wrap ((((lk_vdisk_file v9 x6).b).length : Int) - ((lk_vdisk_file v9 x6).sure))) else v14))))) rfl (s_build (ps := [(0, (D.one (C.p false (.sl (sub ((lk_vdisk_file v9 x6).b) 0 (IntKind.i64.wrap (((lk_vdisk_file v9 x6).sure) + (if (IntKind.i64.wrap ((((lk_vdisk_file v9 x6).b).length : Int) - ((lk_vdisk_file v9 x6).sure))) < v14 then (IntKind.i64.wrap ((((lk_vdisk_file v9 x6).b).length : Int) - ((lk_vdisk_file v9 x6).sure))) else v14)))).length ((sub ((lk_vdisk_file v9 x6).b) 0 (IntKind.i64.wrap (((lk_vdisk_file v9 x6).sure) + (if (IntKind.i64.wrap ((((lk_vdisk_file v9 x6).b).length : Int) - ((lk_vdisk_file v9 x6).sure))) < v14 then (IntKind.i64.wrap ((((lk_vdisk_file v9 x6).b).length : Int) - ((lk_vdisk_file v9 x6).sure))) else v14)))).flatMap e_u8))))), (1, (si (IntKind.i64.wrap (((lk_vdisk_file v9 x6).sure) + (if (IntKind.i64.wrap ((((lk_vdisk_file v9 x6).b).length : Int) - ((lk_vdisk_file v9 x6).sure))) < v14 then (IntKind.i64.wrap ((((lk_vdisk_file v9 x6).b).length : Int) - ((lk_vdisk_file v9 x6).sure))) else v14)))))]) (cs := [(C.p false (.sl (sub ((lk_vdisk_file v9 x6).b) 0 (IntKind.i64.wrap (((lk_vdisk_file v9 x6).sure) + (if (IntKind.i64.wrap ((((lk_vdisk_file v9 x6).b).length : Int) - ((lk_vdisk_file v9 x6).sure))) < v14 then (IntKind.i64.wrap ((((lk_vdisk_file v9 x6).b).length : Int) - ((lk_vdisk_file v9 x6).sure))) else v14)))).length ((sub ((lk_vdisk_file v9 x6).b) 0 (IntKind.i64.wrap (((lk_vdisk_file v9 x6).sure) + (if (IntKind.i64.wrap ((((lk_vdisk_file v9 x6).b).length : Int) - ((lk_vdisk_file v9 x6).sure))) < v14 then (IntKind.i64.wrap ((((lk_vdisk_file v9 x6).b).length : Int) - ((lk_vdisk_file v9 x6).sure))) else v14)))).flatMap e_u8))), (ci (IntKind.i64.wrap (((lk_vdisk_file v9 x6).sure) + (if (IntKind.i64.wrap ((((lk_vdisk_file v9 x6).b).length : Int) - ((lk_vdisk_file v9 x6).sure))) < v14 then (IntKind.i64.wrap ((((lk_vdisk_file v9 x6).b).length : Int) - ((lk_vdisk_file v9 x6).sure))) else v14))))]) F.z_65 rfl F.so_65 rfl rfl ?_))
      obtain ⟨r16, er16, h⟩ := bnd h
      refine cc [0, 1] [(o_vdisk_Disk_03 false (C.mp 1) (C.p true (.v (.pointer none))) r16), (om_ e_vdisk_file r16.files), (some (AObj.cells true (c_vdisk_file (lk_vdisk_file v9 x6)))), (ow_ e_str r2)] (D.tup []) F.ca_33 rfl rfl (ac (.one (.ref rfl)) (ac (.one .sc) (ac (LendT.aggL (ac .imm (ac .sc an))) an))) (ac (.cells (ac (.mp rfl) (ac .sc (ac .sc (ac .sc (ac .sc an)))))) (ac .map an)) (vdisk_Disk_set.meets _ (⟨x6, x3, x4, (), x5⟩ : vdisk_Disk) v9 (⟨sub ((lk_vdisk_file v9 x6).b) 0 (IntKind.i64.wrap (((lk_vdisk_file v9 x6).sure) + (if (IntKind.i64.wrap ((((lk_vdisk_file v9 x6).b).length : Int) - ((lk_vdisk_file v9 x6).sure))) < v14 then (IntKind.i64.wrap ((((lk_vdisk_file v9 x6).b).length : Int) - ((lk_vdisk_file v9 x6).sure))) else v14))), IntKind.i64.wrap (((lk_vdisk_file v9 x6).sure) + (if (IntKind.i64.wrap ((((lk_vdisk_file v9 x6).b).length : Int) - ((lk_vdisk_file v9 x6).sure))) < v14 then (IntKind.i64.wrap ((((lk_vdisk_file v9 x6).b).length : Int) - ((lk_vdisk_file v9 x6).sure))) else v14))⟩ : vdisk_file) r16 er16) (AWops.nil (AW.region ?_))
      refine s_binI (v := (.int .i64 (IntKind.i64.wrap (x7 + 1)))) rfl rfl rfl (s_move (d := (si (IntKind.i64.wrap (x7 + 1)))) rfl (AWops.nil ?_))
      exact ⟨_, ⟨69, (upd 69 (upd 69 (upd 69 (upd 69 (upd 69 topF 0 (rf 0 0)) 1 (D.one (C.p false (.sl a1.length (a1.flatMap e_i64))))) 12 (D.one (C.own 2 0 r2.length 1))) 13 (si (r2.length : Int))) 14 (si (IntKind.i64.wrap (x7 + 1)))), [(some (AObj.cells false [(C.mp 1), (ci r16.room), (ci r16.used), (C.p true (.v (.pointer none))), (cb r16.dead)])), (om_ e_vdisk_file r16.files), (ow_ e_str r2)]⟩, by omega, (wg 2 [0, 1, 3] [] hx (le_upd (le_upd (le_upd (le_upd (le_upd (le_top _) (o1 (.ref rfl))) (o1 .same)) (o1 (.own rfl))) (o1 .sc)) (o1 .sc)) (ac (qs rfl) (ac .map (ac (.cells (fun _ => rfl) (all2_row _)) an)))), by omega, r16.room, r16.used, r16.dead, r16.files, IntKind.i64.wrap (x7 + 1), h, rfl⟩
    ·refine AW.cond_no rfl c13 (AW.skip (AW.region ?_))
     refine s_move (d := (rf 0 0)) rfl (s_move (d := (st_ v9)) rfl (s_fieldRef F.fo_65_0 (by decide) rfl (s_load1 (c' := (C.p false (.sl ((lk_vdisk_file v9 x6).b).length (((lk_vdisk_file v9 x6).b).flatMap e_u8)))) F.ag_22 rfl rfl (s_move (d := (si ((lk_vdisk_file v9 x6).sure))) rfl (s_move (d := (si ((lk_vdisk_file v9 x6).sure))) rfl ?_)))))
     obtain ⟨c17, h⟩ := gdH h
     have dc17 := of_decide_eq_true c17
     refine t_slice3Imm F.u_22 F.sz_5 e_u8_len rfl rfl rfl (by omega) (by omega) (s_move (d := (si ((lk_vdisk_file v9 x6).sure))) rfl (s_build (ps := [(0, (D.one (C.p false (.sl (sub ((lk_vdisk_file v9 x6).b) 0 ((lk_vdisk_file v9 x6).sure)).length ((sub ((lk_vdisk_file v9 x6).b) 0 ((lk_vdisk_file v9 x6).sure)).flatMap e_u8))))), (1, (si ((lk_vdisk_file v9 x6).sure)))]) (cs := [(C.p false (.sl (sub ((lk_vdisk_file v9 x6).b) 0 ((lk_vdisk_file v9 x6).sure)).length ((sub ((lk_vdisk_file v9 x6).b) 0 ((lk_vdisk_file v9 x6).sure)).flatMap e_u8))), (ci ((lk_vdisk_file v9 x6).sure))]) F.z_65 rfl F.so_65 rfl rfl ?_))
     obtain ⟨r18, er18, h⟩ := bnd h
     refine cc [0, 1] [(o_vdisk_Disk_03 false (C.mp 1) (C.p true (.v (.pointer none))) r18), (om_ e_vdisk_file r18.files), (ow_ e_str r2), (some (AObj.cells true (c_vdisk_file (lk_vdisk_file v9 x6))))] (D.tup []) F.ca_33 rfl rfl (ac (.one (.ref rfl)) (ac (.one .sc) (ac (LendT.aggL (ac .imm (ac .sc an))) an))) (ac (.cells (ac (.mp rfl) (ac .sc (ac .sc (ac .sc (ac .sc an)))))) (ac .map an)) (vdisk_Disk_set.meets _ (⟨x6, x3, x4, (), x5⟩ : vdisk_Disk) v9 (⟨sub ((lk_vdisk_file v9 x6).b) 0 ((lk_vdisk_file v9 x6).sure), (lk_vdisk_file v9 x6).sure⟩ : vdisk_file) r18 er18) (AWops.nil (AW.region ?_))
     refine s_binI (v := (.int .i64 (IntKind.i64.wrap (x7 + 1)))) rfl rfl rfl (s_move (d := (si (IntKind.i64.wrap (x7 + 1)))) rfl (AWops.nil ?_))
     exact ⟨_, ⟨69, (upd 69 (upd 69 (upd 69 (upd 69 (upd 69 topF 0 (rf 0 0)) 1 (D.one (C.p false (.sl a1.length (a1.flatMap e_i64))))) 12 (D.one (C.own 2 0 r2.length 1))) 13 (si (r2.length : Int))) 14 (si (IntKind.i64.wrap (x7 + 1)))), [(some (AObj.cells false [(C.mp 1), (ci r18.room), (ci r18.used), (C.p true (.v (.pointer none))), (cb r18.dead)])), (om_ e_vdisk_file r18.files), (ow_ e_str r2)]⟩, by omega, (wg 2 [0, 1, 2] [] hx (le_upd (le_upd (le_upd (le_upd (le_upd (le_top _) (o1 (.ref rfl))) (o1 .same)) (o1 (.own rfl))) (o1 .sc)) (o1 .sc)) (ac (qs rfl) (ac .map (ac (.cells (fun _ => rfl) (all2_row _)) an)))), by omega, r18.room, r18.used, r18.dead, r18.files, IntKind.i64.wrap (x7 + 1), h, rfl⟩
   ·iterate 5 refine AWops.guard_no rfl (nl rfl) rfl c11 ?_
    refine s_pick_no (d := (sb false)) rfl c11 rfl (AWops.nil ?_)
    refine AW.cond_no rfl rfl (AW.skip (AW.region ?_))
    refine s_move (d := (rf 0 0)) rfl (s_move (d := (st_ v9)) rfl (s_fieldRef F.fo_65_0 (by decide) rfl (s_load1 (c' := (C.p false (.sl ((lk_vdisk_file v9 x6).b).length (((lk_vdisk_file v9 x6).b).flatMap e_u8)))) F.ag_22 rfl rfl (s_move (d := (si ((lk_vdisk_file v9 x6).sure))) rfl (s_move (d := (si ((lk_vdisk_file v9 x6).sure))) rfl ?_)))))
    obtain ⟨c19, h⟩ := gdH h
    have dc19 := of_decide_eq_true c19
    refine t_slice3Imm F.u_22 F.sz_5 e_u8_len rfl rfl rfl (by omega) (by omega) (s_move (d := (si ((lk_vdisk_file v9 x6).sure))) rfl (s_build (ps := [(0, (D.one (C.p false (.sl (sub ((lk_vdisk_file v9 x6).b) 0 ((lk_vdisk_file v9 x6).sure)).length ((sub ((lk_vdisk_file v9 x6).b) 0 ((lk_vdisk_file v9 x6).sure)).flatMap e_u8))))), (1, (si ((lk_vdisk_file v9 x6).sure)))]) (cs := [(C.p false (.sl (sub ((lk_vdisk_file v9 x6).b) 0 ((lk_vdisk_file v9 x6).sure)).length ((sub ((lk_vdisk_file v9 x6).b) 0 ((lk_vdisk_file v9 x6).sure)).flatMap e_u8))), (ci ((lk_vdisk_file v9 x6).sure))]) F.z_65 rfl F.so_65 rfl rfl ?_))
    obtain ⟨r20, er20, h⟩ := bnd h
    refine cc [0, 1] [(o_vdisk_Disk_03 false (C.mp 1) (C.p true (.v (.pointer none))) r20), (om_ e_vdisk_file r20.files), (ow_ e_str r2), (some (AObj.cells true (c_vdisk_file (lk_vdisk_file v9 x6))))] (D.tup []) F.ca_33 rfl rfl (ac (.one (.ref rfl)) (ac (.one .sc) (ac (LendT.aggL (ac .imm (ac .sc an))) an))) (ac (.cells (ac (.mp rfl) (ac .sc (ac .sc (ac .sc (ac .sc an)))))) (ac .map an)) (vdisk_Disk_set.meets _ (⟨x6, x3, x4, (), x5⟩ : vdisk_Disk) v9 (⟨sub ((lk_vdisk_file v9 x6).b) 0 ((lk_vdisk_file v9 x6).sure), (lk_vdisk_file v9 x6).sure⟩ : vdisk_file) r20 er20) (AWops.nil (AW.region ?_))
    refine s_binI (v := (.int .i64 (IntKind.i64.wrap (x7 + 1)))) rfl rfl rfl (s_move (d := (si (IntKind.i64.wrap (x7 + 1)))) rfl (AWops.nil ?_))
    exact ⟨_, ⟨69, (upd 69 (upd 69 (upd 69 (upd 69 (upd 69 topF 0 (rf 0 0)) 1 (D.one (C.p false (.sl a1.length (a1.flatMap e_i64))))) 12 (D.one (C.own 2 0 r2.length 1))) 13 (si (r2.length : Int))) 14 (si (IntKind.i64.wrap (x7 + 1)))), [(some (AObj.cells false [(C.mp 1), (ci r20.room), (ci r20.used), (C.p true (.v (.pointer none))), (cb r20.dead)])), (om_ e_vdisk_file r20.files), (ow_ e_str r2)]⟩, by omega, (wg 2 [0, 1, 2] [] hx (le_upd (le_upd (le_upd (le_upd (le_upd (le_top _) (o1 (.ref rfl))) (o1 .same)) (o1 (.own rfl))) (o1 .sc)) (o1 .sc)) (ac (qs rfl) (ac .map (ac (.cells (fun _ => rfl) (all2_row _)) an)))), by omega, r20.room, r20.used, r20.dead, r20.files, IntKind.i64.wrap (x7 + 1), h, rfl⟩
  ·refine AW.cond_no rfl c8 (AW.exit (AW.seq (AW.region ?_)))
   refine s_move (d := (rf 0 0)) rfl (s_move (d := (rf 0 0)) rfl (s_nilCheck (d := (rf 0 0)) rfl (.inl ⟨_, _, rfl⟩) (s_fieldRef F.fo_50_4 (by decide) rfl (s_store (cs' := [(C.mp 1), (ci x3), (ci x4), (C.p true (.v (.pointer none))), (cb false)]) rfl rfl rfl (List.cons_ne_nil _ _) rfl F.sz_4 (nl rfl) rfl (s_nilCheck (d := (rf 0 0)) rfl (.inl ⟨_, _, rfl⟩) ?_)))))
   refine s_fieldRef F.fo_50_3 (by decide) rfl (s_store (cs' := [(C.mp 1), (ci x3), (ci x4), (C.p true (.v (.pointer none))), (cb false)]) rfl rfl rfl (List.cons_ne_nil _ _) rfl F.sz_48 (nl rfl) rfl (AWops.nil (AW.seq (AW.region (s_assign (d := (si 0)) rfl (AWops.nil (AW.ret ?_)))))))
   obtain rfl := Option.some.inj h
   exact ⟨_, rfl, (wg 2 [0, 1] [] rfl (le_upd (le_top _) (o1 .sc)) (ac (qs rfl) (ac .map an)))⟩
def vdisk_Disk_Room.f (k : Nat) (p0 : vdisk_Disk) (a1 : Int) : Option (Int × vdisk_Disk) := (vdisk_Disk_none.f k p0).bind fun r1 => if (decide (a1 < 0)) = true then (some (1, p0)) else (if (decide (a1 > 4194304)) = true then (some (1, p0)) else (some (0, (⟨p0.files, a1, p0.used, (), p0.dead⟩ : vdisk_Disk))))
theorem vdisk_Disk_Room.meets (k : Nat) (p0 : vdisk_Disk) (a1 : Int) (r : Int × vdisk_Disk) (h : vdisk_Disk_Room.f k p0 a1 = some r) : Meets Try.prog 22 [(rf 0 0), (si a1)] [(o_vdisk_Disk_03 false (C.mp 1) (C.p true (.v (.pointer none))) p0), (om_ e_vdisk_file p0.files)] (si r.1) [(o_vdisk_Disk_03 false (C.mp 1) (C.p true (.v (.pointer none))) r.2), (om_ e_vdisk_file r.2.files)] := by
 unfold vdisk_Disk_Room.f at h
 refine Meets.of_body (n := 19) Try.func22 rfl rfl (nl rfl) fun x hx => ?_
 replace hx : x.k = 2 := hx
 show AW _ x _ _ ⟨19, fr0 [(rf 0 0), (si a1)], [(o_vdisk_Disk_03 false (C.mp 1) (C.p true (.v (.pointer none))) p0), (om_ e_vdisk_file p0.files)]⟩
 refine AW.seq (AW.region ?_)
 refine s_assign (d := (si 0)) rfl (AWops.nil (AW.seq (AW.block (AW.seq (AW.region ?_)))))
 refine s_move (d := (rf 0 0)) rfl ?_
 obtain ⟨r1, er1, h⟩ := bnd h
 have kr1 := vdisk_Disk_none.const er1
 subst kr1
 refine cc [0, 1] [(o_vdisk_Disk_03 false (C.mp 1) (C.p true (.v (.pointer none))) p0), (om_ e_vdisk_file p0.files)] (sb false) F.ca_35 rfl rfl (ac (.one (.ref rfl)) an) (ac (.cells (ac (.mp rfl) (ac .sc (ac .sc (ac .sc (ac .sc an)))))) (ac .map an)) (vdisk_Disk_none.meets _ p0 false er1) (s_assign (d := (sb false)) rfl (AWops.nil ?_))
 refine AW.cond_no rfl rfl (AW.seq (AW.region ?_))
 refine s_move (d := (si a1)) rfl (s_binI (v := (.bool (decide (a1 < 0)))) rfl rfl rfl (s_move (d := (sb (decide (a1 < 0)))) rfl ?_))
 rcases itH h with ⟨c2, h⟩ | ⟨c2, h⟩
 ·refine AWops.guard_no rfl (nl rfl) rfl c2 ?_
  refine AWops.guard_no rfl (nl rfl) rfl c2 ?_
  refine s_pick_yes (d := (sb true)) rfl c2 rfl (s_assign (d := (sb true)) rfl (AWops.nil ?_))
  refine AW.cond_yes rfl rfl (AW.seq (AW.region ?_))
  refine s_assign (d := (si 1)) rfl (AWops.nil (AW.ret ?_))
  obtain rfl := Option.some.inj h
  exact ⟨_, rfl, (wg 2 [0, 1] [] rfl (le_upd (le_top _) (o1 .sc)) (ac (qs rfl) (ac .map an)))⟩
 ·refine AWops.guard_yes rfl (nl rfl) rfl c2 ?_
  refine s_move (d := (si a1)) rfl ?_
  refine AWops.guard_yes rfl (nl rfl) rfl c2 ?_
  refine s_binI (v := (.bool (decide (a1 > 4194304)))) rfl rfl rfl (s_pick_no (d := (sb (decide (a1 > 4194304)))) rfl c2 rfl (s_assign (d := (sb (decide (a1 > 4194304)))) rfl (AWops.nil ?_)))
  rcases itH h with ⟨c3, h⟩ | ⟨c3, h⟩
  ·refine AW.cond_yes rfl c3 (AW.seq (AW.region ?_))
   refine s_assign (d := (si 1)) rfl (AWops.nil (AW.ret ?_))
   obtain rfl := Option.some.inj h
   exact ⟨_, rfl, (wg 2 [0, 1] [] rfl (le_upd (le_top _) (o1 .sc)) (ac (qs rfl) (ac .map an)))⟩
  ·refine AW.cond_no rfl c3 (AW.skip (AW.seq (AW.region ?_)))
   refine s_move (d := (rf 0 0)) rfl (s_move (d := (si a1)) rfl (s_nilCheck (d := (rf 0 0)) rfl (.inl ⟨_, _, rfl⟩) (s_fieldRef F.fo_50_1 (by decide) rfl (s_store (cs' := [(C.mp 1), (ci a1), (ci p0.used), (C.p true (.v (.pointer none))), (cb p0.dead)]) rfl rfl rfl (List.cons_ne_nil _ _) rfl F.sz_3 (nl rfl) rfl (AWops.nil (AW.seq (AW.region (s_assign (d := (si 0)) rfl (AWops.nil (AW.ret ?_))))))))))
   obtain rfl := Option.some.inj h
   exact ⟨_, rfl, (wg 2 [0, 1] [] rfl (le_upd (le_top _) (o1 .sc)) (ac (qs rfl) (ac .map an)))⟩
def dossierref03_Disk_Room.f (k : Nat) (p0 : dossierref03_Disk) (a1 : Int) : Option (Int × dossierref03_Disk) := if (decide (a1 < 0)) = true then (some (1, p0)) else (if (decide (a1 > 4194304)) = true then (some (1, p0)) else (some (0, (⟨p0.L, a1, p0.Burns, p0.Off⟩ : dossierref03_Disk))))
theorem dossierref03_Disk_Room.meets (k : Nat) (p0 : dossierref03_Disk) (a1 : Int) (r : Int × dossierref03_Disk) (h : dossierref03_Disk_Room.f k p0 a1 = some r) : Meets Try.prog 45 [(rf 0 0), (si a1)] [(o_dossierref03_Disk_0 false (C.own 1 0 p0.L.length 3) p0), (or_ e_dossierref03_File p0.L)] (si r.1) [(o_dossierref03_Disk_0 false (C.own 1 0 r.2.L.length 3) r.2), (or_ e_dossierref03_File r.2.L)] := by
 unfold dossierref03_Disk_Room.f at h
 refine Meets.of_body (n := 15) Try.func45 rfl rfl (nl rfl) fun x hx => ?_
 replace hx : x.k = 2 := hx
 show AW _ x _ _ ⟨15, fr0 [(rf 0 0), (si a1)], [(o_dossierref03_Disk_0 false (C.own 1 0 p0.L.length 3) p0), (or_ e_dossierref03_File p0.L)]⟩
 refine AW.seq (AW.region ?_)
 refine s_assign (d := (si 0)) rfl (AWops.nil (AW.seq (AW.seq (AW.region ?_))))
 refine s_move (d := (si a1)) rfl (s_binI (v := (.bool (decide (a1 < 0)))) rfl rfl rfl (s_move (d := (sb (decide (a1 < 0)))) rfl ?_))
 rcases itH h with ⟨c1, h⟩ | ⟨c1, h⟩
 ·refine AWops.guard_no rfl (nl rfl) rfl c1 ?_
  refine AWops.guard_no rfl (nl rfl) rfl c1 ?_
  refine s_pick_yes (d := (sb true)) rfl c1 rfl (AWops.nil ?_)
  refine AW.cond_yes rfl rfl (AW.seq (AW.region ?_))
  refine s_assign (d := (si 1)) rfl (AWops.nil (AW.ret ?_))
  obtain rfl := Option.some.inj h
  exact ⟨_, rfl, (wg 2 [0, 1] [] rfl (le_upd (le_top _) (o1 .sc)) (ac (qo rfl) (ac (.cells id (all2_row _)) an)))⟩
 ·refine AWops.guard_yes rfl (nl rfl) rfl c1 ?_
  refine s_move (d := (si a1)) rfl ?_
  refine AWops.guard_yes rfl (nl rfl) rfl c1 ?_
  refine s_binI (v := (.bool (decide (a1 > 4194304)))) rfl rfl rfl (s_pick_no (d := (sb (decide (a1 > 4194304)))) rfl c1 rfl (AWops.nil ?_))
  rcases itH h with ⟨c2, h⟩ | ⟨c2, h⟩
  ·refine AW.cond_yes rfl c2 (AW.seq (AW.region ?_))
   refine s_assign (d := (si 1)) rfl (AWops.nil (AW.ret ?_))
   obtain rfl := Option.some.inj h
   exact ⟨_, rfl, (wg 2 [0, 1] [] rfl (le_upd (le_top _) (o1 .sc)) (ac (qo rfl) (ac (.cells id (all2_row _)) an)))⟩
  ·refine AW.cond_no rfl c2 (AW.skip (AW.seq (AW.region ?_)))
   refine s_move (d := (rf 0 0)) rfl (s_move (d := (si a1)) rfl (s_nilCheck (d := (rf 0 0)) rfl (.inl ⟨_, _, rfl⟩) (s_fieldRef F.fo_72_1 (by decide) rfl (s_store (cs' := [(C.own 1 0 p0.L.length 3), (ci a1), (ci p0.Burns), (cb p0.Off)]) rfl rfl rfl (List.cons_ne_nil _ _) rfl F.sz_3 (nl rfl) rfl (AWops.nil (AW.seq (AW.region (s_assign (d := (si 0)) rfl (AWops.nil (AW.ret ?_))))))))))
   obtain rfl := Option.some.inj h
   exact ⟨_, rfl, (wg 2 [0, 1] [] rfl (le_upd (le_top _) (o1 .sc)) (ac (qo rfl) (ac (.cells id (all2_row _)) an)))⟩
mutual
def dossierplain_Step_Do_16.j0 : Nat → Bool → dossierplain_Step → vdisk_Disk → dossierref03_Disk → Option (Bool × vdisk_Disk × dossierref03_Disk × (Option Int))
 | 0, _, _, _, _ => none
 | k + 1, x2, a0, p0, p1 => if x2 = true then ((bytes_Clone.f k a0.B).bind fun r4 => (vdisk_Disk_Append.f k p0 a0.Name r4).bind fun r5 => (dossierplain_Spoil.f k () r4).bind fun r6 => (dossierref03_Disk_Append_38.f k p1 a0.Name a0.B).bind fun r7 => some ((r5.1 == r7.1), r5.2, r7.2, (none : Option Int))) else (if ((IntKind.i64.wrap (Int.tmod (IntKind.u64.wrap a0.Op) 9)) == 2) = true then ((vdisk_Disk_Sync.f k p0 a0.Name).bind fun r9 => (dossierref03_Disk_Sync_39.f k p1 a0.Name).bind fun r10 => some ((r9.1 == r10.1), r9.2, r10.2, (none : Option Int))) else (if ((IntKind.i64.wrap (Int.tmod (IntKind.u64.wrap a0.Op) 9)) == 3) = true then ((vdisk_Disk_Rename.f k p0 a0.Name a0.To).bind fun r12 => (dossierref03_Disk_Rename_40.f k p1 a0.Name a0.To).bind fun r13 => some ((r12.1 == r13.1), r12.2, r13.2, (none : Option Int))) else (if ((IntKind.i64.wrap (Int.tmod (IntKind.u64.wrap a0.Op) 9)) == 4) = true then ((vdisk_Disk_Truncate.f k p0 a0.Name a0.N).bind fun r15 => (dossierref03_Disk_Truncate_41.f k p1 a0.Name a0.N).bind fun r16 => some ((r15.1 == r16.1), r15.2, r16.2, (none : Option Int))) else (if ((IntKind.i64.wrap (Int.tmod (IntKind.u64.wrap a0.Op) 9)) == 5) = true then ((vdisk_Disk_Remove.f k p0 a0.Name).bind fun r18 => (dossierref03_Disk_Remove_42.f k p1 a0.Name).bind fun r19 => some ((r18.1 == r19.1), r18.2, r19.2, (none : Option Int))) else (if ((IntKind.i64.wrap (Int.tmod (IntKind.u64.wrap a0.Op) 9)) == 6) = true then ((vdisk_Disk_Fuse.f k p0 a0.N).bind fun r21 => optE r21.2.2 ((dossierref03_Disk_Fuse.f k p1 a0.N).bind fun r24 => some ((r21.1 == r24.1), r21.2.1, r24.2, (none : Option Int))) (fun y23 => (dossierref03_Disk_Fuse.f k p1 a0.N).bind fun r25 => some ((r21.1 == r25.1), r21.2.1, r25.2, some y23))) else (if ((IntKind.i64.wrap (Int.tmod (IntKind.u64.wrap a0.Op) 9)) == 7) = true then ((dossierref03_Disk_Crash_44.f k p1 a0.Keeps).bind fun r27 => (vdisk_Disk_Crash.f k p0 a0.Keeps).bind fun r28 => some ((r28.1 == 0), r28.2, r27, (none : Option Int))) else ((vdisk_Disk_Room.f k p0 a0.N).bind fun r29 => (dossierref03_Disk_Room.f k p1 a0.N).bind fun r30 => some ((r29.1 == r30.1), r29.2, r30.2, (none : Option Int)))))))))
end
def dossierplain_Step_Do_16.f (k : Nat) (a0 : dossierplain_Step) (p0 : vdisk_Disk) (p1 : dossierref03_Disk) : Option (Bool × vdisk_Disk × dossierref03_Disk × (Option Int)) := if ((IntKind.i64.wrap (Int.tmod (IntKind.u64.wrap a0.Op) 9)) == 0) = true then (dossierplain_Step_Do_16.j0 k ((IntKind.i64.wrap (Int.tmod (IntKind.u64.wrap a0.Op) 9)) == 0) a0 p0 p1) else (dossierplain_Step_Do_16.j0 k ((IntKind.i64.wrap (Int.tmod (IntKind.u64.wrap a0.Op) 9)) == 1) a0 p0 p1)
theorem dossierplain_Step_Do_16.meets (k : Nat) (a0 : dossierplain_Step) (p0 : vdisk_Disk) (p1 : dossierref03_Disk) (r : Bool × vdisk_Disk × dossierref03_Disk × (Option Int)) (h : dossierplain_Step_Do_16.f k a0 p0 p1 = some r) : Meets Try.prog 16 [(D.agg (c_dossierplain_Step a0)), (rf 0 0), (rf 1 0)] [(o_vdisk_Disk_03 false (C.mp 2) (C.p true (.v (.pointer none))) p0), (o_dossierref03_Disk_0 false (C.own 3 0 p1.L.length 3) p1), (om_ e_vdisk_file p0.files), (or_ e_dossierref03_File p1.L)] (optE r.2.2.2 (sb r.1) (fun z1 : Int => (sb r.1))) (optE r.2.2.2 [(o_vdisk_Disk_03 false (C.mp 2) (C.p true (.v (.pointer none))) r.2.1), (o_dossierref03_Disk_0 false (C.own 4 0 r.2.2.1.L.length 3) r.2.2.1), (om_ e_vdisk_file r.2.1.files), none, (or_ e_dossierref03_File r.2.2.1.L)] (fun z1 : Int => [(o_vdisk_Disk_03 false (C.mp 2) (C.ref 4 0) r.2.1), (o_dossierref03_Disk_0 false (C.own 5 0 r.2.2.1.L.length 3) r.2.2.1), (om_ e_vdisk_file r.2.1.files), none, (bx z1), (or_ e_dossierref03_File r.2.2.1.L)])) := by
 unfold dossierplain_Step_Do_16.f at h
 refine Meets.of_body (n := 119) Try.func16 rfl rfl (nl rfl) fun x hx => ?_
 replace hx : x.k = 4 := hx
 show AW _ x _ _ ⟨119, fr0 [(D.agg (c_dossierplain_Step a0)), (rf 0 0), (rf 1 0)], [(o_vdisk_Disk_03 false (C.mp 2) (C.p true (.v (.pointer none))) p0), (o_dossierref03_Disk_0 false (C.own 3 0 p1.L.length 3) p1), (om_ e_vdisk_file p0.files), (or_ e_dossierref03_File p1.L)]⟩
 refine AW.weak (st' := ⟨119, (upd 119 (upd 119 (upd 119 topF 0 (D.agg (c_dossierplain_Step a0))) 1 (rf 0 0)) 2 (rf 1 0)), [(o_vdisk_Disk_03 false (C.mp 2) (C.p true (.v (.pointer none))) p0), (o_dossierref03_Disk_0 false (C.own 4 0 p1.L.length 3) p1), (om_ e_vdisk_file p0.files), none, (or_ e_dossierref03_File p1.L)]⟩) (Weak.genL (kk := 4) [0, 1, 2, 3, 3] [] hx rfl (by decide) rfl rfl rfl rfl (le_upd (le_upd (le_upd (le_top _) (.t (.agg (ac .sc (ac .sc (ac .sc (ac .sc (ac .same (ac .same an))))))))) (o1 (.ref rfl))) (o1 (.ref rfl))) (ac (qs rfl) (ac (qo rfl) (ac .map (ac (.none _) (ac (.cells id (all2_row _)) an)))))) (AW.seq (AW.region ?_))
 refine s_box (cs := (c_dossierplain_Step a0)) rfl (List.cons_ne_nil _ _) rfl (s_assign (d := (sb false)) rfl (AWops.nil (AW.seq (AW.seq (AW.region (s_fieldRef F.fo_43_0 (by decide) rfl (s_load1 (c' := (ci a0.Op)) F.ag_3 rfl rfl (s_convI F.u_3 F.u_38 rfl (s_binI (v := (.int .u64 (Int.tmod (IntKind.u64.wrap a0.Op) 9))) rfl rfl rfl ?_)))))))))
 refine s_convI F.u_38 F.u_3 rfl (AWops.nil (AW.block ?_))
 refine AW.seqJ (fun st => ∃ (x2 : Bool), dossierplain_Step_Do_16.j0 k x2 a0 p0 p1 = some r ∧ st = ⟨119, (upd 119 (upd 119 (upd 119 (upd 119 (upd 119 topF 1 (rf 0 0)) 2 (rf 1 0)) 3 (rf 4 0)) 13 (si (IntKind.i64.wrap (Int.tmod (IntKind.u64.wrap a0.Op) 9)))) 14 (sb x2)), [(o_vdisk_Disk_03 false (C.mp 2) (C.p true (.v (.pointer none))) p0), (o_dossierref03_Disk_0 false (C.own 5 0 p1.L.length 3) p1), (om_ e_vdisk_file p0.files), none, (some (AObj.cells true (c_dossierplain_Step a0))), (or_ e_dossierref03_File p1.L)]⟩) ?_ ?_
 ·refine AW.seq (AW.region ?_)
  refine s_binI (v := (.bool ((IntKind.i64.wrap (Int.tmod (IntKind.u64.wrap a0.Op) 9)) == 0))) rfl rfl rfl (s_assign (d := (sb ((IntKind.i64.wrap (Int.tmod (IntKind.u64.wrap a0.Op) 9)) == 0))) rfl (AWops.nil ?_))
  rcases itH h with ⟨c1, h⟩ | ⟨c1, h⟩
  ·refine AW.cond_yes rfl c1 (AW.skip ?_)
   exact ⟨⟨119, (upd 119 (upd 119 (upd 119 (upd 119 (upd 119 topF 1 (rf 0 0)) 2 (rf 1 0)) 3 (rf 4 0)) 13 (si (IntKind.i64.wrap (Int.tmod (IntKind.u64.wrap a0.Op) 9)))) 14 (sb ((IntKind.i64.wrap (Int.tmod (IntKind.u64.wrap a0.Op) 9)) == 0))), [(o_vdisk_Disk_03 false (C.mp 2) (C.p true (.v (.pointer none))) p0), (o_dossierref03_Disk_0 false (C.own 5 0 p1.L.length 3) p1), (om_ e_vdisk_file p0.files), none, (some (AObj.cells true (c_dossierplain_Step a0))), (or_ e_dossierref03_File p1.L)]⟩, (wg 4 [0, 1, 2, 3, 5, 4] [] hx (le_upd (le_upd (le_upd (le_upd (le_upd (le_top _) (o1 (.ref rfl))) (o1 (.ref rfl))) (o1 (.ref rfl))) (o1 .sc)) (o1 .sc)) (ac (qs rfl) (ac (qo rfl) (ac .map (ac (.none _) (ac (.cells (fun _ => rfl) (ac .sc (ac .sc (ac .sc (ac .sc (ac .same (ac .same an))))))) (ac (.cells id (all2_row _)) an))))))), ((IntKind.i64.wrap (Int.tmod (IntKind.u64.wrap a0.Op) 9)) == 0), h, rfl⟩
  ·refine AW.cond_no rfl c1 (AW.region ?_)
   refine s_binI (v := (.bool ((IntKind.i64.wrap (Int.tmod (IntKind.u64.wrap a0.Op) 9)) == 1))) rfl rfl rfl (s_assign (d := (sb ((IntKind.i64.wrap (Int.tmod (IntKind.u64.wrap a0.Op) 9)) == 1))) rfl (AWops.nil ?_))
   exact ⟨⟨119, (upd 119 (upd 119 (upd 119 (upd 119 (upd 119 topF 1 (rf 0 0)) 2 (rf 1 0)) 3 (rf 4 0)) 13 (si (IntKind.i64.wrap (Int.tmod (IntKind.u64.wrap a0.Op) 9)))) 14 (sb ((IntKind.i64.wrap (Int.tmod (IntKind.u64.wrap a0.Op) 9)) == 1))), [(o_vdisk_Disk_03 false (C.mp 2) (C.p true (.v (.pointer none))) p0), (o_dossierref03_Disk_0 false (C.own 5 0 p1.L.length 3) p1), (om_ e_vdisk_file p0.files), none, (some (AObj.cells true (c_dossierplain_Step a0))), (or_ e_dossierref03_File p1.L)]⟩, (wg 4 [0, 1, 2, 3, 5, 4] [] hx (le_upd (le_upd (le_upd (le_upd (le_upd (le_top _) (o1 (.ref rfl))) (o1 (.ref rfl))) (o1 (.ref rfl))) (o1 .sc)) (o1 .sc)) (ac (qs rfl) (ac (qo rfl) (ac .map (ac (.none _) (ac (.cells (fun _ => rfl) (ac .sc (ac .sc (ac .sc (ac .sc (ac .same (ac .same an))))))) (ac (.cells id (all2_row _)) an))))))), ((IntKind.i64.wrap (Int.tmod (IntKind.u64.wrap a0.Op) 9)) == 1), h, rfl⟩
 ·rintro st ⟨x2, h, rfl⟩
  cases k with
  | zero => exact absurd h (by simp [dossierplain_Step_Do_16.j0])
  | succ qj0 =>
   replace h := (dossierplain_Step_Do_16.j0.eq_2 _ _ _ _ _).symm.trans h
   rcases itH h with ⟨c3, h⟩ | ⟨c3, h⟩
   ·refine AW.cond_yes rfl c3 (AW.seq (AW.region ?_))
    refine s_fieldRef F.fo_43_4 (by decide) rfl (s_load1 (c' := (C.p false (.sl a0.B.length (a0.B.flatMap e_u8)))) F.ag_22 rfl rfl ?_)
    obtain ⟨r4, er4, h⟩ := bnd h
    refine cc [] [(o_vdisk_Disk_03 false (C.mp 2) (C.p true (.v (.pointer none))) p0), (o_dossierref03_Disk_0 false (C.own 5 0 p1.L.length 3) p1), (om_ e_vdisk_file p0.files), none, (some (AObj.cells true (c_dossierplain_Step a0))), (or_ e_dossierref03_File p1.L), (ow_ e_u8 r4)] (D.one (C.own 6 0 r4.length 1)) F.ca_37 rfl rfl (ac (.one .imm) an) an (bytes_Clone.meets _ a0.B r4 er4) (s_assign (d := (D.one (C.own 6 0 r4.length 1))) rfl (AWops.nil (AW.seq (AW.region (s_move (d := (rf 0 0)) rfl (s_fieldRef F.fo_43_2 (by decide) rfl (s_load1 (c' := (ct a0.Name)) F.ag_9 rfl rfl (s_move (d := (D.one (C.own 6 0 r4.length 1))) rfl ?_))))))))
    obtain ⟨r5, er5, h⟩ := bnd h
    refine cc [0, 6, 2] [(o_vdisk_Disk_03 false (C.mp 2) (C.p true (.v (.pointer none))) r5.2), (o_dossierref03_Disk_0 false (C.own 5 0 p1.L.length 3) p1), (om_ e_vdisk_file r5.2.files), none, (some (AObj.cells true (c_dossierplain_Step a0))), (or_ e_dossierref03_File p1.L), (ow_ e_u8 r4)] (si r5.1) F.ca_9 rfl rfl (ac (.one (.ref rfl)) (ac (.one .sc) (ac (.one (.own rfl)) an))) (ac (.cells (ac (.mp rfl) (ac .sc (ac .sc (ac .sc (ac .sc an)))))) (ac (.cells (lend_row _)) (ac .map an))) (vdisk_Disk_Append.meets _ p0 a0.Name r4 r5 er5) (s_assign (d := (si r5.1)) rfl (AWops.nil (AW.seq (AW.region (s_move (d := (D.one (C.own 6 0 r4.length 1))) rfl (s_buildSlice (n := 1) (ps := [(0, (D.one (C.own 6 0 r4.length 1)))]) (cs := [(C.own 6 0 r4.length 1)]) F.u_23 F.sz_22 F.z_22 rfl rfl (by decide) (by decide) rfl rfl ?_))))))
    obtain ⟨r6, er6, h⟩ := bnd h
    refine cc [7, 6] [(o_vdisk_Disk_03 false (C.mp 2) (C.p true (.v (.pointer none))) r5.2), (o_dossierref03_Disk_0 false (C.own 5 0 p1.L.length 3) p1), (om_ e_vdisk_file r5.2.files), none, (some (AObj.cells true (c_dossierplain_Step a0))), (or_ e_dossierref03_File p1.L), (ow_ e_u8 r6), (some (AObj.cells true [(C.own 6 0 r6.length 1)]))] (D.tup []) F.ca_29 rfl rfl (ac (.one (.own rfl)) an) (ac (.cells (ac (.own rfl) an)) (ac (.cells (lend_row _)) an)) (dossierplain_Spoil.meets _ () r4 r6 er6) (AWops.nil (AW.seq (AW.region ?_)))
    refine s_move (d := (si r5.1)) rfl (s_move (d := (rf 1 0)) rfl (s_fieldRef F.fo_43_2 (by decide) rfl (s_load1 (c' := (ct a0.Name)) F.ag_9 rfl rfl (s_fieldRef F.fo_43_4 (by decide) rfl (s_load1 (c' := (C.p false (.sl a0.B.length (a0.B.flatMap e_u8)))) F.ag_22 rfl rfl ?_)))))
    obtain ⟨r7, er7, h⟩ := bnd h
    refine cc [1, 5] [(o_vdisk_Disk_03 false (C.mp 2) (C.p true (.v (.pointer none))) r5.2), (o_dossierref03_Disk_0 false (C.own 8 0 r7.2.L.length 3) r7.2), (om_ e_vdisk_file r5.2.files), none, (some (AObj.cells true (c_dossierplain_Step a0))), none, (ow_ e_u8 r6), (some (AObj.cells true [(C.own 6 0 r6.length 1)])), (or_ e_dossierref03_File r7.2.L)] (si r7.1) F.ca_38 rfl rfl (ac (.one (.ref rfl)) (ac (.one .sc) (ac (.one .imm) an))) (ac (.cells (ac (.own rfl) (ac .sc (ac .sc (ac .sc an))))) (ac (.cells (lend_row _)) an)) (dossierref03_Disk_Append_38.meets _ p1 a0.Name a0.B r7 er7) (s_binI (v := (.bool (r5.1 == r7.1))) rfl rfl rfl (s_assign (d := (sb (r5.1 == r7.1))) rfl (AWops.nil (AW.ret ?_))))
    obtain rfl := Option.some.inj h
    exact ⟨_, rfl, (wg 4 [0, 1, 2, 3, 8] [] rfl (le_upd (le_top _) (o1 .sc)) (ac (qs rfl) (ac (qo rfl) (ac .map (ac (.none _) (ac (.cells id (all2_row _)) an))))))⟩
   ·refine AW.cond_no rfl c3 (AW.seq (AW.region ?_))
    refine s_binI (v := (.bool ((IntKind.i64.wrap (Int.tmod (IntKind.u64.wrap a0.Op) 9)) == 2))) rfl rfl rfl (s_assign (d := (sb ((IntKind.i64.wrap (Int.tmod (IntKind.u64.wrap a0.Op) 9)) == 2))) rfl (AWops.nil ?_))
    rcases itH h with ⟨c8, h⟩ | ⟨c8, h⟩
    ·refine AW.cond_yes rfl c8 (AW.seq ?_)
     refine AW.weak (st' := ⟨119, (upd 119 (upd 119 (upd 119 topF 1 (rf 0 0)) 2 (rf 1 0)) 3 (rf 4 0)), [(o_vdisk_Disk_03 false (C.mp 2) (C.p true (.v (.pointer none))) p0), (o_dossierref03_Disk_0 false (C.own 5 0 p1.L.length 3) p1), (om_ e_vdisk_file p0.files), none, (some (AObj.cells true (c_dossierplain_Step a0))), (or_ e_dossierref03_File p1.L)]⟩) (wg 4 [0, 1, 2, 3, 4, 5] [] hx (le_upd (le_upd (le_upd (le_top _) (o1 (.ref rfl))) (o1 (.ref rfl))) (o1 (.ref rfl))) (ac (qs rfl) (ac (qo rfl) (ac .map (ac (.none _) (ac (.cells (fun _ => rfl) (ac .sc (ac .sc (ac .sc (ac .sc (ac .same (ac .same an))))))) (ac (.cells id (all2_row _)) an))))))) ?_
     obtain ⟨r9, er9, h⟩ := bnd h
     obtain ⟨r10, er10, h⟩ := bnd h
     refine AW.draw (n := 119) (L := 8) [(ft 0 38 (rf 0 0) [(1, (rf 0 0))]), (ft 1 39 (rf 4 2) [(3, (rf 4 0))]), (2, ⟨some 40, (st_ a0.Name), [(39, (rf 4 2))], [(4, (some (AObj.cells true (c_dossierplain_Step a0))))], [], none⟩), (3, ⟨some 41, (si r9.1), [(38, (rf 0 0)), (40, (st_ a0.Name))], [(0, (o_vdisk_Disk_03 false (C.mp 2) (C.p true (.v (.pointer none))) p0)), (2, (om_ e_vdisk_file p0.files))], [(0, (o_vdisk_Disk_03 false (C.mp 2) (C.p true (.v (.pointer none))) r9.2)), (2, (om_ e_vdisk_file r9.2.files))], none⟩), (ft 4 42 (rf 1 0) [(2, (rf 1 0))]), (ft 5 43 (rf 4 2) [(3, (rf 4 0))]), (6, ⟨some 44, (st_ a0.Name), [(43, (rf 4 2))], [(4, (some (AObj.cells true (c_dossierplain_Step a0))))], [], none⟩), (7, ⟨some 45, (si r10.1), [(42, (rf 1 0)), (44, (st_ a0.Name))], [(1, (o_dossierref03_Disk_0 false (C.own 5 0 p1.L.length 3) p1)), (5, (or_ e_dossierref03_File p1.L))], [(1, (o_dossierref03_Disk_0 false (C.own 7 0 r10.2.L.length 3) r10.2)), (5, none), (7, (or_ e_dossierref03_File r10.2.L))], some 7⟩), (ft 8 46 (sb (r9.1 == r10.1)) [(41, (si r9.1)), (45, (si r10.1))]), (ft 9 6 (sb (r9.1 == r10.1)) [(46, (sb (r9.1 == r10.1)))])] [[], [], [1], [0, 1, 2], [], [], [5], (.range 7), (.range 8), (.range 9)] (nl rfl) [0, 0, 1, 2, 0, 0, 1, 3, 4, 5] rfl (TK := [(7, 7)]) rfl (AllK.cons' ⟨(tk_upd (tk_upd (tk_upd tk_top rfl) rfl) rfl), (tC rfl (tC rfl (tC rfl (tC rfl (tC rfl (tC (tkO_row _) AllT.nil')))))), (fC (.inr rfl) (fC (.inr rfl) (fC (.inr rfl) (fC (.inr rfl) (fC (.inr rfl) (fC (.inr rfl) (fC (.inr rfl) (fC (.inl rfl) (fC (.inl rfl) (fC (.inl rfl) AllF.nil'))))))))))⟩ AllK.nil') (by repeat (first | refine fC ⟨?_, ?_⟩ ?_ | refine sC rfl ?_ | refine hC rfl ?_ | trivial)) ?_ ?_
     ·refine y8 ?_ ?_ ?_ ?_ ?_ ?_ ?_ ?_ (y2 ?_ ?_ yN)
      ·intro K _ f w u k
       show Wp K ⟨119, (upd 119 f 1 (rf 0 0)), _⟩
       refine s_move (d := (rf 0 0)) rfl k
      ·intro K _ f w u k
       show Wp K ⟨119, (upd 119 f 3 (rf 4 0)), [_, _, _, _, _, _, _, _]⟩
       refine s_fieldRef F.fo_43_2 (by decide) rfl k
      ·intro K _ f w u k
       show Wp K ⟨119, (upd 119 f 39 (rf 4 2)), [_, _, _, _, (some (AObj.cells true (c_dossierplain_Step a0))), _, _, _]⟩
       refine s_load1 (c' := (ct a0.Name)) F.ag_9 rfl rfl k
      ·intro K _ f w u k
       show Wp K ⟨119, (upd 119 (upd 119 f 40 (st_ a0.Name)) 38 (rf 0 0)), [(o_vdisk_Disk_03 false (C.mp 2) (C.p true (.v (.pointer none))) p0), _, (om_ e_vdisk_file p0.files), _, _, _, _, _]⟩
       refine cc [0, 2] [(o_vdisk_Disk_03 false (C.mp 2) (C.p true (.v (.pointer none))) r9.2), (w 1), (om_ e_vdisk_file r9.2.files), (w 3), (w 4), (w 5), (w 6), (w 7)] (si r9.1) F.ca_10 rfl rfl (ac (.one (.ref rfl)) (ac (.one .sc) an)) (ac (.cells (ac (.mp rfl) (ac .sc (ac .sc (ac .sc (ac .sc an)))))) (ac .map an)) (vdisk_Disk_Sync.meets _ p0 a0.Name r9 er9) k
      ·intro K _ f w u k
       show Wp K ⟨119, (upd 119 f 2 (rf 1 0)), _⟩
       refine s_move (d := (rf 1 0)) rfl k
      ·intro K _ f w u k
       show Wp K ⟨119, (upd 119 f 3 (rf 4 0)), [_, _, _, _, _, _, _, _]⟩
       refine s_fieldRef F.fo_43_2 (by decide) rfl k
      ·intro K _ f w u k
       show Wp K ⟨119, (upd 119 f 43 (rf 4 2)), [_, _, _, _, (some (AObj.cells true (c_dossierplain_Step a0))), _, _, _]⟩
       refine s_load1 (c' := (ct a0.Name)) F.ag_9 rfl rfl k
      ·intro K _ f w u k
       show Wp K ⟨119, (upd 119 (upd 119 f 44 (st_ a0.Name)) 42 (rf 1 0)), [_, (o_dossierref03_Disk_0 false (C.own 5 0 p1.L.length 3) p1), _, _, _, (or_ e_dossierref03_File p1.L), _, _]⟩
       refine cc [1, 5] [(w 0), (o_dossierref03_Disk_0 false (C.own 8 0 r10.2.L.length 3) r10.2), (w 2), (w 3), (w 4), none, (w 6), (w 7), (or_ e_dossierref03_File r10.2.L)] (si r10.1) F.ca_39 rfl rfl (ac (.one (.ref rfl)) (ac (.one .sc) an)) (ac (.cells (ac (.own rfl) (ac .sc (ac .sc (ac .sc an))))) (ac (.cells (lend_row _)) an)) (dossierref03_Disk_Sync_39.meets _ p1 a0.Name r10 er10) ?_
       refine AWops.weak (st' := ⟨119, (upd 119 (upd 119 (upd 119 f 44 (st_ a0.Name)) 42 (rf 1 0)) 45 (si r10.1)), [(w 0), (o_dossierref03_Disk_0 false (C.own 7 0 r10.2.L.length 3) r10.2), (w 2), (w 3), (w 4), none, (w 6), (or_ e_dossierref03_File r10.2.L)]⟩) (wg 4 [0, 1, 2, 3, 4, 5, 6, 8] [] hx (le_upd2 (le_ok (p := 7) (L := 8) rfl (u 7 rfl).1) (o1 .sc)) (ac (oq 7 8 (u 7 rfl) 0) (ac (qo rfl) (ac (oq 7 8 (u 7 rfl) 2) (ac (oq 7 8 (u 7 rfl) 3) (ac (oq 7 8 (u 7 rfl) 4) (ac (.none _) (ac (oq 7 8 (u 7 rfl) 6) (ac (.cells id (all2_row _)) an))))))))) k
      ·intro K _ f w u k
       show Wp K ⟨119, (upd 119 (upd 119 f 45 (si r10.1)) 41 (si r9.1)), _⟩
       refine s_binI (v := (.bool (r9.1 == r10.1))) rfl rfl rfl k
      ·intro K _ f w u k
       show Wp K ⟨119, (upd 119 f 46 (sb (r9.1 == r10.1))), _⟩
       refine s_assign (d := (sb (r9.1 == r10.1))) rfl k
     ·refine AWops.weak (st' := ⟨119, (upd 119 topF 6 (sb (r9.1 == r10.1))), [(o_vdisk_Disk_03 false (C.mp 2) (C.p true (.v (.pointer none))) r9.2), (o_dossierref03_Disk_0 false (C.own 4 0 r10.2.L.length 3) r10.2), (om_ e_vdisk_file r9.2.files), none, (or_ e_dossierref03_File r10.2.L)]⟩) (wg 4 [0, 1, 2, 3, 7] [] hx (le_upd (le_top _) (o1 .sc)) (ac (qs rfl) (ac (qo rfl) (ac .map (ac (.none _) (ac (.cells id (all2_row _)) an)))))) (AWops.nil (AW.ret ?_))
      obtain rfl := Option.some.inj h
      exact ⟨_, rfl, (wg 4 [0, 1, 2, 3, 4] [] rfl (le_upd (le_top _) (o1 .sc)) (ac (qs rfl) (ac (qo rfl) (ac .map (ac (.none _) (ac (.cells id (all2_row _)) an))))))⟩
    ·refine AW.cond_no rfl c8 (AW.seq (AW.region ?_))
     refine s_binI (v := (.bool ((IntKind.i64.wrap (Int.tmod (IntKind.u64.wrap a0.Op) 9)) == 3))) rfl rfl rfl (s_assign (d := (sb ((IntKind.i64.wrap (Int.tmod (IntKind.u64.wrap a0.Op) 9)) == 3))) rfl (AWops.nil ?_))
     rcases itH h with ⟨c11, h⟩ | ⟨c11, h⟩
     ·refine AW.cond_yes rfl c11 (AW.seq ?_)
      refine AW.weak (st' := ⟨119, (upd 119 (upd 119 (upd 119 topF 1 (rf 0 0)) 2 (rf 1 0)) 3 (rf 4 0)), [(o_vdisk_Disk_03 false (C.mp 2) (C.p true (.v (.pointer none))) p0), (o_dossierref03_Disk_0 false (C.own 5 0 p1.L.length 3) p1), (om_ e_vdisk_file p0.files), none, (some (AObj.cells true (c_dossierplain_Step a0))), (or_ e_dossierref03_File p1.L)]⟩) (wg 4 [0, 1, 2, 3, 4, 5] [] hx (le_upd (le_upd (le_upd (le_top _) (o1 (.ref rfl))) (o1 (.ref rfl))) (o1 (.ref rfl))) (ac (qs rfl) (ac (qo rfl) (ac .map (ac (.none _) (ac (.cells (fun _ => rfl) (ac .sc (ac .sc (ac .sc (ac .sc (ac .same (ac .same an))))))) (ac (.cells id (all2_row _)) an))))))) ?_
      obtain ⟨r12, er12, h⟩ := bnd h
      obtain ⟨r13, er13, h⟩ := bnd h
      refine AW.draw (n := 119) (L := 8) [(ft 0 49 (rf 0 0) [(1, (rf 0 0))]), (ft 1 50 (rf 4 2) [(3, (rf 4 0))]), (2, ⟨some 51, (st_ a0.Name), [(50, (rf 4 2))], [(4, (some (AObj.cells true (c_dossierplain_Step a0))))], [], none⟩), (ft 3 52 (rf 4 3) [(3, (rf 4 0))]), (4, ⟨some 53, (st_ a0.To), [(52, (rf 4 3))], [(4, (some (AObj.cells true (c_dossierplain_Step a0))))], [], none⟩), (5, ⟨some 54, (si r12.1), [(49, (rf 0 0)), (51, (st_ a0.Name)), (53, (st_ a0.To))], [(0, (o_vdisk_Disk_03 false (C.mp 2) (C.p true (.v (.pointer none))) p0)), (2, (om_ e_vdisk_file p0.files))], [(0, (o_vdisk_Disk_03 false (C.mp 2) (C.p true (.v (.pointer none))) r12.2)), (2, (om_ e_vdisk_file r12.2.files))], none⟩), (ft 6 55 (rf 1 0) [(2, (rf 1 0))]), (ft 7 56 (rf 4 2) [(3, (rf 4 0))]), (8, ⟨some 57, (st_ a0.Name), [(56, (rf 4 2))], [(4, (some (AObj.cells true (c_dossierplain_Step a0))))], [], none⟩), (ft 9 58 (rf 4 3) [(3, (rf 4 0))]), (10, ⟨some 59, (st_ a0.To), [(58, (rf 4 3))], [(4, (some (AObj.cells true (c_dossierplain_Step a0))))], [], none⟩), (11, ⟨some 60, (si r13.1), [(55, (rf 1 0)), (57, (st_ a0.Name)), (59, (st_ a0.To))], [(1, (o_dossierref03_Disk_0 false (C.own 5 0 p1.L.length 3) p1)), (5, (or_ e_dossierref03_File p1.L))], [(1, (o_dossierref03_Disk_0 false (C.own 7 0 r13.2.L.length 3) r13.2)), (5, none), (7, (or_ e_dossierref03_File r13.2.L))], some 7⟩), (ft 12 61 (sb (r12.1 == r13.1)) [(54, (si r12.1)), (60, (si r13.1))]), (ft 13 6 (sb (r12.1 == r13.1)) [(61, (sb (r12.1 == r13.1)))])] [[], [], [1], [], [3], (.range 5), [], [], [7], [], [9], (.range 11), (.range 12), (.range 13)] (nl rfl) [0, 0, 1, 0, 1, 2, 0, 0, 1, 0, 1, 3, 4, 5] rfl (TK := [(11, 7)]) rfl (AllK.cons' ⟨(tk_upd (tk_upd (tk_upd tk_top rfl) rfl) rfl), (tC rfl (tC rfl (tC rfl (tC rfl (tC rfl (tC (tkO_row _) AllT.nil')))))), (by repeat (first | refine fC (.inl rfl) ?_ | refine fC (.inr rfl) ?_ | refine fC (.inr (by unfold tkFoot; simp only [List.all_cons, List.all_nil, tkO_row, Bool.and_true, Bool.true_and]; rfl)) ?_ | trivial))⟩ AllK.nil') (by repeat (first | refine fC ⟨?_, ?_⟩ ?_ | refine sC rfl ?_ | refine hC rfl ?_ | trivial)) ?_ ?_
      ·refine y8 ?_ ?_ ?_ ?_ ?_ ?_ ?_ ?_ (y4 ?_ ?_ ?_ ?_ (y2 ?_ ?_ yN))
       ·intro K _ f w u k
        show Wp K ⟨119, (upd 119 f 1 (rf 0 0)), _⟩
        refine s_move (d := (rf 0 0)) rfl k
       ·intro K _ f w u k
        show Wp K ⟨119, (upd 119 f 3 (rf 4 0)), [_, _, _, _, _, _, _, _]⟩
        refine s_fieldRef F.fo_43_2 (by decide) rfl k
       ·intro K _ f w u k
        show Wp K ⟨119, (upd 119 f 50 (rf 4 2)), [_, _, _, _, (some (AObj.cells true (c_dossierplain_Step a0))), _, _, _]⟩
        refine s_load1 (c' := (ct a0.Name)) F.ag_9 rfl rfl k
       ·intro K _ f w u k
        show Wp K ⟨119, (upd 119 f 3 (rf 4 0)), [_, _, _, _, _, _, _, _]⟩
        refine s_fieldRef F.fo_43_3 (by decide) rfl k
       ·intro K _ f w u k
        show Wp K ⟨119, (upd 119 f 52 (rf 4 3)), [_, _, _, _, (some (AObj.cells true (c_dossierplain_Step a0))), _, _, _]⟩
        refine s_load1 (c' := (ct a0.To)) F.ag_9 rfl rfl k
       ·intro K _ f w u k
        show Wp K ⟨119, (upd 119 (upd 119 (upd 119 f 53 (st_ a0.To)) 51 (st_ a0.Name)) 49 (rf 0 0)), [(o_vdisk_Disk_03 false (C.mp 2) (C.p true (.v (.pointer none))) p0), _, (om_ e_vdisk_file p0.files), _, _, _, _, _]⟩
        refine cc [0, 2] [(o_vdisk_Disk_03 false (C.mp 2) (C.p true (.v (.pointer none))) r12.2), (w 1), (om_ e_vdisk_file r12.2.files), (w 3), (w 4), (w 5), (w 6), (w 7)] (si r12.1) F.ca_18 rfl rfl (ac (.one (.ref rfl)) (ac (.one .sc) (ac (.one .sc) an))) (ac (.cells (ac (.mp rfl) (ac .sc (ac .sc (ac .sc (ac .sc an)))))) (ac .map an)) (vdisk_Disk_Rename.meets _ p0 a0.Name a0.To r12 er12) k
       ·intro K _ f w u k
        show Wp K ⟨119, (upd 119 f 2 (rf 1 0)), _⟩
        refine s_move (d := (rf 1 0)) rfl k
       ·intro K _ f w u k
        show Wp K ⟨119, (upd 119 f 3 (rf 4 0)), [_, _, _, _, _, _, _, _]⟩
        refine s_fieldRef F.fo_43_2 (by decide) rfl k
       ·intro K _ f w u k
        show Wp K ⟨119, (upd 119 f 56 (rf 4 2)), [_, _, _, _, (some (AObj.cells true (c_dossierplain_Step a0))), _, _, _]⟩
        refine s_load1 (c' := (ct a0.Name)) F.ag_9 rfl rfl k
       ·intro K _ f w u k
        show Wp K ⟨119, (upd 119 f 3 (rf 4 0)), [_, _, _, _, _, _, _, _]⟩
        refine s_fieldRef F.fo_43_3 (by decide) rfl k
       ·intro K _ f w u k
        show Wp K ⟨119, (upd 119 f 58 (rf 4 3)), [_, _, _, _, (some (AObj.cells true (c_dossierplain_Step a0))), _, _, _]⟩
        refine s_load1 (c' := (ct a0.To)) F.ag_9 rfl rfl k
       ·intro K _ f w u k
        show Wp K ⟨119, (upd 119 (upd 119 (upd 119 f 59 (st_ a0.To)) 57 (st_ a0.Name)) 55 (rf 1 0)), [_, (o_dossierref03_Disk_0 false (C.own 5 0 p1.L.length 3) p1), _, _, _, (or_ e_dossierref03_File p1.L), _, _]⟩
        refine cc [1, 5] [(w 0), (o_dossierref03_Disk_0 false (C.own 8 0 r13.2.L.length 3) r13.2), (w 2), (w 3), (w 4), none, (w 6), (w 7), (or_ e_dossierref03_File r13.2.L)] (si r13.1) F.ca_40 rfl rfl (ac (.one (.ref rfl)) (ac (.one .sc) (ac (.one .sc) an))) (ac (.cells (ac (.own rfl) (ac .sc (ac .sc (ac .sc an))))) (ac (.cells (lend_row _)) an)) (dossierref03_Disk_Rename_40.meets _ p1 a0.Name a0.To r13 er13) ?_
        refine AWops.weak (st' := ⟨119, (upd 119 (upd 119 (upd 119 (upd 119 f 59 (st_ a0.To)) 57 (st_ a0.Name)) 55 (rf 1 0)) 60 (si r13.1)), [(w 0), (o_dossierref03_Disk_0 false (C.own 7 0 r13.2.L.length 3) r13.2), (w 2), (w 3), (w 4), none, (w 6), (or_ e_dossierref03_File r13.2.L)]⟩) (wg 4 [0, 1, 2, 3, 4, 5, 6, 8] [] hx (le_upd2 (le_ok (p := 7) (L := 8) rfl (u 7 rfl).1) (o1 .sc)) (ac (oq 7 8 (u 7 rfl) 0) (ac (qo rfl) (ac (oq 7 8 (u 7 rfl) 2) (ac (oq 7 8 (u 7 rfl) 3) (ac (oq 7 8 (u 7 rfl) 4) (ac (.none _) (ac (oq 7 8 (u 7 rfl) 6) (ac (.cells id (all2_row _)) an))))))))) k
       ·intro K _ f w u k
        show Wp K ⟨119, (upd 119 (upd 119 f 60 (si r13.1)) 54 (si r12.1)), _⟩
        refine s_binI (v := (.bool (r12.1 == r13.1))) rfl rfl rfl k
       ·intro K _ f w u k
        show Wp K ⟨119, (upd 119 f 61 (sb (r12.1 == r13.1))), _⟩
        refine s_assign (d := (sb (r12.1 == r13.1))) rfl k
      ·refine AWops.weak (st' := ⟨119, (upd 119 topF 6 (sb (r12.1 == r13.1))), [(o_vdisk_Disk_03 false (C.mp 2) (C.p true (.v (.pointer none))) r12.2), (o_dossierref03_Disk_0 false (C.own 4 0 r13.2.L.length 3) r13.2), (om_ e_vdisk_file r12.2.files), none, (or_ e_dossierref03_File r13.2.L)]⟩) (wg 4 [0, 1, 2, 3, 7] [] hx (le_upd (le_top _) (o1 .sc)) (ac (qs rfl) (ac (qo rfl) (ac .map (ac (.none _) (ac (.cells id (all2_row _)) an)))))) (AWops.nil (AW.ret ?_))
       obtain rfl := Option.some.inj h
       exact ⟨_, rfl, (wg 4 [0, 1, 2, 3, 4] [] rfl (le_upd (le_top _) (o1 .sc)) (ac (qs rfl) (ac (qo rfl) (ac .map (ac (.none _) (ac (.cells id (all2_row _)) an))))))⟩
     ·refine AW.cond_no rfl c11 (AW.seq (AW.region ?_))
      refine s_binI (v := (.bool ((IntKind.i64.wrap (Int.tmod (IntKind.u64.wrap a0.Op) 9)) == 4))) rfl rfl rfl (s_assign (d := (sb ((IntKind.i64.wrap (Int.tmod (IntKind.u64.wrap a0.Op) 9)) == 4))) rfl (AWops.nil ?_))
      rcases itH h with ⟨c14, h⟩ | ⟨c14, h⟩
      ·refine AW.cond_yes rfl c14 (AW.seq ?_)
       refine AW.weak (st' := ⟨119, (upd 119 (upd 119 (upd 119 topF 1 (rf 0 0)) 2 (rf 1 0)) 3 (rf 4 0)), [(o_vdisk_Disk_03 false (C.mp 2) (C.p true (.v (.pointer none))) p0), (o_dossierref03_Disk_0 false (C.own 5 0 p1.L.length 3) p1), (om_ e_vdisk_file p0.files), none, (some (AObj.cells true (c_dossierplain_Step a0))), (or_ e_dossierref03_File p1.L)]⟩) (wg 4 [0, 1, 2, 3, 4, 5] [] hx (le_upd (le_upd (le_upd (le_top _) (o1 (.ref rfl))) (o1 (.ref rfl))) (o1 (.ref rfl))) (ac (qs rfl) (ac (qo rfl) (ac .map (ac (.none _) (ac (.cells (fun _ => rfl) (ac .sc (ac .sc (ac .sc (ac .sc (ac .same (ac .same an))))))) (ac (.cells id (all2_row _)) an))))))) ?_
       obtain ⟨r15, er15, h⟩ := bnd h
       obtain ⟨r16, er16, h⟩ := bnd h
       refine AW.draw (n := 119) (L := 8) [(ft 0 64 (rf 0 0) [(1, (rf 0 0))]), (ft 1 65 (rf 4 2) [(3, (rf 4 0))]), (2, ⟨some 66, (st_ a0.Name), [(65, (rf 4 2))], [(4, (some (AObj.cells true (c_dossierplain_Step a0))))], [], none⟩), (ft 3 67 (rf 4 1) [(3, (rf 4 0))]), (4, ⟨some 68, (si a0.N), [(67, (rf 4 1))], [(4, (some (AObj.cells true (c_dossierplain_Step a0))))], [], none⟩), (5, ⟨some 69, (si r15.1), [(64, (rf 0 0)), (66, (st_ a0.Name)), (68, (si a0.N))], [(0, (o_vdisk_Disk_03 false (C.mp 2) (C.p true (.v (.pointer none))) p0)), (2, (om_ e_vdisk_file p0.files))], [(0, (o_vdisk_Disk_03 false (C.mp 2) (C.p true (.v (.pointer none))) r15.2)), (2, (om_ e_vdisk_file r15.2.files))], none⟩), (ft 6 70 (rf 1 0) [(2, (rf 1 0))]), (ft 7 71 (rf 4 2) [(3, (rf 4 0))]), (8, ⟨some 72, (st_ a0.Name), [(71, (rf 4 2))], [(4, (some (AObj.cells true (c_dossierplain_Step a0))))], [], none⟩), (ft 9 73 (rf 4 1) [(3, (rf 4 0))]), (10, ⟨some 74, (si a0.N), [(73, (rf 4 1))], [(4, (some (AObj.cells true (c_dossierplain_Step a0))))], [], none⟩), (11, ⟨some 75, (si r16.1), [(70, (rf 1 0)), (72, (st_ a0.Name)), (74, (si a0.N))], [(1, (o_dossierref03_Disk_0 false (C.own 5 0 p1.L.length 3) p1)), (5, (or_ e_dossierref03_File p1.L))], [(1, (o_dossierref03_Disk_0 false (C.own 7 0 r16.2.L.length 3) r16.2)), (5, none), (7, (or_ e_dossierref03_File r16.2.L))], some 7⟩), (ft 12 76 (sb (r15.1 == r16.1)) [(69, (si r15.1)), (75, (si r16.1))]), (ft 13 6 (sb (r15.1 == r16.1)) [(76, (sb (r15.1 == r16.1)))])] [[], [], [1], [], [3], (.range 5), [], [], [7], [], [9], (.range 11), (.range 12), (.range 13)] (nl rfl) [0, 0, 1, 0, 1, 2, 0, 0, 1, 0, 1, 3, 4, 5] rfl (TK := [(11, 7)]) rfl (AllK.cons' ⟨(tk_upd (tk_upd (tk_upd tk_top rfl) rfl) rfl), (tC rfl (tC rfl (tC rfl (tC rfl (tC rfl (tC (tkO_row _) AllT.nil')))))), (by repeat (first | refine fC (.inl rfl) ?_ | refine fC (.inr rfl) ?_ | refine fC (.inr (by unfold tkFoot; simp only [List.all_cons, List.all_nil, tkO_row, Bool.and_true, Bool.true_and]; rfl)) ?_ | trivial))⟩ AllK.nil') (by repeat (first | refine fC ⟨?_, ?_⟩ ?_ | refine sC rfl ?_ | refine hC rfl ?_ | trivial)) ?_ ?_
       ·refine y8 ?_ ?_ ?_ ?_ ?_ ?_ ?_ ?_ (y4 ?_ ?_ ?_ ?_ (y2 ?_ ?_ yN))
        ·intro K _ f w u k
         show Wp K ⟨119, (upd 119 f 1 (rf 0 0)), _⟩
         refine s_move (d := (rf 0 0)) rfl k
        ·intro K _ f w u k
         show Wp K ⟨119, (upd 119 f 3 (rf 4 0)), [_, _, _, _, _, _, _, _]⟩
         refine s_fieldRef F.fo_43_2 (by decide) rfl k
        ·intro K _ f w u k
         show Wp K ⟨119, (upd 119 f 65 (rf 4 2)), [_, _, _, _, (some (AObj.cells true (c_dossierplain_Step a0))), _, _, _]⟩
         refine s_load1 (c' := (ct a0.Name)) F.ag_9 rfl rfl k
        ·intro K _ f w u k
         show Wp K ⟨119, (upd 119 f 3 (rf 4 0)), [_, _, _, _, _, _, _, _]⟩
         refine s_fieldRef F.fo_43_1 (by decide) rfl k
        ·intro K _ f w u k
         show Wp K ⟨119, (upd 119 f 67 (rf 4 1)), [_, _, _, _, (some (AObj.cells true (c_dossierplain_Step a0))), _, _, _]⟩
         refine s_load1 (c' := (ci a0.N)) F.ag_3 rfl rfl k
        ·intro K _ f w u k
         show Wp K ⟨119, (upd 119 (upd 119 (upd 119 f 68 (si a0.N)) 66 (st_ a0.Name)) 64 (rf 0 0)), [(o_vdisk_Disk_03 false (C.mp 2) (C.p true (.v (.pointer none))) p0), _, (om_ e_vdisk_file p0.files), _, _, _, _, _]⟩
         refine cc [0, 2] [(o_vdisk_Disk_03 false (C.mp 2) (C.p true (.v (.pointer none))) r15.2), (w 1), (om_ e_vdisk_file r15.2.files), (w 3), (w 4), (w 5), (w 6), (w 7)] (si r15.1) F.ca_19 rfl rfl (ac (.one (.ref rfl)) (ac (.one .sc) (ac (.one .sc) an))) (ac (.cells (ac (.mp rfl) (ac .sc (ac .sc (ac .sc (ac .sc an)))))) (ac .map an)) (vdisk_Disk_Truncate.meets _ p0 a0.Name a0.N r15 er15) k
        ·intro K _ f w u k
         show Wp K ⟨119, (upd 119 f 2 (rf 1 0)), _⟩
         refine s_move (d := (rf 1 0)) rfl k
        ·intro K _ f w u k
         show Wp K ⟨119, (upd 119 f 3 (rf 4 0)), [_, _, _, _, _, _, _, _]⟩
         refine s_fieldRef F.fo_43_2 (by decide) rfl k
        ·intro K _ f w u k
         show Wp K ⟨119, (upd 119 f 71 (rf 4 2)), [_, _, _, _, (some (AObj.cells true (c_dossierplain_Step a0))), _, _, _]⟩
         refine s_load1 (c' := (ct a0.Name)) F.ag_9 rfl rfl k
        ·intro K _ f w u k
         show Wp K ⟨119, (upd 119 f 3 (rf 4 0)), [_, _, _, _, _, _, _, _]⟩
         refine s_fieldRef F.fo_43_1 (by decide) rfl k
        ·intro K _ f w u k
         show Wp K ⟨119, (upd 119 f 73 (rf 4 1)), [_, _, _, _, (some (AObj.cells true (c_dossierplain_Step a0))), _, _, _]⟩
         refine s_load1 (c' := (ci a0.N)) F.ag_3 rfl rfl k
        ·intro K _ f w u k
         show Wp K ⟨119, (upd 119 (upd 119 (upd 119 f 74 (si a0.N)) 72 (st_ a0.Name)) 70 (rf 1 0)), [_, (o_dossierref03_Disk_0 false (C.own 5 0 p1.L.length 3) p1), _, _, _, (or_ e_dossierref03_File p1.L), _, _]⟩
         refine cc [1, 5] [(w 0), (o_dossierref03_Disk_0 false (C.own 8 0 r16.2.L.length 3) r16.2), (w 2), (w 3), (w 4), none, (w 6), (w 7), (or_ e_dossierref03_File r16.2.L)] (si r16.1) F.ca_41 rfl rfl (ac (.one (.ref rfl)) (ac (.one .sc) (ac (.one .sc) an))) (ac (.cells (ac (.own rfl) (ac .sc (ac .sc (ac .sc an))))) (ac (.cells (lend_row _)) an)) (dossierref03_Disk_Truncate_41.meets _ p1 a0.Name a0.N r16 er16) ?_
         refine AWops.weak (st' := ⟨119, (upd 119 (upd 119 (upd 119 (upd 119 f 74 (si a0.N)) 72 (st_ a0.Name)) 70 (rf 1 0)) 75 (si r16.1)), [(w 0), (o_dossierref03_Disk_0 false (C.own 7 0 r16.2.L.length 3) r16.2), (w 2), (w 3), (w 4), none, (w 6), (or_ e_dossierref03_File r16.2.L)]⟩) (wg 4 [0, 1, 2, 3, 4, 5, 6, 8] [] hx (le_upd2 (le_ok (p := 7) (L := 8) rfl (u 7 rfl).1) (o1 .sc)) (ac (oq 7 8 (u 7 rfl) 0) (ac (qo rfl) (ac (oq 7 8 (u 7 rfl) 2) (ac (oq 7 8 (u 7 rfl) 3) (ac (oq 7 8 (u 7 rfl) 4) (ac (.none _) (ac (oq 7 8 (u 7 rfl) 6) (ac (.cells id (all2_row _)) an))))))))) k
        ·intro K _ f w u k
         show Wp K ⟨119, (upd 119 (upd 119 f 75 (si r16.1)) 69 (si r15.1)), _⟩
         refine s_binI (v := (.bool (r15.1 == r16.1))) rfl rfl rfl k
        ·intro K _ f w u k
         show Wp K ⟨119, (upd 119 f 76 (sb (r15.1 == r16.1))), _⟩
         refine s_assign (d := (sb (r15.1 == r16.1))) rfl k
       ·refine AWops.weak (st' := ⟨119, (upd 119 topF 6 (sb (r15.1 == r16.1))), [(o_vdisk_Disk_03 false (C.mp 2) (C.p true (.v (.pointer none))) r15.2), (o_dossierref03_Disk_0 false (C.own 4 0 r16.2.L.length 3) r16.2), (om_ e_vdisk_file r15.2.files), none, (or_ e_dossierref03_File r16.2.L)]⟩) (wg 4 [0, 1, 2, 3, 7] [] hx (le_upd (le_top _) (o1 .sc)) (ac (qs rfl) (ac (qo rfl) (ac .map (ac (.none _) (ac (.cells id (all2_row _)) an)))))) (AWops.nil (AW.ret ?_))
        obtain rfl := Option.some.inj h
        exact ⟨_, rfl, (wg 4 [0, 1, 2, 3, 4] [] rfl (le_upd (le_top _) (o1 .sc)) (ac (qs rfl) (ac (qo rfl) (ac .map (ac (.none _) (ac (.cells id (all2_row _)) an))))))⟩
      ·refine AW.cond_no rfl c14 (AW.seq (AW.region ?_))
       refine s_binI (v := (.bool ((IntKind.i64.wrap (Int.tmod (IntKind.u64.wrap a0.Op) 9)) == 5))) rfl rfl rfl (s_assign (d := (sb ((IntKind.i64.wrap (Int.tmod (IntKind.u64.wrap a0.Op) 9)) == 5))) rfl (AWops.nil ?_))
       rcases itH h with ⟨c17, h⟩ | ⟨c17, h⟩
       ·refine AW.cond_yes rfl c17 (AW.seq ?_)
        refine AW.weak (st' := ⟨119, (upd 119 (upd 119 (upd 119 topF 1 (rf 0 0)) 2 (rf 1 0)) 3 (rf 4 0)), [(o_vdisk_Disk_03 false (C.mp 2) (C.p true (.v (.pointer none))) p0), (o_dossierref03_Disk_0 false (C.own 5 0 p1.L.length 3) p1), (om_ e_vdisk_file p0.files), none, (some (AObj.cells true (c_dossierplain_Step a0))), (or_ e_dossierref03_File p1.L)]⟩) (wg 4 [0, 1, 2, 3, 4, 5] [] hx (le_upd (le_upd (le_upd (le_top _) (o1 (.ref rfl))) (o1 (.ref rfl))) (o1 (.ref rfl))) (ac (qs rfl) (ac (qo rfl) (ac .map (ac (.none _) (ac (.cells (fun _ => rfl) (ac .sc (ac .sc (ac .sc (ac .sc (ac .same (ac .same an))))))) (ac (.cells id (all2_row _)) an))))))) ?_
        obtain ⟨r18, er18, h⟩ := bnd h
        obtain ⟨r19, er19, h⟩ := bnd h
        refine AW.draw (n := 119) (L := 8) [(ft 0 79 (rf 0 0) [(1, (rf 0 0))]), (ft 1 80 (rf 4 2) [(3, (rf 4 0))]), (2, ⟨some 81, (st_ a0.Name), [(80, (rf 4 2))], [(4, (some (AObj.cells true (c_dossierplain_Step a0))))], [], none⟩), (3, ⟨some 82, (si r18.1), [(79, (rf 0 0)), (81, (st_ a0.Name))], [(0, (o_vdisk_Disk_03 false (C.mp 2) (C.p true (.v (.pointer none))) p0)), (2, (om_ e_vdisk_file p0.files))], [(0, (o_vdisk_Disk_03 false (C.mp 2) (C.p true (.v (.pointer none))) r18.2)), (2, (om_ e_vdisk_file r18.2.files))], none⟩), (ft 4 83 (rf 1 0) [(2, (rf 1 0))]), (ft 5 84 (rf 4 2) [(3, (rf 4 0))]), (6, ⟨some 85, (st_ a0.Name), [(84, (rf 4 2))], [(4, (some (AObj.cells true (c_dossierplain_Step a0))))], [], none⟩), (7, ⟨some 86, (si r19.1), [(83, (rf 1 0)), (85, (st_ a0.Name))], [(1, (o_dossierref03_Disk_0 false (C.own 5 0 p1.L.length 3) p1)), (5, (or_ e_dossierref03_File p1.L))], [(1, (o_dossierref03_Disk_0 false (C.own 7 0 r19.2.L.length 3) r19.2)), (5, none), (7, (or_ e_dossierref03_File r19.2.L))], some 7⟩), (ft 8 87 (sb (r18.1 == r19.1)) [(82, (si r18.1)), (86, (si r19.1))]), (ft 9 6 (sb (r18.1 == r19.1)) [(87, (sb (r18.1 == r19.1)))])] [[], [], [1], [0, 1, 2], [], [], [5], (.range 7), (.range 8), (.range 9)] (nl rfl) [0, 0, 1, 2, 0, 0, 1, 3, 4, 5] rfl (TK := [(7, 7)]) rfl (AllK.cons' ⟨(tk_upd (tk_upd (tk_upd tk_top rfl) rfl) rfl), (tC rfl (tC rfl (tC rfl (tC rfl (tC rfl (tC (tkO_row _) AllT.nil')))))), (fC (.inr rfl) (fC (.inr rfl) (fC (.inr rfl) (fC (.inr rfl) (fC (.inr rfl) (fC (.inr rfl) (fC (.inr rfl) (fC (.inl rfl) (fC (.inl rfl) (fC (.inl rfl) AllF.nil'))))))))))⟩ AllK.nil') (by repeat (first | refine fC ⟨?_, ?_⟩ ?_ | refine sC rfl ?_ | refine hC rfl ?_ | trivial)) ?_ ?_
        ·refine y8 ?_ ?_ ?_ ?_ ?_ ?_ ?_ ?_ (y2 ?_ ?_ yN)
         ·intro K _ f w u k
          show Wp K ⟨119, (upd 119 f 1 (rf 0 0)), _⟩
          refine s_move (d := (rf 0 0)) rfl k
         ·intro K _ f w u k
          show Wp K ⟨119, (upd 119 f 3 (rf 4 0)), [_, _, _, _, _, _, _, _]⟩
          refine s_fieldRef F.fo_43_2 (by decide) rfl k
         ·intro K _ f w u k
          show Wp K ⟨119, (upd 119 f 80 (rf 4 2)), [_, _, _, _, (some (AObj.cells true (c_dossierplain_Step a0))), _, _, _]⟩
          refine s_load1 (c' := (ct a0.Name)) F.ag_9 rfl rfl k
         ·intro K _ f w u k
          show Wp K ⟨119, (upd 119 (upd 119 f 81 (st_ a0.Name)) 79 (rf 0 0)), [(o_vdisk_Disk_03 false (C.mp 2) (C.p true (.v (.pointer none))) p0), _, (om_ e_vdisk_file p0.files), _, _, _, _, _]⟩
          refine cc [0, 2] [(o_vdisk_Disk_03 false (C.mp 2) (C.p true (.v (.pointer none))) r18.2), (w 1), (om_ e_vdisk_file r18.2.files), (w 3), (w 4), (w 5), (w 6), (w 7)] (si r18.1) F.ca_20 rfl rfl (ac (.one (.ref rfl)) (ac (.one .sc) an)) (ac (.cells (ac (.mp rfl) (ac .sc (ac .sc (ac .sc (ac .sc an)))))) (ac .map an)) (vdisk_Disk_Remove.meets _ p0 a0.Name r18 er18) k
         ·intro K _ f w u k
          show Wp K ⟨119, (upd 119 f 2 (rf 1 0)), _⟩
          refine s_move (d := (rf 1 0)) rfl k
         ·intro K _ f w u k
          show Wp K ⟨119, (upd 119 f 3 (rf 4 0)), [_, _, _, _, _, _, _, _]⟩
          refine s_fieldRef F.fo_43_2 (by decide) rfl k
         ·intro K _ f w u k
          show Wp K ⟨119, (upd 119 f 84 (rf 4 2)), [_, _, _, _, (some (AObj.cells true (c_dossierplain_Step a0))), _, _, _]⟩
          refine s_load1 (c' := (ct a0.Name)) F.ag_9 rfl rfl k
         ·intro K _ f w u k
          show Wp K ⟨119, (upd 119 (upd 119 f 85 (st_ a0.Name)) 83 (rf 1 0)), [_, (o_dossierref03_Disk_0 false (C.own 5 0 p1.L.length 3) p1), _, _, _, (or_ e_dossierref03_File p1.L), _, _]⟩
          refine cc [1, 5] [(w 0), (o_dossierref03_Disk_0 false (C.own 8 0 r19.2.L.length 3) r19.2), (w 2), (w 3), (w 4), none, (w 6), (w 7), (or_ e_dossierref03_File r19.2.L)] (si r19.1) F.ca_42 rfl rfl (ac (.one (.ref rfl)) (ac (.one .sc) an)) (ac (.cells (ac (.own rfl) (ac .sc (ac .sc (ac .sc an))))) (ac (.cells (lend_row _)) an)) (dossierref03_Disk_Remove_42.meets _ p1 a0.Name r19 er19) ?_
          refine AWops.weak (st' := ⟨119, (upd 119 (upd 119 (upd 119 f 85 (st_ a0.Name)) 83 (rf 1 0)) 86 (si r19.1)), [(w 0), (o_dossierref03_Disk_0 false (C.own 7 0 r19.2.L.length 3) r19.2), (w 2), (w 3), (w 4), none, (w 6), (or_ e_dossierref03_File r19.2.L)]⟩) (wg 4 [0, 1, 2, 3, 4, 5, 6, 8] [] hx (le_upd2 (le_ok (p := 7) (L := 8) rfl (u 7 rfl).1) (o1 .sc)) (ac (oq 7 8 (u 7 rfl) 0) (ac (qo rfl) (ac (oq 7 8 (u 7 rfl) 2) (ac (oq 7 8 (u 7 rfl) 3) (ac (oq 7 8 (u 7 rfl) 4) (ac (.none _) (ac (oq 7 8 (u 7 rfl) 6) (ac (.cells id (all2_row _)) an))))))))) k
         ·intro K _ f w u k
          show Wp K ⟨119, (upd 119 (upd 119 f 86 (si r19.1)) 82 (si r18.1)), _⟩
          refine s_binI (v := (.bool (r18.1 == r19.1))) rfl rfl rfl k
         ·intro K _ f w u k
          show Wp K ⟨119, (upd 119 f 87 (sb (r18.1 == r19.1))), _⟩
          refine s_assign (d := (sb (r18.1 == r19.1))) rfl k
        ·refine AWops.weak (st' := ⟨119, (upd 119 topF 6 (sb (r18.1 == r19.1))), [(o_vdisk_Disk_03 false (C.mp 2) (C.p true (.v (.pointer none))) r18.2), (o_dossierref03_Disk_0 false (C.own 4 0 r19.2.L.length 3) r19.2), (om_ e_vdisk_file r18.2.files), none, (or_ e_dossierref03_File r19.2.L)]⟩) (wg 4 [0, 1, 2, 3, 7] [] hx (le_upd (le_top _) (o1 .sc)) (ac (qs rfl) (ac (qo rfl) (ac .map (ac (.none _) (ac (.cells id (all2_row _)) an)))))) (AWops.nil (AW.ret ?_))
         obtain rfl := Option.some.inj h
         exact ⟨_, rfl, (wg 4 [0, 1, 2, 3, 4] [] rfl (le_upd (le_top _) (o1 .sc)) (ac (qs rfl) (ac (qo rfl) (ac .map (ac (.none _) (ac (.cells id (all2_row _)) an))))))⟩
       ·refine AW.cond_no rfl c17 (AW.seq (AW.region ?_))
        refine s_binI (v := (.bool ((IntKind.i64.wrap (Int.tmod (IntKind.u64.wrap a0.Op) 9)) == 6))) rfl rfl rfl (s_assign (d := (sb ((IntKind.i64.wrap (Int.tmod (IntKind.u64.wrap a0.Op) 9)) == 6))) rfl (AWops.nil ?_))
        rcases itH h with ⟨c20, h⟩ | ⟨c20, h⟩
        ·refine AW.cond_yes rfl c20 (AW.seq ?_)
         refine AW.weak (st' := ⟨119, (upd 119 (upd 119 (upd 119 topF 1 (rf 0 0)) 2 (rf 1 0)) 3 (rf 4 0)), [(o_vdisk_Disk_03 false (C.mp 2) (C.p true (.v (.pointer none))) p0), (o_dossierref03_Disk_0 false (C.own 5 0 p1.L.length 3) p1), (om_ e_vdisk_file p0.files), none, (some (AObj.cells true (c_dossierplain_Step a0))), (or_ e_dossierref03_File p1.L)]⟩) (wg 4 [0, 1, 2, 3, 4, 5] [] hx (le_upd (le_upd (le_upd (le_top _) (o1 (.ref rfl))) (o1 (.ref rfl))) (o1 (.ref rfl))) (ac (qs rfl) (ac (qo rfl) (ac .map (ac (.none _) (ac (.cells (fun _ => rfl) (ac .sc (ac .sc (ac .sc (ac .sc (ac .same (ac .same an))))))) (ac (.cells id (all2_row _)) an))))))) ?_
         obtain ⟨r21, er21, h⟩ := bnd h
         rcases optH h with ⟨c22, h⟩ | ⟨y23, c22, h⟩
         ·obtain ⟨r24, er24, h⟩ := bnd h
          refine AW.draw (n := 119) (L := 8) [(ft 0 90 (rf 0 0) [(1, (rf 0 0))]), (ft 1 91 (rf 4 1) [(3, (rf 4 0))]), (2, ⟨some 92, (si a0.N), [(91, (rf 4 1))], [(4, (some (AObj.cells true (c_dossierplain_Step a0))))], [], none⟩), (3, ⟨some 93, (si r21.1), [(90, (rf 0 0)), (92, (si a0.N))], [(0, (o_vdisk_Disk_03 false (C.mp 2) (C.p true (.v (.pointer none))) p0)), (2, (om_ e_vdisk_file p0.files))], [(0, (o_vdisk_Disk_03 false (C.mp 2) (C.p true (.v (.pointer none))) r21.2.1)), (2, (om_ e_vdisk_file r21.2.1.files))], none⟩), (ft 4 94 (rf 1 0) [(2, (rf 1 0))]), (ft 5 95 (rf 4 1) [(3, (rf 4 0))]), (6, ⟨some 96, (si a0.N), [(95, (rf 4 1))], [(4, (some (AObj.cells true (c_dossierplain_Step a0))))], [], none⟩), (7, ⟨some 97, (si r24.1), [(94, (rf 1 0)), (96, (si a0.N))], [(1, (o_dossierref03_Disk_0 false (C.own 5 0 p1.L.length 3) p1)), (5, (or_ e_dossierref03_File p1.L))], [(1, (o_dossierref03_Disk_0 false (C.own 5 0 r24.2.L.length 3) r24.2)), (5, (or_ e_dossierref03_File r24.2.L))], none⟩), (ft 8 98 (sb (r21.1 == r24.1)) [(93, (si r21.1)), (97, (si r24.1))]), (ft 9 6 (sb (r21.1 == r24.1)) [(98, (sb (r21.1 == r24.1)))])] [[], [], [1], [0, 1, 2], [], [], [5], (.range 7), (.range 8), (.range 9)] (nl rfl) [0, 0, 1, 2, 0, 0, 1, 3, 4, 5] rfl (TK := []) rfl AllK.nil' (by repeat (first | refine fC ⟨?_, ?_⟩ ?_ | refine sC rfl ?_ | refine hC rfl ?_ | trivial)) ?_ ?_
          ·refine y8 ?_ ?_ ?_ ?_ ?_ ?_ ?_ ?_ (y2 ?_ ?_ yN)
           ·intro K _ f w u k
            show Wp K ⟨119, (upd 119 f 1 (rf 0 0)), _⟩
            refine s_move (d := (rf 0 0)) rfl k
           ·intro K _ f w u k
            show Wp K ⟨119, (upd 119 f 3 (rf 4 0)), [_, _, _, _, _, _, _, _]⟩
            refine s_fieldRef F.fo_43_1 (by decide) rfl k
           ·intro K _ f w u k
            show Wp K ⟨119, (upd 119 f 91 (rf 4 1)), [_, _, _, _, (some (AObj.cells true (c_dossierplain_Step a0))), _, _, _]⟩
            refine s_load1 (c' := (ci a0.N)) F.ag_3 rfl rfl k
           ·intro K _ f w u k
            show Wp K ⟨119, (upd 119 (upd 119 f 92 (si a0.N)) 90 (rf 0 0)), [(o_vdisk_Disk_03 false (C.mp 2) (C.p true (.v (.pointer none))) p0), _, (om_ e_vdisk_file p0.files), _, _, _, _, _]⟩
            refine cc [0, 2] [(o_vdisk_Disk_03 false (C.mp 2) (C.p true (.v (.pointer none))) r21.2.1), (w 1), (om_ e_vdisk_file r21.2.1.files), (w 3), (w 4), (w 5), (w 6), (w 7)] (si r21.1) F.ca_21 rfl rfl (ac (.one (.ref rfl)) (ac (.one .sc) an)) (ac (.cells (ac (.mp rfl) (ac .sc (ac .sc (ac .sc (ac .sc an)))))) (ac .map an)) (Meets.eqs (optE_none c22) (optE_none c22) (vdisk_Disk_Fuse.meets _ p0 a0.N r21 er21)) k
           ·intro K _ f w u k
            show Wp K ⟨119, (upd 119 f 2 (rf 1 0)), _⟩
            refine s_move (d := (rf 1 0)) rfl k
           ·intro K _ f w u k
            show Wp K ⟨119, (upd 119 f 3 (rf 4 0)), [_, _, _, _, _, _, _, _]⟩
            refine s_fieldRef F.fo_43_1 (by decide) rfl k
           ·intro K _ f w u k
            show Wp K ⟨119, (upd 119 f 95 (rf 4 1)), [_, _, _, _, (some (AObj.cells true (c_dossierplain_Step a0))), _, _, _]⟩
            refine s_load1 (c' := (ci a0.N)) F.ag_3 rfl rfl k
           ·intro K _ f w u k
            show Wp K ⟨119, (upd 119 (upd 119 f 96 (si a0.N)) 94 (rf 1 0)), [_, (o_dossierref03_Disk_0 false (C.own 5 0 p1.L.length 3) p1), _, _, _, (or_ e_dossierref03_File p1.L), _, _]⟩
            refine cc [1, 5] [(w 0), (o_dossierref03_Disk_0 false (C.own 5 0 r24.2.L.length 3) r24.2), (w 2), (w 3), (w 4), (or_ e_dossierref03_File r24.2.L), (w 6), (w 7)] (si r24.1) F.ca_43 rfl rfl (ac (.one (.ref rfl)) (ac (.one .sc) an)) (ac (.cells (ac (.own rfl) (ac .sc (ac .sc (ac .sc an))))) (ac (.cells (lend_row _)) an)) (dossierref03_Disk_Fuse.meets _ p1 a0.N r24 er24) k
           ·intro K _ f w u k
            show Wp K ⟨119, (upd 119 (upd 119 f 97 (si r24.1)) 93 (si r21.1)), _⟩
            refine s_binI (v := (.bool (r21.1 == r24.1))) rfl rfl rfl k
           ·intro K _ f w u k
            show Wp K ⟨119, (upd 119 f 98 (sb (r21.1 == r24.1))), _⟩
            refine s_assign (d := (sb (r21.1 == r24.1))) rfl k
          ·refine AWops.weak (st' := ⟨119, (upd 119 topF 6 (sb (r21.1 == r24.1))), [(o_vdisk_Disk_03 false (C.mp 2) (C.p true (.v (.pointer none))) r21.2.1), (o_dossierref03_Disk_0 false (C.own 4 0 r24.2.L.length 3) r24.2), (om_ e_vdisk_file r21.2.1.files), none, (or_ e_dossierref03_File r24.2.L)]⟩) (wg 4 [0, 1, 2, 3, 5] [] hx (le_upd (le_top _) (o1 .sc)) (ac (qs rfl) (ac (qo rfl) (ac .map (ac (.none _) (ac (.cells id (all2_row _)) an)))))) (AWops.nil (AW.ret ?_))
           obtain rfl := Option.some.inj h
           exact ⟨_, rfl, (wg 4 [0, 1, 2, 3, 4] [] rfl (le_upd (le_top _) (o1 .sc)) (ac (qs rfl) (ac (qo rfl) (ac .map (ac (.none _) (ac (.cells id (all2_row _)) an))))))⟩
         ·obtain ⟨r25, er25, h⟩ := bnd h
          refine AW.draw (n := 119) (L := 8) [(ft 0 90 (rf 0 0) [(1, (rf 0 0))]), (ft 1 91 (rf 4 1) [(3, (rf 4 0))]), (2, ⟨some 92, (si a0.N), [(91, (rf 4 1))], [(4, (some (AObj.cells true (c_dossierplain_Step a0))))], [], none⟩), (3, ⟨some 93, (si r21.1), [(90, (rf 0 0)), (92, (si a0.N))], [(0, (o_vdisk_Disk_03 false (C.mp 2) (C.p true (.v (.pointer none))) p0)), (2, (om_ e_vdisk_file p0.files))], [(0, (o_vdisk_Disk_03 false (C.mp 2) (C.ref 6 0) r21.2.1)), (2, (om_ e_vdisk_file r21.2.1.files)), (6, (bx y23))], some 6⟩), (ft 4 94 (rf 1 0) [(2, (rf 1 0))]), (ft 5 95 (rf 4 1) [(3, (rf 4 0))]), (6, ⟨some 96, (si a0.N), [(95, (rf 4 1))], [(4, (some (AObj.cells true (c_dossierplain_Step a0))))], [], none⟩), (7, ⟨some 97, (si r25.1), [(94, (rf 1 0)), (96, (si a0.N))], [(1, (o_dossierref03_Disk_0 false (C.own 5 0 p1.L.length 3) p1)), (5, (or_ e_dossierref03_File p1.L))], [(1, (o_dossierref03_Disk_0 false (C.own 5 0 r25.2.L.length 3) r25.2)), (5, (or_ e_dossierref03_File r25.2.L))], none⟩), (ft 8 98 (sb (r21.1 == r25.1)) [(93, (si r21.1)), (97, (si r25.1))]), (ft 9 6 (sb (r21.1 == r25.1)) [(98, (sb (r21.1 == r25.1)))])] [[], [], [1], [0, 1, 2], [], [], [5], (.range 7), (.range 8), (.range 9)] (nl rfl) [0, 0, 1, 2, 0, 0, 1, 3, 4, 5] rfl (TK := [(3, 6)]) rfl (AllK.cons' ⟨(tk_upd (tk_upd (tk_upd tk_top rfl) rfl) rfl), (tC rfl (tC rfl (tC rfl (tC rfl (tC rfl (tC (tkO_row _) AllT.nil')))))), (fC (.inr rfl) (fC (.inr rfl) (fC (.inr rfl) (fC (.inl rfl) (fC (.inr rfl) (fC (.inr rfl) (fC (.inr rfl) (fC (.inl rfl) (fC (.inl rfl) (fC (.inl rfl) AllF.nil'))))))))))⟩ AllK.nil') (by repeat (first | refine fC ⟨?_, ?_⟩ ?_ | refine sC rfl ?_ | refine hC rfl ?_ | trivial)) ?_ ?_
          ·refine y8 ?_ ?_ ?_ ?_ ?_ ?_ ?_ ?_ (y2 ?_ ?_ yN)
           ·intro K _ f w u k
            show Wp K ⟨119, (upd 119 f 1 (rf 0 0)), _⟩
            refine s_move (d := (rf 0 0)) rfl k
           ·intro K _ f w u k
            show Wp K ⟨119, (upd 119 f 3 (rf 4 0)), [_, _, _, _, _, _, _, _]⟩
            refine s_fieldRef F.fo_43_1 (by decide) rfl k
           ·intro K _ f w u k
            show Wp K ⟨119, (upd 119 f 91 (rf 4 1)), [_, _, _, _, (some (AObj.cells true (c_dossierplain_Step a0))), _, _, _]⟩
            refine s_load1 (c' := (ci a0.N)) F.ag_3 rfl rfl k
           ·intro K _ f w u k
            show Wp K ⟨119, (upd 119 (upd 119 f 92 (si a0.N)) 90 (rf 0 0)), [(o_vdisk_Disk_03 false (C.mp 2) (C.p true (.v (.pointer none))) p0), _, (om_ e_vdisk_file p0.files), _, _, _, _, _]⟩
            refine cc [0, 2] [(o_vdisk_Disk_03 false (C.mp 2) (C.ref 8 0) r21.2.1), (w 1), (om_ e_vdisk_file r21.2.1.files), (w 3), (w 4), (w 5), (w 6), (w 7), (bx y23)] (si r21.1) F.ca_21 rfl rfl (ac (.one (.ref rfl)) (ac (.one .sc) an)) (ac (.cells (ac (.mp rfl) (ac .sc (ac .sc (ac .sc (ac .sc an)))))) (ac .map an)) (Meets.eqs (optE_some c22) (optE_some c22) (vdisk_Disk_Fuse.meets _ p0 a0.N r21 er21)) ?_
            refine AWops.weak (st' := ⟨119, (upd 119 (upd 119 (upd 119 f 92 (si a0.N)) 90 (rf 0 0)) 93 (si r21.1)), [(o_vdisk_Disk_03 false (C.mp 2) (C.ref 6 0) r21.2.1), (w 1), (om_ e_vdisk_file r21.2.1.files), (w 3), (w 4), (w 5), (bx y23), (w 7)]⟩) (wg 4 [0, 1, 2, 3, 4, 5, 8, 7] [] hx (le_upd2 (le_ok (p := 6) (L := 8) rfl (u 6 rfl).1) (o1 .sc)) (ac (qr rfl rfl) (ac (oq 6 8 (u 6 rfl) 1) (ac .map (ac (oq 6 8 (u 6 rfl) 3) (ac (oq 6 8 (u 6 rfl) 4) (ac (oq 6 8 (u 6 rfl) 5) (ac qb (ac (oq 6 8 (u 6 rfl) 7) an))))))))) k
           ·intro K _ f w u k
            show Wp K ⟨119, (upd 119 f 2 (rf 1 0)), _⟩
            refine s_move (d := (rf 1 0)) rfl k
           ·intro K _ f w u k
            show Wp K ⟨119, (upd 119 f 3 (rf 4 0)), [_, _, _, _, _, _, _, _]⟩
            refine s_fieldRef F.fo_43_1 (by decide) rfl k
           ·intro K _ f w u k
            show Wp K ⟨119, (upd 119 f 95 (rf 4 1)), [_, _, _, _, (some (AObj.cells true (c_dossierplain_Step a0))), _, _, _]⟩
            refine s_load1 (c' := (ci a0.N)) F.ag_3 rfl rfl k
           ·intro K _ f w u k
            show Wp K ⟨119, (upd 119 (upd 119 f 96 (si a0.N)) 94 (rf 1 0)), [_, (o_dossierref03_Disk_0 false (C.own 5 0 p1.L.length 3) p1), _, _, _, (or_ e_dossierref03_File p1.L), _, _]⟩
            refine cc [1, 5] [(w 0), (o_dossierref03_Disk_0 false (C.own 5 0 r25.2.L.length 3) r25.2), (w 2), (w 3), (w 4), (or_ e_dossierref03_File r25.2.L), (w 6), (w 7)] (si r25.1) F.ca_43 rfl rfl (ac (.one (.ref rfl)) (ac (.one .sc) an)) (ac (.cells (ac (.own rfl) (ac .sc (ac .sc (ac .sc an))))) (ac (.cells (lend_row _)) an)) (dossierref03_Disk_Fuse.meets _ p1 a0.N r25 er25) k
           ·intro K _ f w u k
            show Wp K ⟨119, (upd 119 (upd 119 f 97 (si r25.1)) 93 (si r21.1)), _⟩
            refine s_binI (v := (.bool (r21.1 == r25.1))) rfl rfl rfl k
           ·intro K _ f w u k
            show Wp K ⟨119, (upd 119 f 98 (sb (r21.1 == r25.1))), _⟩
            refine s_assign (d := (sb (r21.1 == r25.1))) rfl k
          ·refine AWops.weak (st' := ⟨119, (upd 119 topF 6 (sb (r21.1 == r25.1))), [(o_vdisk_Disk_03 false (C.mp 2) (C.ref 4 0) r21.2.1), (o_dossierref03_Disk_0 false (C.own 5 0 r25.2.L.length 3) r25.2), (om_ e_vdisk_file r21.2.1.files), none, (bx y23), (or_ e_dossierref03_File r25.2.L)]⟩) (wg 4 [0, 1, 2, 3, 6, 5] [] hx (le_upd (le_top _) (o1 .sc)) (ac (qr rfl rfl) (ac (qo rfl) (ac .map (ac (.none _) (ac qb (ac (.cells id (all2_row _)) an))))))) (AWops.nil (AW.ret ?_))
           obtain rfl := Option.some.inj h
           exact ⟨_, rfl, (wg 4 [0, 1, 2, 3, 4, 5] [] rfl (le_upd (le_top _) (o1 .sc)) (ac (qr rfl rfl) (ac (qo rfl) (ac .map (ac (.none _) (ac qb (ac (.cells id (all2_row _)) an)))))))⟩
        ·refine AW.cond_no rfl c20 (AW.seq (AW.region ?_))
         refine s_binI (v := (.bool ((IntKind.i64.wrap (Int.tmod (IntKind.u64.wrap a0.Op) 9)) == 7))) rfl rfl rfl (s_assign (d := (sb ((IntKind.i64.wrap (Int.tmod (IntKind.u64.wrap a0.Op) 9)) == 7))) rfl (AWops.nil ?_))
         rcases itH h with ⟨c26, h⟩ | ⟨c26, h⟩
         ·refine AW.cond_yes rfl c26 (AW.seq (AW.region ?_))
          refine s_move (d := (rf 1 0)) rfl (s_fieldRef F.fo_43_5 (by decide) rfl (s_load1 (c' := (C.p false (.sl a0.Keeps.length (a0.Keeps.flatMap e_i64)))) F.ag_24 rfl rfl ?_))
          obtain ⟨r27, er27, h⟩ := bnd h
          refine cc [1, 5] [(o_vdisk_Disk_03 false (C.mp 2) (C.p true (.v (.pointer none))) p0), (o_dossierref03_Disk_0 false (C.own 6 0 r27.L.length 3) r27), (om_ e_vdisk_file p0.files), none, (some (AObj.cells true (c_dossierplain_Step a0))), none, (or_ e_dossierref03_File r27.L)] (D.tup []) F.ca_44 rfl rfl (ac (.one (.ref rfl)) (ac (.one .imm) an)) (ac (.cells (ac (.own rfl) (ac .sc (ac .sc (ac .sc an))))) (ac (.cells (lend_row _)) an)) (dossierref03_Disk_Crash_44.meets _ p1 a0.Keeps r27 er27) (AWops.nil (AW.seq (AW.region ?_)))
          refine s_move (d := (rf 0 0)) rfl (s_fieldRef F.fo_43_5 (by decide) rfl (s_load1 (c' := (C.p false (.sl a0.Keeps.length (a0.Keeps.flatMap e_i64)))) F.ag_24 rfl rfl ?_))
          obtain ⟨r28, er28, h⟩ := bnd h
          refine cc [0, 2] [(o_vdisk_Disk_03 false (C.mp 2) (C.p true (.v (.pointer none))) r28.2), (o_dossierref03_Disk_0 false (C.own 6 0 r27.L.length 3) r27), (om_ e_vdisk_file r28.2.files), none, (some (AObj.cells true (c_dossierplain_Step a0))), none, (or_ e_dossierref03_File r27.L)] (si r28.1) F.ca_11 rfl rfl (ac (.one (.ref rfl)) (ac (.one .imm) an)) (ac (.cells (ac (.mp rfl) (ac .sc (ac .sc (ac .sc (ac .sc an)))))) (ac .map an)) (vdisk_Disk_Crash.meets _ p0 a0.Keeps r28 er28) (s_binI (v := (.bool (r28.1 == 0))) rfl rfl rfl (s_assign (d := (sb (r28.1 == 0))) rfl (AWops.nil (AW.ret ?_))))
          obtain rfl := Option.some.inj h
          exact ⟨_, rfl, (wg 4 [0, 1, 2, 3, 6] [] rfl (le_upd (le_top _) (o1 .sc)) (ac (qs rfl) (ac (qo rfl) (ac .map (ac (.none _) (ac (.cells id (all2_row _)) an))))))⟩
         ·refine AW.cond_no rfl c26 (AW.skip (AW.seq ?_))
          refine AW.weak (st' := ⟨119, (upd 119 (upd 119 (upd 119 topF 1 (rf 0 0)) 2 (rf 1 0)) 3 (rf 4 0)), [(o_vdisk_Disk_03 false (C.mp 2) (C.p true (.v (.pointer none))) p0), (o_dossierref03_Disk_0 false (C.own 5 0 p1.L.length 3) p1), (om_ e_vdisk_file p0.files), none, (some (AObj.cells true (c_dossierplain_Step a0))), (or_ e_dossierref03_File p1.L)]⟩) (wg 4 [0, 1, 2, 3, 4, 5] [] hx (le_upd (le_upd (le_upd (le_top _) (o1 (.ref rfl))) (o1 (.ref rfl))) (o1 (.ref rfl))) (ac (qs rfl) (ac (qo rfl) (ac .map (ac (.none _) (ac (.cells (fun _ => rfl) (ac .sc (ac .sc (ac .sc (ac .sc (ac .same (ac .same an))))))) (ac (.cells id (all2_row _)) an))))))) ?_
          obtain ⟨r29, er29, h⟩ := bnd h
          obtain ⟨r30, er30, h⟩ := bnd h
          refine AW.draw (n := 119) (L := 8) [(ft 0 110 (rf 0 0) [(1, (rf 0 0))]), (ft 1 111 (rf 4 1) [(3, (rf 4 0))]), (2, ⟨some 112, (si a0.N), [(111, (rf 4 1))], [(4, (some (AObj.cells true (c_dossierplain_Step a0))))], [], none⟩), (3, ⟨some 113, (si r29.1), [(110, (rf 0 0)), (112, (si a0.N))], [(0, (o_vdisk_Disk_03 false (C.mp 2) (C.p true (.v (.pointer none))) p0)), (2, (om_ e_vdisk_file p0.files))], [(0, (o_vdisk_Disk_03 false (C.mp 2) (C.p true (.v (.pointer none))) r29.2)), (2, (om_ e_vdisk_file r29.2.files))], none⟩), (ft 4 114 (rf 1 0) [(2, (rf 1 0))]), (ft 5 115 (rf 4 1) [(3, (rf 4 0))]), (6, ⟨some 116, (si a0.N), [(115, (rf 4 1))], [(4, (some (AObj.cells true (c_dossierplain_Step a0))))], [], none⟩), (7, ⟨some 117, (si r30.1), [(114, (rf 1 0)), (116, (si a0.N))], [(1, (o_dossierref03_Disk_0 false (C.own 5 0 p1.L.length 3) p1)), (5, (or_ e_dossierref03_File p1.L))], [(1, (o_dossierref03_Disk_0 false (C.own 5 0 r30.2.L.length 3) r30.2)), (5, (or_ e_dossierref03_File r30.2.L))], none⟩), (ft 8 118 (sb (r29.1 == r30.1)) [(113, (si r29.1)), (117, (si r30.1))]), (ft 9 6 (sb (r29.1 == r30.1)) [(118, (sb (r29.1 == r30.1)))])] [[], [], [1], [0, 1, 2], [], [], [5], (.range 7), (.range 8), (.range 9)] (nl rfl) [0, 0, 1, 2, 0, 0, 1, 3, 4, 5] rfl (TK := []) rfl AllK.nil' (by repeat (first | refine fC ⟨?_, ?_⟩ ?_ | refine sC rfl ?_ | refine hC rfl ?_ | trivial)) ?_ ?_
          ·refine y8 ?_ ?_ ?_ ?_ ?_ ?_ ?_ ?_ (y2 ?_ ?_ yN)
           ·intro K _ f w u k
            show Wp K ⟨119, (upd 119 f 1 (rf 0 0)), _⟩
            refine s_move (d := (rf 0 0)) rfl k
           ·intro K _ f w u k
            show Wp K ⟨119, (upd 119 f 3 (rf 4 0)), [_, _, _, _, _, _, _, _]⟩
            refine s_fieldRef F.fo_43_1 (by decide) rfl k
           ·intro K _ f w u k
            show Wp K ⟨119, (upd 119 f 111 (rf 4 1)), [_, _, _, _, (some (AObj.cells true (c_dossierplain_Step a0))), _, _, _]⟩
            refine s_load1 (c' := (ci a0.N)) F.ag_3 rfl rfl k
           ·intro K _ f w u k
            show Wp K ⟨119, (upd 119 (upd 119 f 112 (si a0.N)) 110 (rf 0 0)), [(o_vdisk_Disk_03 false (C.mp 2) (C.p true (.v (.pointer none))) p0), _, (om_ e_vdisk_file p0.files), _, _, _, _, _]⟩
            refine cc [0, 2] [(o_vdisk_Disk_03 false (C.mp 2) (C.p true (.v (.pointer none))) r29.2), (w 1), (om_ e_vdisk_file r29.2.files), (w 3), (w 4), (w 5), (w 6), (w 7)] (si r29.1) F.ca_22 rfl rfl (ac (.one (.ref rfl)) (ac (.one .sc) an)) (ac (.cells (ac (.mp rfl) (ac .sc (ac .sc (ac .sc (ac .sc an)))))) (ac .map an)) (vdisk_Disk_Room.meets _ p0 a0.N r29 er29) k
           ·intro K _ f w u k
            show Wp K ⟨119, (upd 119 f 2 (rf 1 0)), _⟩
            refine s_move (d := (rf 1 0)) rfl k
           ·intro K _ f w u k
            show Wp K ⟨119, (upd 119 f 3 (rf 4 0)), [_, _, _, _, _, _, _, _]⟩
            refine s_fieldRef F.fo_43_1 (by decide) rfl k
           ·intro K _ f w u k
            show Wp K ⟨119, (upd 119 f 115 (rf 4 1)), [_, _, _, _, (some (AObj.cells true (c_dossierplain_Step a0))), _, _, _]⟩
            refine s_load1 (c' := (ci a0.N)) F.ag_3 rfl rfl k
           ·intro K _ f w u k
            show Wp K ⟨119, (upd 119 (upd 119 f 116 (si a0.N)) 114 (rf 1 0)), [_, (o_dossierref03_Disk_0 false (C.own 5 0 p1.L.length 3) p1), _, _, _, (or_ e_dossierref03_File p1.L), _, _]⟩
            refine cc [1, 5] [(w 0), (o_dossierref03_Disk_0 false (C.own 5 0 r30.2.L.length 3) r30.2), (w 2), (w 3), (w 4), (or_ e_dossierref03_File r30.2.L), (w 6), (w 7)] (si r30.1) F.ca_45 rfl rfl (ac (.one (.ref rfl)) (ac (.one .sc) an)) (ac (.cells (ac (.own rfl) (ac .sc (ac .sc (ac .sc an))))) (ac (.cells (lend_row _)) an)) (dossierref03_Disk_Room.meets _ p1 a0.N r30 er30) k
           ·intro K _ f w u k
            show Wp K ⟨119, (upd 119 (upd 119 f 117 (si r30.1)) 113 (si r29.1)), _⟩
            refine s_binI (v := (.bool (r29.1 == r30.1))) rfl rfl rfl k
           ·intro K _ f w u k
            show Wp K ⟨119, (upd 119 f 118 (sb (r29.1 == r30.1))), _⟩
            refine s_assign (d := (sb (r29.1 == r30.1))) rfl k
          ·refine AWops.weak (st' := ⟨119, (upd 119 topF 6 (sb (r29.1 == r30.1))), [(o_vdisk_Disk_03 false (C.mp 2) (C.p true (.v (.pointer none))) r29.2), (o_dossierref03_Disk_0 false (C.own 4 0 r30.2.L.length 3) r30.2), (om_ e_vdisk_file r29.2.files), none, (or_ e_dossierref03_File r30.2.L)]⟩) (wg 4 [0, 1, 2, 3, 5] [] hx (le_upd (le_top _) (o1 .sc)) (ac (qs rfl) (ac (qo rfl) (ac .map (ac (.none _) (ac (.cells id (all2_row _)) an)))))) (AWops.nil (AW.ret ?_))
           obtain rfl := Option.some.inj h
           exact ⟨_, rfl, (wg 4 [0, 1, 2, 3, 4] [] rfl (le_upd (le_top _) (o1 .sc)) (ac (qs rfl) (ac (qo rfl) (ac .map (ac (.none _) (ac (.cells id (all2_row _)) an))))))⟩
def vdisk_Disk_none_35.f (k : Nat) (p0 : vdisk_Disk) (p2 : Int) : Option Bool := some false
theorem vdisk_Disk_none_35.meets (k : Nat) (p0 : vdisk_Disk) (p2 : Int) (r : Bool) (h : vdisk_Disk_none_35.f k p0 p2 = some r) : Meets Try.prog 35 [(rf 0 0)] [(o_vdisk_Disk_03 false (C.mp 1) (C.ref 2 0) p0), (om_ e_vdisk_file p0.files), (bx p2)] (sb r) [(o_vdisk_Disk_03 false (C.mp 1) (C.ref 2 0) p0), (om_ e_vdisk_file p0.files), (bx p2)] := by
 unfold vdisk_Disk_none_35.f at h
 refine Meets.of_body (n := 12) Try.func35 rfl rfl (nl rfl) fun x hx => ?_
 replace hx : x.k = 3 := hx
 show AW _ x _ _ ⟨12, fr0 [(rf 0 0)], [(o_vdisk_Disk_03 false (C.mp 1) (C.ref 2 0) p0), (om_ e_vdisk_file p0.files), (bx p2)]⟩
 refine AW.seq (AW.region ?_)
 refine s_assign (d := (sb false)) rfl (AWops.nil (AW.seq (AW.region ?_)))
 refine s_move (d := (rf 0 0)) rfl (s_ptrNil (b := false) F.u_25 rfl (.inl ⟨⟨_, _, rfl⟩, rfl⟩) (.inl rfl) (s_move (d := (sb false)) rfl ?_))
 refine AWops.guard_yes rfl (nl rfl) rfl rfl ?_
 refine s_move (d := (rf 0 0)) rfl ?_
 refine AWops.guard_yes rfl (nl rfl) rfl rfl ?_
 refine s_nilCheck (d := (rf 0 0)) rfl (.inl ⟨_, _, rfl⟩) ?_
 refine AWops.guard_yes rfl (nl rfl) rfl rfl ?_
 refine s_fieldRef F.fo_50_0 (by decide) rfl ?_
 refine AWops.guard_yes rfl (nl rfl) rfl rfl ?_
 refine s_load1 (c' := (C.mp 1)) F.ag_47 rfl rfl ?_
 refine AWops.guard_yes rfl (nl rfl) rfl rfl ?_
 refine s_mapNil (b := false) F.u_47 rfl (.inr ⟨rfl, _, rfl⟩) (.inl ⟨rfl, rfl⟩) (s_pick_no (d := (sb false)) rfl rfl rfl (s_assign (d := (sb false)) rfl (AWops.nil (AW.ret ?_))))
 obtain rfl := Option.some.inj h
 exact ⟨_, rfl, (wg 3 [0, 1, 2] [] rfl (le_upd (le_top _) (o1 .sc)) (ac (qr rfl rfl) (ac .map (ac qb an))))⟩
theorem vdisk_Disk_none_35.const {k : Nat} {p0 : vdisk_Disk} {p2 : Int} {r : Bool} (h : vdisk_Disk_none_35.f k p0 p2 = some r) : r = false := by
 unfold vdisk_Disk_none_35.f at h
 exact (Option.some.inj h).symm
end Go.Abs.GenRd
