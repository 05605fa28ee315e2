/-
  The walk of the law's own function: the case that was put into is written over, and what was there before stays.
-/
import Derived.Test.YtkcaljadkfpefaaDoorGenQH
import Derived.Test.YtkcaljadkfpefaaDoorAbsFS
import Derived.Test.YtkcaljadkfpefaaDoorPlBase
set_option linter.unusedVariables false
set_option linter.unusedSimpArgs false
set_option maxRecDepth 100000
set_option maxHeartbeats 4000000
namespace Go.Abs.GenQ
open Go.Abs Go.Proofs
namespace Q
theorem ca_4 : callable Tryd.prog 4 = true := by kernel_rfl
theorem ca_5 : callable Tryd.prog 5 = true := by kernel_rfl
theorem ca_6 : callable Tryd.prog 6 = true := by kernel_rfl
theorem ca_7 : callable Tryd.prog 7 = true := by kernel_rfl
theorem ca_8 : callable Tryd.prog 8 = true := by kernel_rfl
theorem ca_9 : callable Tryd.prog 9 = true := by kernel_rfl
theorem u_9 : Tryd.prog.underlying 9 = some (.string) := by kernel_rfl
theorem u_22 : Tryd.prog.underlying 22 = some (.slice 28) := by kernel_rfl
theorem u_26 : Tryd.prog.underlying 26 = some (.slice 3) := by kernel_rfl
theorem sz_3 : szOf Tryd.prog 3 = some 1 := by kernel_rfl
theorem sz_25 : szOf Tryd.prog 25 = some 5 := by kernel_rfl
theorem sz_28 : szOf Tryd.prog 28 = some 6 := by kernel_rfl
theorem ag_3 : aggOf Tryd.prog 3 = some false := by kernel_rfl
theorem ag_9 : aggOf Tryd.prog 9 = some false := by kernel_rfl
theorem ag_22 : aggOf Tryd.prog 22 = some false := by kernel_rfl
theorem ag_26 : aggOf Tryd.prog 26 = some false := by kernel_rfl
theorem ag_25 : aggOf Tryd.prog 25 = some true := by kernel_rfl
theorem ag_28 : aggOf Tryd.prog 28 = some true := by kernel_rfl
theorem fo_25_2 : fieldOf Tryd.prog 25 2 = some (2, 1, false) := by kernel_rfl
theorem fo_28_0 : fieldOf Tryd.prog 28 0 = some (0, 1, false) := by kernel_rfl
theorem fo_28_4 : fieldOf Tryd.prog 28 4 = some (4, 1, false) := by kernel_rfl
end Q
def small (l : List api_Inst) : Bool := decide (l.length ≤ 1099511627776) && l.all fun y => decide (y.Latches.length ≤ 1099511627776)
def dossierlaw18_TreePuts.f (k : Nat) (a0 : api_Case) (a1 : api_Inst) : Option Bool :=
 (dossierplain_Case.f k a0).bind fun r1 => if (!r1) = true then ((dossierlaw18_awake.f k).bind fun r2 => some r2) else if decide ((a1.Path.size : Int) > 400) = true then ((dossierlaw18_awake.f k).bind fun r2 => some r2) else
 (dossierref18_Copy.f k a0).bind fun r2 => (tree_Put.f k a0 a1).bind fun r3 => (dossierref18_Put.f k r2 a1).bind fun r4 => (dossierref18_Same.f k r3 r4).bind fun r5 => if small r3.Insts = true then
  (if r5 = true then ((dossierref18_Same.f k a0 r2).bind fun r6 => if r6 = true then ((dossierlaw18_awake.f k).bind fun r7 => some r7) else some false) else some false) else none

/-- the same but for inner numbers. -/
def Alike (xs ys : List api_Inst) : Prop := ys.map (fun y => y.Latches.length) = xs.map (fun y => y.Latches.length)
theorem hav_inst (m : Nat) : ∀ (xs : List api_Inst) (qs : List P), All2 HavP (xs.flatMap (e_api_InstF m)) qs → ∃ ys, qs = ys.flatMap (e_api_InstF m) ∧ Alike xs ys
  | [], qs, h => by cases h; exact ⟨[], rfl, rfl⟩
  | x :: xs, qs, h => by
    rw [List.flatMap_cons, e_api_InstF_eq] at h
    simp only [List.cons_append, List.nil_append] at h
    cases h with | cons h1 h => cases h with | cons h2 h => cases h with | cons h3 h => cases h with | cons h4 h => cases h with | cons h5 h => cases h with | cons h6 h =>
    obtain ⟨ys, rfl, hy⟩ := hav_inst m xs _ h
    cases h1; cases h2; cases h3; cases h4; cases h6
    generalize hL : x.Latches.flatMap e_i64 = L at h5
    cases h5 with
    | f is js hjs =>
      rw [flat_i64, flat_i64] at hL
      have hil : is.length = x.Latches.length := by simpa using (congrArg List.length hL).symm
      refine ⟨⟨x.Path, x.Item, x.State, x.Before, js, x.Due⟩ :: ys, ?_, ?_⟩
      · rw [List.flatMap_cons, e_api_InstF_eq]
        simp only [List.cons_append, List.nil_append]
        rw [show js.length = x.Latches.length by omega]
      · simp only [Alike, List.map_cons] at hy ⊢
        rw [hy]; congr 1; omega
theorem hav_ok (m : Nat) (xs : List api_Inst) : ∀ p ∈ xs.flatMap (e_api_InstF m), ∃ q, HavP p q := by
  intro p hp
  obtain ⟨x, _, hx⟩ := List.mem_flatMap.mp hp
  rw [e_api_InstF_eq] at hx
  simp only [List.mem_cons, List.not_mem_nil, or_false] at hx
  rcases hx with rfl | rfl | rfl | rfl | rfl | rfl
  · exact ⟨_, .v _⟩
  · exact ⟨_, .v _⟩
  · exact ⟨_, .v _⟩
  · exact ⟨_, .v _⟩
  · exact ⟨_, .f x.Latches x.Latches rfl⟩
  · exact ⟨_, .v _⟩
theorem alike_len {xs ys : List api_Inst} (h : Alike xs ys) : ys.length = xs.length := by simpa using congrArg List.length h
theorem alike_at {xs ys : List api_Inst} (h : Alike xs ys) {i : Nat} {x y : api_Inst} (hx : xs[i]? = some x) (hy : ys[i]? = some y) : y.Latches.length = x.Latches.length := by
  have := congrArg (fun l : List Nat => l[i]?) h
  simpa [hx, hy] using this
theorem Alike.trans {xs ys zs : List api_Inst} (h : Alike xs ys) (h2 : Alike ys zs) : Alike xs zs := Eq.trans h2 h
theorem dossierlaw18_TreePuts.meets (k : Nat) (a0 : api_Case) (a1 : api_Inst) (r : Bool) (h : dossierlaw18_TreePuts.f k a0 a1 = some r) : Meets Tryd.prog 3 [(D.agg (c_api_Case a0)), (D.agg (c_api_Inst a1))] [] (sb r) [] := by
 unfold dossierlaw18_TreePuts.f at h
 refine Meets.of_body (n := 70) Tryd.func3 rfl rfl (nl rfl) fun x hx => ?_
 replace hx : x.k = 0 := hx
 show AW _ x _ _ ⟨70, fr0 [(D.agg (c_api_Case a0)), (D.agg (c_api_Inst a1))], []⟩
 refine AW.seq (AW.region ?_)
 refine s_box (cs := (c_api_Case a0)) rfl (List.cons_ne_nil _ _) rfl (s_box (cs := (c_api_Inst a1)) rfl (List.cons_ne_nil _ _) rfl (s_assign (d := (sb false)) rfl (AWops.nil (AW.seq (AW.seq (AW.region (s_loadN (ds := (c_api_Case a0)) Q.ag_25 Q.sz_25 rfl rfl rfl ?_)))))))
 obtain ⟨r1, er1, h⟩ := bnd h
 refine cc [] [(some (AObj.cells true (c_api_Case a0))), (some (AObj.cells true (c_api_Inst a1)))] (sb r1) Q.ca_4 rfl rfl (ac (LendT.aggL (ac .sc (ac .sc (ac .imm (ac .imm (ac .sc an)))))) an) an (dossierplain_Case.meets _ a0 r1 er1) (s_not rfl (s_move (d := (sb (!r1))) rfl ?_))
 rcases itH h with ⟨c1, h⟩ | ⟨c1, h⟩
 ·iterate 4 refine AWops.guard_no rfl (nl rfl) rfl c1 ?_
  refine s_pick_yes (d := (sb true)) rfl c1 rfl (AWops.nil ?_)
  refine AW.cond_yes rfl rfl (AW.seq (AW.region ?_))
  obtain ⟨q1, eq1, h⟩ := bnd h
  refine cc [] [(some (AObj.cells true (c_api_Case a0))), (some (AObj.cells true (c_api_Inst a1)))] (sb q1) Q.ca_5 rfl rfl an an (dossierlaw18_awake.meets _ q1 eq1) (s_assign (d := (sb q1)) rfl (AWops.nil (AW.ret ?_)))
  obtain rfl := Option.some.inj h
  exact ⟨_, rfl, (wg 0 [] [] rfl (le_upd (le_top _) (o1 .sc)) an)⟩
 refine AWops.guard_yes rfl (nl rfl) rfl c1 (s_fieldRef Q.fo_28_0 (by decide) rfl (AWops.guard_yes rfl (nl rfl) rfl c1 (s_load1 (c' := (ct a1.Path)) Q.ag_9 rfl rfl (AWops.guard_yes rfl (nl rfl) rfl c1 (s_len (n := a1.Path.size) Q.u_9 rfl (.inl ⟨⟨_, _, rfl⟩, rfl⟩) ?_)))))
 refine AWops.guard_yes rfl (nl rfl) rfl c1 (s_binI (v := (.bool (decide ((a1.Path.size : Int) > 400)))) rfl rfl rfl (s_pick_no (d := (sb (decide ((a1.Path.size : Int) > 400)))) rfl c1 rfl (AWops.nil ?_)))
 rcases itH h with ⟨c2, h⟩ | ⟨c2, h⟩
 ·refine AW.cond_yes rfl c2 (AW.seq (AW.region ?_))
  obtain ⟨q1, eq1, h⟩ := bnd h
  refine cc [] [(some (AObj.cells true (c_api_Case a0))), (some (AObj.cells true (c_api_Inst a1)))] (sb q1) Q.ca_5 rfl rfl an an (dossierlaw18_awake.meets _ q1 eq1) (s_assign (d := (sb q1)) rfl (AWops.nil (AW.ret ?_)))
  obtain rfl := Option.some.inj h
  exact ⟨_, rfl, (wg 0 [] [] rfl (le_upd (le_top _) (o1 .sc)) an)⟩
 refine AW.cond_no rfl c2 (AW.skip (AW.seq (AW.region (s_loadN (ds := (c_api_Case a0)) Q.ag_25 Q.sz_25 rfl rfl rfl ?_))))
 obtain ⟨r2, er2, h⟩ := bnd h
 refine cc [] [(some (AObj.cells true (c_api_Case a0))), (some (AObj.cells true (c_api_Inst a1))), (ow_ e_api_Inst r2.Insts)] (D.agg [(ci r2.ID), (ct r2.Model), (C.own 2 0 r2.Insts.length 6), (C.p false (.sl r2.Docs.length (r2.Docs.flatMap e_api_Doc))), (ci r2.Clock)]) Q.ca_6 rfl rfl (ac (LendT.aggL (ac .sc (ac .sc (ac .imm (ac .imm (ac .sc an)))))) an) an (dossierref18_Copy.meets _ a0 r2 er2) ?_
 refine s_alloc (cs := [(ci 0), (ct (⟨#[]⟩ : ByteArray)), (C.p true (.v (.slice none 0 0))), (C.p true (.v (.slice none 0 0))), (ci 0)]) F.z_25 rfl rfl (s_store (cs' := [(ci r2.ID), (ct r2.Model), (C.own 2 0 r2.Insts.length 6), (C.p false (.sl r2.Docs.length (r2.Docs.flatMap e_api_Doc))), (ci r2.Clock)]) rfl rfl rfl (List.cons_ne_nil _ _) rfl Q.sz_25 (nl rfl) rfl (AWops.nil ?_))
 refine AW.weak (st' := ⟨70, (upd 70 (upd 70 (upd 70 topF 2 (rf 0 0)) 3 (rf 1 0)) 5 (rf 2 0)), [(some (AObj.cells true (c_api_Case a0))), (some (AObj.cells true (c_api_Inst a1))), (some (AObj.cells true (c_api_Case r2)))]⟩) (wg 0 [0, 1, 3] [2] hx (le_upd (le_upd (le_upd (le_top _) (o1 (.ref rfl))) (o1 (.ref rfl))) (o1 (.ref rfl))) (ac (.cells (fun _ => rfl) (ac .sc (ac .sc (ac .same (ac .same (ac .sc an)))))) (ac (.cells (fun _ => rfl) (ac .sc (ac .sc (ac .sc (ac .sc (ac .same (ac .sc an))))))) (ac (.cells (fun _ => rfl) (ac .sc (ac .sc (ac (CLe.frz e_api_Inst_len rfl rfl rfl) (ac .same (ac .sc an)))))) an)))) ?_
 refine AW.rebase (i := 4) (v := .bool r) (ps0 := p_api_Case a0) (ps1 := p_api_Inst a1) (ps2 := p_api_Case r2) (fun _ => rfl) hx (refs_upd (refs_upd (refs_upd refs_top))) (fun e he => by rcases he with rfl | rfl <;> exact ⟨_, rfl, (wg 0 [] [] rfl (le_upd (le_top _) (o1 .sc)) an)⟩) ?_
 clear hx x
 intro x vs0 vs1 vs2 hx hap ht0 ht1 ht2
 match vs0, vs1, vs2, ht0, ht1, ht2, ht0.len, ht1.len, ht2.len with
 | [u0, u1, u2, u3, u4], [v0, v1, v2, v3, v4, v5], [w0, w1, w2, w3, w4], ht0, ht1, ht2, _, _, _ =>
 refine AW.seq (AW.region (s_loadN (ds := [ex u0, ex u1, ex u2, ex u3, ex u4]) Q.ag_25 Q.sz_25 rfl rfl rfl (AWops.retype (vs := [u0, u1, u2, u3, u4]) (ps := p_api_Case a0) hap ht0 (s_loadN (ds := [ex v0, ex v1, ex v2, ex v3, ex v4, ex v5]) Q.ag_28 Q.sz_28 rfl rfl rfl (AWops.retype (vs := [v0, v1, v2, v3, v4, v5]) (ps := p_api_Inst a1) hap ht1 ?_)))))
 obtain ⟨r3, er3, h⟩ := bnd h
 refine ccM (Nat.le_refl x.base) [] [exO [u0, u1, u2, u3, u4], exO [v0, v1, v2, v3, v4, v5], exO [w0, w1, w2, w3, w4], (some (AObj.cells true (rowC (e_api_InstF x.base) r3.Insts)))] (D.agg [(ci r3.ID), (ct r3.Model), (C.own 3 0 r3.Insts.length 6), (C.p false (.sl r3.Docs.length (r3.Docs.flatMap e_api_Doc))), (ci r3.Clock)]) Q.ca_7 rfl rfl (ac (LendT.aggL (ac .sc (ac .sc (ac .imm (ac .imm (ac .sc an)))))) (ac (LendT.aggL (ac .sc (ac .sc (ac .sc (ac .sc (ac .imm (ac .sc an))))))) an)) an (tree_Put.meetsF x.base _ a0 a1 r3 er3) ?_
 refine s_alloc (cs := [(ci 0), (ct (⟨#[]⟩ : ByteArray)), (C.p true (.v (.slice none 0 0))), (C.p true (.v (.slice none 0 0))), (ci 0)]) F.z_25 rfl rfl (s_store (cs' := [(ci r3.ID), (ct r3.Model), (C.own 3 0 r3.Insts.length 6), (C.p false (.sl r3.Docs.length (r3.Docs.flatMap e_api_Doc))), (ci r3.Clock)]) rfl rfl rfl (List.cons_ne_nil _ _) rfl Q.sz_25 (nl rfl) rfl (AWops.nil ?_))
 refine AW.seq (AW.region (s_loadN (ds := [ex w0, ex w1, ex w2, ex w3, ex w4]) Q.ag_25 Q.sz_25 rfl rfl rfl (AWops.retype (vs := [w0, w1, w2, w3, w4]) (ps := p_api_Case r2) hap ht2 (s_loadN (ds := [ex v0, ex v1, ex v2, ex v3, ex v4, ex v5]) Q.ag_28 Q.sz_28 rfl rfl rfl (AWops.retype (vs := [v0, v1, v2, v3, v4, v5]) (ps := p_api_Inst a1) hap ht1 ?_)))))
 obtain ⟨r4, er4, h⟩ := bnd h
 refine cc [] [exO [u0, u1, u2, u3, u4], exO [v0, v1, v2, v3, v4, v5], exO [w0, w1, w2, w3, w4], (some (AObj.cells true (rowC (e_api_InstF x.base) r3.Insts))), (some (AObj.cells true [(ci r3.ID), (ct r3.Model), (C.own 3 0 r3.Insts.length 6), (C.p false (.sl r3.Docs.length (r3.Docs.flatMap e_api_Doc))), (ci r3.Clock)]))] (D.agg (c_api_Case r4)) Q.ca_8 rfl rfl (ac (LendT.aggL (ac .sc (ac .sc (ac .imm (ac .imm (ac .sc an)))))) (ac (LendT.aggL (ac .sc (ac .sc (ac .sc (ac .sc (ac .imm (ac .sc an))))))) an)) an (dossierref18_Put.meets _ r2 a1 r4 er4) ?_
 refine s_alloc (cs := [(ci 0), (ct (⟨#[]⟩ : ByteArray)), (C.p true (.v (.slice none 0 0))), (C.p true (.v (.slice none 0 0))), (ci 0)]) F.z_25 rfl rfl (s_store (cs' := (c_api_Case r4)) rfl rfl rfl (List.cons_ne_nil _ _) rfl Q.sz_25 (nl rfl) rfl (AWops.nil ?_))
 refine AW.seq (AW.region (s_loadN (ds := [(ci r3.ID), (ct r3.Model), (C.own 3 0 r3.Insts.length 6), (C.p false (.sl r3.Docs.length (r3.Docs.flatMap e_api_Doc))), (ci r3.Clock)]) Q.ag_25 Q.sz_25 rfl rfl rfl (s_loadN (ds := (c_api_Case r4)) Q.ag_25 Q.sz_25 rfl rfl rfl ?_)))
 obtain ⟨r5, er5, h⟩ := bnd h
 refine s_call2 (ρ := []) (br := true) (H2 := [exO [u0, u1, u2, u3, u4], exO [v0, v1, v2, v3, v4, v5], exO [w0, w1, w2, w3, w4], (some (AObj.cells true (rowC (e_api_InstF x.base) r3.Insts))), (some (AObj.cells true [(ci r3.ID), (ct r3.Model), (C.own 3 0 r3.Insts.length 6), (C.p false (.sl r3.Docs.length (r3.Docs.flatMap e_api_Doc))), (ci r3.Clock)])), (some (AObj.cells true (c_api_Case r4)))]) (d := (sb r5)) Q.ca_9 rfl rfl (ac (LendT.aggL (ac .sc (ac .sc (ac (LendC.bor (e_api_InstF_len _) rfl rfl rfl) (ac .imm (ac .sc an)))))) (ac (LendT.aggL (ac .sc (ac .sc (ac .imm (ac .imm (ac .sc an)))))) an)) an (by decide) rfl (dossierref18_Same.meetsF x.base _ r3 r4 r5 er5) (.inr ⟨rfl, rfl⟩) rfl rfl (s_assign (d := (sb r5)) rfl (AWops.nil ?_))
 obtain ⟨c3, h⟩ := gdH h
 simp only [small, Bool.and_eq_true, decide_eq_true_eq, List.all_eq_true] at c3
 obtain ⟨hlen, hlat⟩ := c3
 refine AW.seq (AW.seq (AW.region (s_fieldRef Q.fo_25_2 (by decide) rfl (s_load1 (c' := (C.own 3 0 r3.Insts.length 6)) Q.ag_22 rfl rfl (s_len (n := r3.Insts.length) Q.u_22 rfl (.inr ⟨(fun _ _ h => by cases h), ⟨_, rfl⟩⟩) (s_move (d := (si 0)) rfl (AWops.nil (AW.block ?_))))))))
 refine AW.loopw (st0 := ⟨70, (upd 70 (upd 70 (upd 70 (upd 70 (upd 70 (upd 70 (upd 70 topF 2 (rf 0 0)) 3 (rf 1 0)) 5 (rf 2 0)) 6 (rf 4 0)) 8 (sb r5)) 34 (si (r3.Insts.length : Int))) 35 (si 0)), [exO [u0, u1, u2, u3, u4], exO [v0, v1, v2, v3, v4, v5], exO [w0, w1, w2, w3, w4], (some (AObj.cells true (rowC (e_api_InstF x.base) r3.Insts))), (some (AObj.cells true [(ci r3.ID), (ct r3.Model), (C.own 3 0 r3.Insts.length 6), C.top, (ci r3.Clock)]))]⟩) (fun kv st => ∃ (i : Nat) (xs : List api_Inst), kv + i = r3.Insts.length + 1 ∧ i ≤ r3.Insts.length ∧ Alike r3.Insts xs ∧ st = ⟨70, (upd 70 (upd 70 (upd 70 (upd 70 (upd 70 (upd 70 (upd 70 topF 2 (rf 0 0)) 3 (rf 1 0)) 5 (rf 2 0)) 6 (rf 4 0)) 8 (sb r5)) 34 (si (r3.Insts.length : Int))) 35 (si (i : Int))), [exO [u0, u1, u2, u3, u4], exO [v0, v1, v2, v3, v4, v5], exO [w0, w1, w2, w3, w4], (some (AObj.cells true (rowC (e_api_InstF x.base) xs))), (some (AObj.cells true [(ci r3.ID), (ct r3.Model), (C.own 3 0 r3.Insts.length 6), C.top, (ci r3.Clock)]))]⟩) (k := r3.Insts.length + 1) (wg 3 [0, 1, 2, 3, 4] [] hx (le_upd (le_upd (le_upd (le_upd (le_upd (le_upd (le_upd (le_top _) (o1 (.ref rfl))) (o1 (.ref rfl))) (o1 (.ref rfl))) (o1 (.ref rfl))) (o1 .sc)) (o1 .sc)) (o1 .sc)) (ac (.cells id (ac .sc (ac .sc (ac .sc (ac .sc (ac .sc an)))))) (ac (.cells id (ac .sc (ac .sc (ac .sc (ac .sc (ac .sc (ac .sc an))))))) (ac (.cells id (ac .sc (ac .sc (ac .sc (ac .sc (ac .sc an)))))) (ac (.cells (fun _ => rfl) (all2_row _)) (ac (.cells (fun _ => rfl) (ac .sc (ac .sc (ac (.own rfl) (ac (.top _) (ac .sc an)))))) an)))))) ⟨0, r3.Insts, rfl, Nat.zero_le _, rfl, rfl⟩ ?_
 rintro kv st ⟨i, xs, hkv, hi, hal, rfl⟩
 refine AW.seq (AW.region (s_binI (v := (.bool (decide ((i : Int) < (r3.Insts.length : Int))))) rfl rfl rfl (AWops.nil (AW.seq ?_))))
 by_cases hci : decide ((i : Int) < (r3.Insts.length : Int)) = true
 ·have hi2 : i < r3.Insts.length := by have := of_decide_eq_true hci; omega
  have hxl := alike_len hal
  obtain ⟨y, hy⟩ : ∃ y, xs[i]? = some y := ⟨xs[i], List.getElem?_eq_getElem (by omega)⟩
  obtain ⟨y3, hy3⟩ : ∃ y, r3.Insts[i]? = some y := ⟨r3.Insts[i], List.getElem?_eq_getElem hi2⟩
  have hyl : y.Latches.length ≤ 1099511627776 := by rw [alike_at hal hy3 hy]; exact of_decide_eq_true (by simpa using hlat y3 (List.mem_of_getElem? hy3))
  refine AW.cond_yes rfl hci (AW.skip (AW.seq (AW.block (AW.seq (AW.region (s_move (d := (si (i : Int))) rfl (s_assign (d := (si (i : Int))) rfl (AWops.nil (AW.seq (AW.region ?_))))))))))
  refine s_fieldRef Q.fo_25_2 (by decide) rfl (s_load1 (c' := (C.own 3 0 r3.Insts.length 6)) Q.ag_22 rfl rfl (s_move (d := (si (i : Int))) rfl (s_indexOwn (d := (D.one (C.ref 3 (0 + ((i : Nat) : Int).toNat * 6)))) Q.u_22 Q.sz_28 rfl rfl (by omega) (by omega) rfl (s_fieldRef Q.fo_28_4 (by decide) rfl ?_))))
  obtain ⟨R1, hR1⟩ := row_at (f := e_api_InstF x.base) (sz := 6) (o := 4) (e_api_InstF_len x.base) (xs := xs) (i := ((i : Nat) : Int).toNat) (e := y) (by rw [Int.toNat_natCast]; exact hy) (e_api_InstF_eq x.base y) (by decide)
  refine s_load1 (c' := (C.p false (.fsl x.base y.Latches.length (y.Latches.flatMap e_i64)))) Q.ag_26 (congrArg some hR1) rfl (AWops.unfs (s_len (n := y.Latches.length) Q.u_26 rfl (.inr ⟨(fun _ _ h => by cases h), ⟨_, rfl⟩⟩) (s_move (d := (si 0)) rfl (AWops.nil (AW.block ?_)))))
  refine AW.loopw (st0 := ⟨70, (upd 70 (upd 70 (upd 70 (upd 70 (upd 70 (upd 70 (upd 70 (upd 70 (upd 70 (upd 70 topF 2 (rf 0 0)) 3 (rf 1 0)) 5 (rf 2 0)) 6 (rf 4 0)) 8 (sb r5)) 9 (si (i : Int))) 34 (si (r3.Insts.length : Int))) 35 (si (i : Int))) 44 (si (y.Latches.length : Int))) 45 (si 0)), [exO [u0, u1, u2, u3, u4], exO [v0, v1, v2, v3, v4, v5], exO [w0, w1, w2, w3, w4], (some (AObj.cells true (rowC (e_api_InstF x.base) xs))), (some (AObj.cells true [(ci r3.ID), (ct r3.Model), (C.own 3 0 r3.Insts.length 6), C.top, (ci r3.Clock)]))]⟩) (fun kw st => ∃ (j : Nat) (ys : List api_Inst), kw + j = y.Latches.length + 1 ∧ j ≤ y.Latches.length ∧ Alike xs ys ∧ st = ⟨70, (upd 70 (upd 70 (upd 70 (upd 70 (upd 70 (upd 70 (upd 70 (upd 70 (upd 70 (upd 70 topF 2 (rf 0 0)) 3 (rf 1 0)) 5 (rf 2 0)) 6 (rf 4 0)) 8 (sb r5)) 9 (si (i : Int))) 34 (si (r3.Insts.length : Int))) 35 (si (i : Int))) 44 (si (y.Latches.length : Int))) 45 (si (j : Int))), [exO [u0, u1, u2, u3, u4], exO [v0, v1, v2, v3, v4, v5], exO [w0, w1, w2, w3, w4], (some (AObj.cells true (rowC (e_api_InstF x.base) ys))), (some (AObj.cells true [(ci r3.ID), (ct r3.Model), (C.own 3 0 r3.Insts.length 6), C.top, (ci r3.Clock)]))]⟩) (k := y.Latches.length + 1) (wg 3 [0, 1, 2, 3, 4] [] hx (le_upd (le_upd (le_upd (le_upd (le_upd (le_upd (le_upd (le_upd (le_upd (le_upd (le_top _) (o1 (.ref rfl))) (o1 (.ref rfl))) (o1 (.ref rfl))) (o1 (.ref rfl))) (o1 .sc)) (o1 .sc)) (o1 .sc)) (o1 .sc)) (o1 .sc)) (o1 .sc)) (ac (.cells id (ac .sc (ac .sc (ac .sc (ac .sc (ac .sc an)))))) (ac (.cells id (ac .sc (ac .sc (ac .sc (ac .sc (ac .sc (ac .sc an))))))) (ac (.cells id (ac .sc (ac .sc (ac .sc (ac .sc (ac .sc an)))))) (ac (.cells (fun _ => rfl) (all2_row _)) (ac (.cells (fun _ => rfl) (ac .sc (ac .sc (ac (.own rfl) (ac (.top _) (ac .sc an)))))) an)))))) ⟨0, xs, rfl, Nat.zero_le _, rfl, rfl⟩ ?_
  rintro kw st ⟨j, ys, hkw, hj, hal2, rfl⟩
  refine AW.seq (AW.region (s_binI (v := (.bool (decide ((j : Int) < (y.Latches.length : Int))))) rfl rfl rfl (AWops.nil (AW.seq ?_))))
  by_cases hcj : decide ((j : Int) < (y.Latches.length : Int)) = true
  ·have hj2 : j < y.Latches.length := by have := of_decide_eq_true hcj; omega
   have hyl2 := alike_len hal2
   obtain ⟨z, hz⟩ : ∃ z, ys[i]? = some z := ⟨ys[i], List.getElem?_eq_getElem (by omega)⟩
   have hzl : z.Latches.length = y.Latches.length := alike_at hal2 hy hz
   have hzj : (z.Latches.flatMap e_i64)[((j : Nat) : Int).toNat]? = some (.v (.int .i64 (z.Latches[j]'(by omega)))) := by rw [flat_i64, Int.toNat_natCast, List.getElem?_map, List.getElem?_eq_getElem (by omega)]; rfl
   refine AW.cond_yes rfl hcj (AW.skip (AW.seq (AW.block (AW.seq (AW.region (s_move (d := (si (j : Int))) rfl (s_assign (d := (si (j : Int))) rfl (AWops.nil (AW.region ?_)))))))))
   refine s_fieldRef Q.fo_25_2 (by decide) rfl (s_load1 (c' := (C.own 3 0 r3.Insts.length 6)) Q.ag_22 rfl rfl (s_move (d := (si (i : Int))) rfl (s_indexOwn (d := (D.one (C.ref 3 (0 + ((i : Nat) : Int).toNat * 6)))) Q.u_22 Q.sz_28 rfl rfl (by omega) (by omega) rfl (s_fieldRef Q.fo_28_4 (by decide) rfl ?_))))
   obtain ⟨R2, hR2⟩ := row_at (f := e_api_InstF x.base) (sz := 6) (o := 4) (e_api_InstF_len x.base) (xs := ys) (i := ((i : Nat) : Int).toNat) (e := z) (by rw [Int.toNat_natCast]; exact hz) (e_api_InstF_eq x.base z) (by decide)
   refine s_load1 (c' := (C.p false (.fsl x.base z.Latches.length (z.Latches.flatMap e_i64)))) Q.ag_26 (congrArg some hR2) rfl (s_move (d := (si (j : Int))) rfl (s_indexF Q.u_26 Q.sz_3 rfl rfl (by omega) (by omega) hzj (s_loadF Q.ag_3 rfl (s_binI (v := (.int .i64 (IntKind.i64.wrap ((z.Latches[j]'(by omega)) + 1)))) rfl rfl rfl (s_indexF Q.u_26 Q.sz_3 rfl rfl (by omega) (by omega) hzj ?_)))))
   refine AWops.scribble (m := x.base) (t0 := 3) (ps := ys.flatMap (e_api_InstF x.base)) (fr' := (upd 70 (upd 70 (upd 70 (upd 70 (upd 70 (upd 70 (upd 70 (upd 70 (upd 70 (upd 70 topF 2 (rf 0 0)) 3 (rf 1 0)) 5 (rf 2 0)) 6 (rf 4 0)) 8 (sb r5)) 9 (si (i : Int))) 34 (si (r3.Insts.length : Int))) 35 (si (i : Int))) 44 (si (y.Latches.length : Int))) 45 (si (j : Int)))) (fun _ => rfl) (Nat.le_refl _) rfl rfl Q.sz_3 rfl (hav_ok _ _) ?_ (sf_upd (sf_upd (sf_upd (sf_upd (sf_upd (sf_upd (sf_upd (sf_upd (sf_upd (sf_upd sf_top (i := 2) (d := (rf 0 0)) rfl rfl) (i := 3) (d := (rf 1 0)) rfl rfl) (i := 5) (d := (rf 2 0)) rfl rfl) (i := 6) (d := (rf 4 0)) rfl rfl) (i := 8) (d := (sb r5)) rfl rfl) (i := 9) (d := (si (i : Int))) rfl rfl) (i := 34) (d := (si (r3.Insts.length : Int))) rfl rfl) (i := 35) (d := (si (i : Int))) rfl rfl) (i := 44) (d := (si (y.Latches.length : Int))) rfl rfl) (i := 45) (d := (si (j : Int))) rfl rfl) ?_
   ·intro t o ht ho
    have hlt := ho.lt
    match t, ht, ho, hlt with
    | 0, _, ho, _ => exact ⟨_, _, (Option.some.inj (Option.some.inj ho)).symm, rfl⟩
    | 1, _, ho, _ => exact ⟨_, _, (Option.some.inj (Option.some.inj ho)).symm, rfl⟩
    | 2, _, ho, _ => exact ⟨_, _, (Option.some.inj (Option.some.inj ho)).symm, rfl⟩
    | 4, _, ho, _ => exact ⟨_, _, (Option.some.inj (Option.some.inj ho)).symm, rfl⟩
   intro qs hqs
   obtain ⟨zs, rfl, hal3⟩ := hav_inst _ _ _ hqs
   show AWops _ x _ _ _ ⟨70, (upd 70 (upd 70 (upd 70 (upd 70 (upd 70 (upd 70 (upd 70 (upd 70 (upd 70 (upd 70 topF 2 (rf 0 0)) 3 (rf 1 0)) 5 (rf 2 0)) 6 (rf 4 0)) 8 (sb r5)) 9 (si (i : Int))) 34 (si (r3.Insts.length : Int))) 35 (si (i : Int))) 44 (si (y.Latches.length : Int))) 45 (si (j : Int))), [exO [u0, u1, u2, u3, u4], exO [v0, v1, v2, v3, v4, v5], exO [w0, w1, w2, w3, w4], (some (AObj.cells true (rowC (e_api_InstF x.base) zs))), (some (AObj.cells true [(ci r3.ID), (ct r3.Model), (C.own 3 0 r3.Insts.length 6), C.top, (ci r3.Clock)]))]⟩
   refine AWops.nil ?_
   refine AW.region (s_binI (v := (.int .i64 (IntKind.i64.wrap ((j : Int) + 1)))) rfl rfl rfl (s_move (d := (si (IntKind.i64.wrap ((j : Int) + 1)))) rfl (AWops.nil ?_)))
   rw [wrap_nat (by omega : j < 9223372036854775807)]
   exact ⟨kw - 1, ⟨70, (upd 70 (upd 70 (upd 70 (upd 70 (upd 70 (upd 70 (upd 70 (upd 70 (upd 70 (upd 70 topF 2 (rf 0 0)) 3 (rf 1 0)) 5 (rf 2 0)) 6 (rf 4 0)) 8 (sb r5)) 9 (si (i : Int))) 34 (si (r3.Insts.length : Int))) 35 (si (i : Int))) 44 (si (y.Latches.length : Int))) 45 (si ((j + 1 : Nat) : Int))), [exO [u0, u1, u2, u3, u4], exO [v0, v1, v2, v3, v4, v5], exO [w0, w1, w2, w3, w4], (some (AObj.cells true (rowC (e_api_InstF x.base) zs))), (some (AObj.cells true [(ci r3.ID), (ct r3.Model), (C.own 3 0 r3.Insts.length 6), C.top, (ci r3.Clock)]))]⟩, by omega, (wg 3 [0, 1, 2, 3, 4] [] hx (le_upd (le_upd (le_upd (le_upd (le_upd (le_upd (le_upd (le_upd (le_upd (le_upd (le_top _) (o1 (.ref rfl))) (o1 (.ref rfl))) (o1 (.ref rfl))) (o1 (.ref rfl))) (o1 .sc)) (o1 .sc)) (o1 .sc)) (o1 .sc)) (o1 .sc)) (o1 .sc)) (ac (.cells id (ac .sc (ac .sc (ac .sc (ac .sc (ac .sc an)))))) (ac (.cells id (ac .sc (ac .sc (ac .sc (ac .sc (ac .sc (ac .sc an))))))) (ac (.cells id (ac .sc (ac .sc (ac .sc (ac .sc (ac .sc an)))))) (ac (.cells (fun _ => rfl) (all2_row _)) (ac (.cells (fun _ => rfl) (ac .sc (ac .sc (ac (.own rfl) (ac (.top _) (ac .sc an)))))) an)))))), j + 1, zs, by omega, by omega, hal2.trans hal3, rfl⟩
  ·refine AW.cond_no rfl (Bool.eq_false_iff.mpr hcj) (AW.exit ?_)
   refine AW.region (s_binI (v := (.int .i64 (IntKind.i64.wrap ((i : Int) + 1)))) rfl rfl rfl (s_move (d := (si (IntKind.i64.wrap ((i : Int) + 1)))) rfl (AWops.nil ?_)))
   rw [wrap_nat (by omega : i < 9223372036854775807)]
   exact ⟨kv - 1, ⟨70, (upd 70 (upd 70 (upd 70 (upd 70 (upd 70 (upd 70 (upd 70 topF 2 (rf 0 0)) 3 (rf 1 0)) 5 (rf 2 0)) 6 (rf 4 0)) 8 (sb r5)) 34 (si (r3.Insts.length : Int))) 35 (si ((i + 1 : Nat) : Int))), [exO [u0, u1, u2, u3, u4], exO [v0, v1, v2, v3, v4, v5], exO [w0, w1, w2, w3, w4], (some (AObj.cells true (rowC (e_api_InstF x.base) ys))), (some (AObj.cells true [(ci r3.ID), (ct r3.Model), (C.own 3 0 r3.Insts.length 6), C.top, (ci r3.Clock)]))]⟩, by omega, (wg 3 [0, 1, 2, 3, 4] [] hx (le_upd (le_upd (le_upd (le_upd (le_upd (le_upd (le_upd (le_top _) (o1 (.ref rfl))) (o1 (.ref rfl))) (o1 (.ref rfl))) (o1 (.ref rfl))) (o1 .sc)) (o1 .sc)) (o1 .sc)) (ac (.cells id (ac .sc (ac .sc (ac .sc (ac .sc (ac .sc an)))))) (ac (.cells id (ac .sc (ac .sc (ac .sc (ac .sc (ac .sc (ac .sc an))))))) (ac (.cells id (ac .sc (ac .sc (ac .sc (ac .sc (ac .sc an)))))) (ac (.cells (fun _ => rfl) (all2_row _)) (ac (.cells (fun _ => rfl) (ac .sc (ac .sc (ac (.own rfl) (ac (.top _) (ac .sc an)))))) an)))))), i + 1, ys, by omega, by omega, hal.trans hal2, rfl⟩
 refine AW.cond_no rfl (Bool.eq_false_iff.mpr hci) (AW.exit (AW.seq (AW.region ?_)))
 refine s_move (d := (sb r5)) rfl (s_move (d := (sb r5)) rfl ?_)
 rcases itH h with ⟨c5, h⟩ | ⟨c5, h⟩
 ·refine AWops.guard_yes rfl (nl rfl) rfl c5 (s_loadN (ds := [ex u0, ex u1, ex u2, ex u3, ex u4]) Q.ag_25 Q.sz_25 rfl rfl rfl (AWops.retype (vs := [u0, u1, u2, u3, u4]) (ps := p_api_Case a0) hap ht0 (AWops.guard_yes rfl (nl rfl) rfl c5 (s_loadN (ds := [ex w0, ex w1, ex w2, ex w3, ex w4]) Q.ag_25 Q.sz_25 rfl rfl rfl (AWops.retype (vs := [w0, w1, w2, w3, w4]) (ps := p_api_Case r2) hap ht2 (AWops.guard_yes rfl (nl rfl) rfl c5 ?_))))))
  obtain ⟨r6, er6, h⟩ := bnd h
  refine cc [] [exO [u0, u1, u2, u3, u4], exO [v0, v1, v2, v3, v4, v5], exO [w0, w1, w2, w3, w4], (some (AObj.cells true (rowC (e_api_InstF x.base) xs))), (some (AObj.cells true [(ci r3.ID), (ct r3.Model), (C.own 3 0 r3.Insts.length 6), C.top, (ci r3.Clock)]))] (sb r6) Q.ca_9 rfl rfl (ac (LendT.aggL (ac .sc (ac .sc (ac .imm (ac .imm (ac .sc an)))))) (ac (LendT.aggL (ac .sc (ac .sc (ac .imm (ac .imm (ac .sc an)))))) an)) an (dossierref18_Same.meets _ a0 r2 r6 er6) (s_pick_yes (d := (sb r6)) rfl c5 rfl (s_move (d := (sb r6)) rfl ?_))
  rcases itH h with ⟨c6, h⟩ | ⟨c6, h⟩
  ·refine AWops.guard_yes rfl (nl rfl) rfl c6 ?_
   obtain ⟨r7, er7, h⟩ := bnd h
   refine cc [] [exO [u0, u1, u2, u3, u4], exO [v0, v1, v2, v3, v4, v5], exO [w0, w1, w2, w3, w4], (some (AObj.cells true (rowC (e_api_InstF x.base) xs))), (some (AObj.cells true [(ci r3.ID), (ct r3.Model), (C.own 3 0 r3.Insts.length 6), C.top, (ci r3.Clock)]))] (sb r7) Q.ca_5 rfl rfl an an (dossierlaw18_awake.meets _ r7 er7) (s_pick_yes (d := (sb r7)) rfl c6 rfl (s_assign (d := (sb r7)) rfl (AWops.nil (AW.ret ?_))))
   obtain rfl := Option.some.inj h
   exact ⟨.inr rfl, rfl, _, rfl⟩
  ·refine AWops.guard_no rfl (nl rfl) rfl c6 (s_pick_no (d := (sb false)) rfl c6 rfl (s_assign (d := (sb false)) rfl (AWops.nil (AW.ret ?_))))
   obtain rfl := Option.some.inj h
   exact ⟨.inr rfl, rfl, _, rfl⟩
 iterate 3 refine AWops.guard_no rfl (nl rfl) rfl c5 ?_
 refine s_pick_no (d := (sb false)) rfl c5 rfl (s_move (d := (sb false)) rfl (AWops.guard_no rfl (nl rfl) rfl rfl (s_pick_no (d := (sb false)) rfl rfl rfl (s_assign (d := (sb false)) rfl (AWops.nil (AW.ret ?_))))))
 obtain rfl := Option.some.inj h
 exact ⟨.inr rfl, rfl, _, rfl⟩
end Go.Abs.GenQ
