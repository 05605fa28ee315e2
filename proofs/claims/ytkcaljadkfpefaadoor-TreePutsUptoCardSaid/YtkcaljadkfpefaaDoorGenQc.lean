import Derived.Test.YtkcaljadkfpefaaDoorGenQb
set_option linter.unusedVariables false
set_option linter.unusedSimpArgs false
set_option maxRecDepth 100000
set_option maxHeartbeats 4000000
namespace Go.Abs.GenQ
open Go.Abs Go.Proofs
def dossierref18_part.f (k : Nat) (a0 : ByteArray) : Option (ByteArray × Int) := (dossierref18_last.f k a0 46).bind fun r1 => if (decide (r1 < 1)) = true then (some ((⟨#[]⟩ : ByteArray), 0)) else (if (decide (0 ≤ (IntKind.i64.wrap (r1 + 1)) ∧ (IntKind.i64.wrap (r1 + 1)) ≤ (a0.size : Int) ∧ (a0.size : Int) ≤ (a0.size : Int))) = true then ((dossierref01_Number.f k (a0.extract (IntKind.i64.wrap (r1 + 1)).toNat a0.size)).bind fun r4 => if (r4.2 != 0) = true then (some ((⟨#[]⟩ : ByteArray), 0)) else (if (decide (r4.1 < 1)) = true then (some ((⟨#[]⟩ : ByteArray), 0)) else (if (decide (0 ≤ 0 ∧ 0 ≤ r1 ∧ r1 ≤ (a0.size : Int))) = true then (some (a0.extract 0 r1.toNat, r4.1)) else none))) else none)
theorem dossierref18_part.meets (k : Nat) (a0 : ByteArray) (r : ByteArray × Int) (h : dossierref18_part.f k a0 = some r) : Meets Tryd.prog 39 [(st_ a0)] [] (D.tup [(st_ r.1), (si r.2)]) [] := by
 unfold dossierref18_part.f at h
 refine Meets.of_body (n := 29) Tryd.func39 rfl rfl (nl rfl) fun x hx => ?_
 replace hx : x.k = 0 := hx
 show AW _ x _ _ ⟨29, fr0 [(st_ a0)], []⟩
 refine AW.seq (AW.region ?_)
 refine s_assign (d := (st_ (⟨#[]⟩ : ByteArray))) rfl (s_assign (d := (si 0)) rfl (AWops.nil (AW.seq (AW.region (s_move (d := (st_ a0)) rfl ?_)))))
 obtain ⟨r1, er1, h⟩ := bnd h
 refine cc [] [] (si r1) F.ca_48 rfl rfl (ac (.one .sc) (ac (.one .sc) an)) an (dossierref18_last.meets _ a0 46 r1 er1) (s_assign (d := (si r1)) rfl (AWops.nil (AW.seq (AW.seq (AW.region (s_move (d := (si r1)) rfl (s_binI (v := (.bool (decide (r1 < 1)))) rfl rfl rfl (AWops.nil ?_))))))))
 rcases itH h with ⟨c2, h⟩ | ⟨c2, h⟩
 ·refine AW.cond_yes rfl c2 (AW.seq (AW.region ?_))
  refine s_assign (d := (st_ (⟨#[]⟩ : ByteArray))) rfl (s_assign (d := (si 0)) rfl (AWops.nil (AW.ret ?_)))
  obtain rfl := Option.some.inj h
  exact ⟨_, rfl, (wg 0 [] [] rfl (le_upd (le_top _) (DLe.tup (ac (TLe.one .sc) (ac (TLe.one .sc) an)))) an)⟩
 ·refine AW.cond_no rfl c2 (AW.skip (AW.seq (AW.region ?_)))
  refine s_move (d := (st_ a0)) rfl (s_move (d := (si r1)) rfl (s_binI (v := (.int .i64 (IntKind.i64.wrap (r1 + 1)))) rfl rfl rfl ?_))
  obtain ⟨c3, h⟩ := gdH h
  have dc3 := of_decide_eq_true c3
  refine s_sliceStr F.u_9 rfl (.yes rfl (by omega) rfl) .no (by omega) (by omega) ?_
  obtain ⟨r4, er4, h⟩ := bnd h
  refine cc [] [] (D.tup [(si r4.1), (si r4.2)]) F.ca_49 rfl rfl (ac (.one .sc) an) an (dossierref01_Number.meets _ (a0.extract (IntKind.i64.wrap (r1 + 1)).toNat a0.size) r4 er4) (s_move (d := (D.tup [(si r4.1), (si r4.2)])) rfl (s_extract (d := (si r4.1)) rfl rfl (s_extract (d := (si r4.2)) rfl rfl (s_assign (d := (si r4.1)) rfl (s_assign (d := (si r4.2)) rfl (AWops.nil (AW.seq (AW.seq (AW.region ?_)))))))))
  refine s_move (d := (si r4.2)) rfl (s_binI (v := (.bool (r4.2 != 0))) rfl rfl rfl (s_move (d := (sb (r4.2 != 0))) rfl ?_))
  rcases itH h with ⟨c5, h⟩ | ⟨c5, h⟩
  ·refine AWops.guard_no rfl (nl rfl) rfl c5 ?_
   refine AWops.guard_no rfl (nl rfl) rfl c5 ?_
   refine s_pick_yes (d := (sb true)) rfl c5 rfl (AWops.nil ?_)
   refine AW.cond_yes rfl rfl (AW.seq (AW.region ?_))
   refine s_assign (d := (st_ (⟨#[]⟩ : ByteArray))) rfl (s_assign (d := (si 0)) rfl (AWops.nil (AW.ret ?_)))
   obtain rfl := Option.some.inj h
   exact ⟨_, rfl, (wg 0 [] [] rfl (le_upd (le_top _) (DLe.tup (ac (TLe.one .sc) (ac (TLe.one .sc) an)))) an)⟩
  ·refine AWops.guard_yes rfl (nl rfl) rfl c5 ?_
   refine s_move (d := (si r4.1)) rfl ?_
   refine AWops.guard_yes rfl (nl rfl) rfl c5 ?_
   refine s_binI (v := (.bool (decide (r4.1 < 1)))) rfl rfl rfl (s_pick_no (d := (sb (decide (r4.1 < 1)))) rfl c5 rfl (AWops.nil ?_))
   rcases itH h with ⟨c6, h⟩ | ⟨c6, h⟩
   ·refine AW.cond_yes rfl c6 (AW.seq (AW.region ?_))
    refine s_assign (d := (st_ (⟨#[]⟩ : ByteArray))) rfl (s_assign (d := (si 0)) rfl (AWops.nil (AW.ret ?_)))
    obtain rfl := Option.some.inj h
    exact ⟨_, rfl, (wg 0 [] [] rfl (le_upd (le_top _) (DLe.tup (ac (TLe.one .sc) (ac (TLe.one .sc) an)))) an)⟩
   ·refine AW.cond_no rfl c6 (AW.skip (AW.seq (AW.region ?_)))
    refine s_move (d := (st_ a0)) rfl (s_move (d := (si r1)) rfl ?_)
    obtain ⟨c7, h⟩ := gdH h
    have dc7 := of_decide_eq_true c7
    refine s_sliceStr F.u_9 rfl .no (.yes rfl (by omega) rfl) (by omega) (by omega) (s_move (d := (si r4.1)) rfl (s_assign (d := (st_ (a0.extract 0 r1.toNat))) rfl (s_assign (d := (si r4.1)) rfl (AWops.nil (AW.ret ?_)))))
    obtain rfl := Option.some.inj h
    exact ⟨_, rfl, (wg 0 [] [] rfl (le_upd (le_top _) (DLe.tup (ac (TLe.one .sc) (ac (TLe.one .sc) an)))) an)⟩
def dossierref18_texts.f (k : Nat) (a0 : ByteArray) (a1 : ByteArray) : Option Int := if (Op.bytesLess a0.toList a1.toList) = true then (some (-1)) else (if (Op.bytesLess a0.toList a1.toList || a0.toList == a1.toList) = true then (some 0) else (some 1))
theorem dossierref18_texts.meets (k : Nat) (a0 : ByteArray) (a1 : ByteArray) (r : Int) (h : dossierref18_texts.f k a0 a1 = some r) : Meets Tryd.prog 40 [(st_ a0), (st_ a1)] [] (si r) [] := by
 unfold dossierref18_texts.f at h
 refine Meets.of_body (n := 13) Tryd.func40 rfl rfl (nl rfl) fun x hx => ?_
 replace hx : x.k = 0 := hx
 show AW _ x _ _ ⟨13, fr0 [(st_ a0), (st_ a1)], []⟩
 refine AW.seq (AW.region ?_)
 refine s_assign (d := (si 0)) rfl (AWops.nil (AW.seq (AW.block (AW.seq (AW.region ?_)))))
 refine s_move (d := (st_ a0)) rfl (s_move (d := (st_ a1)) rfl (s_binS (v := (.bool (Op.bytesLess a0.toList a1.toList))) rfl rfl rfl (s_assign (d := (sb (Op.bytesLess a0.toList a1.toList))) rfl (AWops.nil ?_))))
 rcases itH h with ⟨c1, h⟩ | ⟨c1, h⟩
 ·refine AW.cond_yes rfl c1 (AW.seq (AW.region ?_))
  refine s_assign (d := (si (-1))) rfl (AWops.nil (AW.ret ?_))
  obtain rfl := Option.some.inj h
  exact ⟨_, rfl, (wg 0 [] [] rfl (le_upd (le_top _) (o1 .sc)) an)⟩
 ·refine AW.cond_no rfl c1 (AW.seq (AW.region ?_))
  refine s_move (d := (st_ a0)) rfl (s_move (d := (st_ a1)) rfl (s_binS (v := (.bool (!(Op.bytesLess a0.toList a1.toList || a0.toList == a1.toList)))) rfl rfl rfl (s_assign (d := (sb (!(Op.bytesLess a0.toList a1.toList || a0.toList == a1.toList)))) rfl (AWops.nil ?_))))
  rcases itH h with ⟨c2, h⟩ | ⟨c2, h⟩
  ·refine AW.cond_no rfl (by rw [c2] <;> rfl) (AW.skip (AW.seq (AW.region ?_)))
   refine s_assign (d := (si 0)) rfl (AWops.nil (AW.ret ?_))
   obtain rfl := Option.some.inj h
   exact ⟨_, rfl, (wg 0 [] [] rfl (le_upd (le_top _) (o1 .sc)) an)⟩
  ·refine AW.cond_yes rfl (by rw [c2] <;> rfl) (AW.seq (AW.region ?_))
   refine s_assign (d := (si 1)) rfl (AWops.nil (AW.ret ?_))
   obtain rfl := Option.some.inj h
   exact ⟨_, rfl, (wg 0 [] [] rfl (le_upd (le_top _) (o1 .sc)) an)⟩
mutual
def dossierref18_Order.l0 : Nat → Int → (List ByteArray) → (List ByteArray) → Option Int
 | 0, _, _, _ => none
 | k + 1, x3, r1, r2 => if (decide (x3 < (r1.length : Int))) = true then (if (decide (x3 < (r2.length : Int))) = true then ((rd r1 x3).bind fun v6 => (dossierref18_part.f k v6).bind fun r8 => (rd r2 x3).bind fun v9 => (dossierref18_part.f k v9).bind fun r11 => (dossierref18_texts.f k r8.1 r11.1).bind fun r12 => if (r12 != 0) = true then (some r12) else (if (r8.2 != r11.2) = true then (if (decide (r8.2 < r11.2)) = true then (some (-1)) else (some 1)) else ((rd r1 x3).bind fun v16 => (rd r2 x3).bind fun v18 => (dossierref18_texts.f k v16 v18).bind fun r20 => if (r20 != 0) = true then (some r20) else (dossierref18_Order.l0 k (IntKind.i64.wrap (x3 + 1)) r1 r2)))) else (some (if (if (IntKind.i64.wrap ((r1.length : Int) - (r2.length : Int))) < 1 then (IntKind.i64.wrap ((r1.length : Int) - (r2.length : Int))) else 1) > (-1) then (if (IntKind.i64.wrap ((r1.length : Int) - (r2.length : Int))) < 1 then (IntKind.i64.wrap ((r1.length : Int) - (r2.length : Int))) else 1) else (-1)))) else (some (if (if (IntKind.i64.wrap ((r1.length : Int) - (r2.length : Int))) < 1 then (IntKind.i64.wrap ((r1.length : Int) - (r2.length : Int))) else 1) > (-1) then (if (IntKind.i64.wrap ((r1.length : Int) - (r2.length : Int))) < 1 then (IntKind.i64.wrap ((r1.length : Int) - (r2.length : Int))) else 1) else (-1)))
end
def dossierref18_Order.f (k : Nat) (a0 : ByteArray) (a1 : ByteArray) : Option Int := (dossierref18_parts.f k a0).bind fun r1 => (dossierref18_parts.f k a1).bind fun r2 => dossierref18_Order.l0 k 0 r1 r2
theorem dossierref18_Order.meets (k : Nat) (a0 : ByteArray) (a1 : ByteArray) (r : Int) (h : dossierref18_Order.f k a0 a1 = some r) : Meets Tryd.prog 21 [(st_ a0), (st_ a1)] [] (si r) [] := by
 unfold dossierref18_Order.f at h
 refine Meets.of_body (n := 77) Tryd.func21 rfl rfl (nl rfl) fun x hx => ?_
 replace hx : x.k = 0 := hx
 show AW _ x _ _ ⟨77, fr0 [(st_ a0), (st_ a1)], []⟩
 refine AW.seq (AW.region ?_)
 refine s_assign (d := (si 0)) rfl (AWops.nil (AW.seq (AW.region ?_)))
 refine s_move (d := (st_ a0)) rfl ?_
 obtain ⟨r1, er1, h⟩ := bnd h
 refine cc [] [(ow_ e_str r1)] (D.one (C.own 0 0 r1.length 1)) F.ca_38 rfl rfl (ac (.one .sc) an) an (dossierref18_parts.meets _ a0 r1 er1) (s_move (d := (st_ a1)) rfl ?_)
 obtain ⟨r2, er2, h⟩ := bnd h
 refine cc [] [(ow_ e_str r1), (ow_ e_str r2)] (D.one (C.own 1 0 r2.length 1)) F.ca_38 rfl rfl (ac (.one .sc) an) an (dossierref18_parts.meets _ a1 r2 er2) (s_assign (d := (D.one (C.own 0 0 r1.length 1))) rfl (s_assign (d := (D.one (C.own 1 0 r2.length 1))) rfl (AWops.nil (AW.seq (AW.seq (AW.region (s_assign (d := (si 0)) rfl (AWops.nil (AW.block ?_)))))))))
 refine AW.loopw (st0 := ⟨77, (upd 77 (upd 77 (upd 77 topF 5 (D.one (C.own 0 0 r1.length 1))) 6 (D.one (C.own 1 0 r2.length 1))) 7 (si 0)), [(ow_ e_str r1), (ow_ e_str r2)]⟩) (fun kv st => kv ≤ k ∧ ∃ (x3 : Int), dossierref18_Order.l0 kv x3 r1 r2 = some r ∧ st = ⟨77, (upd 77 (upd 77 (upd 77 topF 5 (D.one (C.own 0 0 r1.length 1))) 6 (D.one (C.own 1 0 r2.length 1))) 7 (si x3)), [(ow_ e_str r1), (ow_ e_str r2)]⟩) (k := k) (wg 0 [0, 1] [] hx (le_upd (le_upd (le_upd (le_top _) (o1 (.own rfl))) (o1 (.own rfl))) (o1 .sc)) (ac (.cells (fun _ => rfl) (all2_row _)) (ac (.cells (fun _ => rfl) (all2_row _)) an))) ⟨Nat.le_refl _, 0, h, rfl⟩ ?_
 rintro ql0 st ⟨hkl0, x3, h, rfl⟩
 cases ql0 with
 | zero => exact absurd h (by simp [dossierref18_Order.l0])
 | succ ql0 =>
  replace h := (dossierref18_Order.l0.eq_2 _ _ _ _).symm.trans h
  refine AW.seq (AW.seq (AW.region ?_))
  refine s_move (d := (si x3)) rfl (s_move (d := (D.one (C.own 0 0 r1.length 1))) rfl (s_len (n := r1.length) F.u_37 rfl (.inr ⟨(fun _ _ h => by cases h), ⟨_, rfl⟩⟩) (s_binI (v := (.bool (decide (x3 < (r1.length : Int))))) rfl rfl rfl (s_move (d := (sb (decide (x3 < (r1.length : Int))))) rfl ?_))))
  rcases itH h with ⟨c4, h⟩ | ⟨c4, h⟩
  ·refine AWops.guard_yes rfl (nl rfl) rfl c4 ?_
   refine s_move (d := (si x3)) rfl ?_
   refine AWops.guard_yes rfl (nl rfl) rfl c4 ?_
   refine s_move (d := (D.one (C.own 1 0 r2.length 1))) rfl ?_
   refine AWops.guard_yes rfl (nl rfl) rfl c4 ?_
   refine s_len (n := r2.length) F.u_37 rfl (.inr ⟨(fun _ _ h => by cases h), ⟨_, rfl⟩⟩) ?_
   refine AWops.guard_yes rfl (nl rfl) rfl c4 ?_
   refine s_binI (v := (.bool (decide (x3 < (r2.length : Int))))) rfl rfl rfl (s_pick_yes (d := (sb (decide (x3 < (r2.length : Int))))) rfl c4 rfl (AWops.nil ?_))
   rcases itH h with ⟨c5, h⟩ | ⟨c5, h⟩
   ·refine AW.cond_yes rfl c5 (AW.skip (AW.seq (AW.block (AW.seq (AW.region ?_)))))
    refine s_move (d := (D.one (C.own 0 0 r1.length 1))) rfl (s_move (d := (si x3)) rfl ?_)
    obtain ⟨v6, ev6, h⟩ := bnd h
    obtain ⟨pv6, qv6, gv6⟩ := rd_some ev6
    refine s_indexOwn (d := (D.one (C.ref 0 (0 + x3.toNat * 1)))) F.u_37 F.sz_9 rfl rfl pv6 qv6 rfl ?_
    obtain ⟨R7, hR7⟩ := row_at (f := e_str) (sz := 1) (o := 0) e_str_len gv6 (e_str_eq v6) (by decide)
    refine s_load1 (c' := (ct v6)) F.ag_9 (congrArg some hR7) rfl ?_
    obtain ⟨r8, er8, h⟩ := bnd h
    refine cc [] [(ow_ e_str r1), (ow_ e_str r2)] (D.tup [(st_ r8.1), (si r8.2)]) F.ca_39 rfl rfl (ac (.one .sc) an) an (dossierref18_part.meets _ v6 r8 er8) (s_move (d := (D.tup [(st_ r8.1), (si r8.2)])) rfl (s_extract (d := (st_ r8.1)) rfl rfl (s_extract (d := (si r8.2)) rfl rfl (s_assign (d := (st_ r8.1)) rfl (s_assign (d := (si r8.2)) rfl (AWops.nil (AW.seq (AW.region ?_))))))))
    refine s_move (d := (D.one (C.own 1 0 r2.length 1))) rfl (s_move (d := (si x3)) rfl ?_)
    obtain ⟨v9, ev9, h⟩ := bnd h
    obtain ⟨pv9, qv9, gv9⟩ := rd_some ev9
    refine s_indexOwn (d := (D.one (C.ref 1 (0 + x3.toNat * 1)))) F.u_37 F.sz_9 rfl rfl pv9 qv9 rfl ?_
    obtain ⟨R10, hR10⟩ := row_at (f := e_str) (sz := 1) (o := 0) e_str_len gv9 (e_str_eq v9) (by decide)
    refine s_load1 (c' := (ct v9)) F.ag_9 (congrArg some hR10) rfl ?_
    obtain ⟨r11, er11, h⟩ := bnd h
    refine cc [] [(ow_ e_str r1), (ow_ e_str r2)] (D.tup [(st_ r11.1), (si r11.2)]) F.ca_39 rfl rfl (ac (.one .sc) an) an (dossierref18_part.meets _ v9 r11 er11) (s_move (d := (D.tup [(st_ r11.1), (si r11.2)])) rfl (s_extract (d := (st_ r11.1)) rfl rfl (s_extract (d := (si r11.2)) rfl rfl (s_assign (d := (st_ r11.1)) rfl (s_assign (d := (si r11.2)) rfl (AWops.nil (AW.seq (AW.seq (AW.region ?_)))))))))
    refine s_move (d := (st_ r8.1)) rfl (s_move (d := (st_ r11.1)) rfl ?_)
    obtain ⟨r12, er12, h⟩ := bnd h
    refine cc [] [(ow_ e_str r1), (ow_ e_str r2)] (si r12) F.ca_40 rfl rfl (ac (.one .sc) (ac (.one .sc) an)) an (dossierref18_texts.meets _ r8.1 r11.1 r12 er12) (s_assign (d := (si r12)) rfl (AWops.nil (AW.seq (AW.region (s_move (d := (si r12)) rfl (s_binI (v := (.bool (r12 != 0))) rfl rfl rfl (AWops.nil ?_)))))))
    rcases itH h with ⟨c13, h⟩ | ⟨c13, h⟩
    ·refine AW.cond_yes rfl c13 (AW.seq (AW.region ?_))
     refine s_move (d := (si r12)) rfl (s_assign (d := (si r12)) rfl (AWops.nil (AW.ret ?_)))
     obtain rfl := Option.some.inj h
     exact ⟨_, rfl, (wg 0 [] [] rfl (le_upd (le_top _) (o1 .sc)) an)⟩
    ·refine AW.cond_no rfl c13 (AW.skip (AW.seq (AW.seq (AW.region ?_))))
     refine s_move (d := (si r8.2)) rfl (s_move (d := (si r11.2)) rfl (s_binI (v := (.bool (r8.2 != r11.2))) rfl rfl rfl (AWops.nil ?_)))
     rcases itH h with ⟨c14, h⟩ | ⟨c14, h⟩
     ·refine AW.cond_yes rfl c14 (AW.seq (AW.seq (AW.region ?_)))
      refine s_move (d := (si r8.2)) rfl (s_move (d := (si r11.2)) rfl (s_binI (v := (.bool (decide (r8.2 < r11.2)))) rfl rfl rfl (AWops.nil ?_)))
      rcases itH h with ⟨c15, h⟩ | ⟨c15, h⟩
      ·refine AW.cond_yes rfl c15 (AW.seq (AW.region ?_))
       refine s_assign (d := (si (-1))) rfl (AWops.nil (AW.ret ?_))
       obtain rfl := Option.some.inj h
       exact ⟨_, rfl, (wg 0 [] [] rfl (le_upd (le_top _) (o1 .sc)) an)⟩
      ·refine AW.cond_no rfl c15 (AW.skip (AW.seq (AW.region ?_)))
       refine s_assign (d := (si 1)) rfl (AWops.nil (AW.ret ?_))
       obtain rfl := Option.some.inj h
       exact ⟨_, rfl, (wg 0 [] [] rfl (le_upd (le_top _) (o1 .sc)) an)⟩
     ·refine AW.cond_no rfl c14 (AW.skip (AW.seq ?_))
      refine AW.weak (st' := ⟨77, (upd 77 (upd 77 (upd 77 (upd 77 (upd 77 (upd 77 (upd 77 topF 5 (D.one (C.own 0 0 r1.length 1))) 6 (D.one (C.own 1 0 r2.length 1))) 7 (si x3)) 23 (si x3)) 24 (D.one (C.own 1 0 r2.length 1))) 25 (si (r2.length : Int))) 26 (sb (decide (x3 < (r2.length : Int))))), [(ow_ e_str r1), (ow_ e_str r2)]⟩) (wg 0 [0, 1] [] hx (le_upd (le_upd (le_upd (le_upd (le_upd (le_upd (le_upd (le_top _) (o1 (.own rfl))) (o1 (.own rfl))) (o1 .sc)) (o1 .sc)) (o1 (.own rfl))) (o1 .sc)) (o1 .sc)) (ac (.cells (fun _ => rfl) (all2_row _)) (ac (.cells (fun _ => rfl) (all2_row _)) an))) ?_
      obtain ⟨v16, ev16, h⟩ := bnd h
      obtain ⟨pv16, qv16, gv16⟩ := rd_some ev16
      obtain ⟨R17, hR17⟩ := row_at (f := e_str) (sz := 1) (o := 0) e_str_len gv16 (e_str_eq v16) (by decide)
      obtain ⟨v18, ev18, h⟩ := bnd h
      obtain ⟨pv18, qv18, gv18⟩ := rd_some ev18
      obtain ⟨R19, hR19⟩ := row_at (f := e_str) (sz := 1) (o := 0) e_str_len gv18 (e_str_eq v18) (by decide)
      obtain ⟨r20, er20, h⟩ := bnd h
      refine AW.draw (n := 77) (L := 3) [(ft 0 58 (D.one (C.own 0 0 r1.length 1)) [(5, (D.one (C.own 0 0 r1.length 1)))]), (ft 1 59 (si x3) [(7, (si x3))]), (2, ⟨some 60, (D.one (C.ref 0 (0 + x3.toNat * 1))), [(58, (D.one (C.own 0 0 r1.length 1))), (59, (si x3))], [(0, (ow_ e_str r1))], [], none⟩), (3, ⟨some 61, (st_ v16), [(60, (D.one (C.ref 0 (0 + x3.toNat * 1))))], [(0, (ow_ e_str r1))], [], none⟩), (ft 4 62 (D.one (C.own 1 0 r2.length 1)) [(6, (D.one (C.own 1 0 r2.length 1)))]), (ft 5 63 (si x3) [(7, (si x3))]), (6, ⟨some 64, (D.one (C.ref 1 (0 + x3.toNat * 1))), [(62, (D.one (C.own 1 0 r2.length 1))), (63, (si x3))], [(1, (ow_ e_str r2))], [], none⟩), (7, ⟨some 65, (st_ v18), [(64, (D.one (C.ref 1 (0 + x3.toNat * 1))))], [(1, (ow_ e_str r2))], [], none⟩), (ft 8 66 (si r20) [(61, (st_ v16)), (65, (st_ v18))]), (ft 9 13 (si r20) [(66, (si r20))])] [[], [], [0, 1], [0, 1, 2], [], [], [4, 5], [4, 5, 6], (.range 8), (.range 9)] (nl rfl) [0, 0, 1, 2, 0, 0, 1, 2, 3, 4] rfl (TK := []) rfl AllK.nil' (by repeat (first | refine fC ⟨?_, ?_⟩ ?_ | refine sC rfl ?_ | refine hC rfl ?_ | trivial)) ?_ ?_
      ·refine (pC ?_ (pC ?_ (pC ?_ (pC ?_ (pC ?_ (pC ?_ (pC ?_ (pC ?_ (pC ?_ (pC ?_ AllStep.nil'))))))))))
       ·intro K rest fr hv htk k
        show AWops _ x _ _ K ⟨77, (upd 77 fr 5 (D.one (C.own 0 0 r1.length 1))), _⟩
        refine s_move (d := (D.one (C.own 0 0 r1.length 1))) rfl k
       ·intro K rest fr hv htk k
        show AWops _ x _ _ K ⟨77, (upd 77 fr 7 (si x3)), _⟩
        refine s_move (d := (si x3)) rfl k
       ·intro K rest fr hv htk k
        show AWops _ x _ _ K ⟨77, (upd 77 (upd 77 fr 59 (si x3)) 58 (D.one (C.own 0 0 r1.length 1))), [(ow_ e_str r1), (hv 1), (hv 2)]⟩
        refine s_indexOwn (d := (D.one (C.ref 0 (0 + x3.toNat * 1)))) F.u_37 F.sz_9 rfl rfl pv16 qv16 rfl k
       ·intro K rest fr hv htk k
        show AWops _ x _ _ K ⟨77, (upd 77 fr 60 (D.one (C.ref 0 (0 + x3.toNat * 1)))), [(ow_ e_str r1), (hv 1), (hv 2)]⟩
        refine s_load1 (c' := (ct v16)) F.ag_9 (congrArg some hR17) rfl k
       ·intro K rest fr hv htk k
        show AWops _ x _ _ K ⟨77, (upd 77 fr 6 (D.one (C.own 1 0 r2.length 1))), _⟩
        refine s_move (d := (D.one (C.own 1 0 r2.length 1))) rfl k
       ·intro K rest fr hv htk k
        show AWops _ x _ _ K ⟨77, (upd 77 fr 7 (si x3)), _⟩
        refine s_move (d := (si x3)) rfl k
       ·intro K rest fr hv htk k
        show AWops _ x _ _ K ⟨77, (upd 77 (upd 77 fr 63 (si x3)) 62 (D.one (C.own 1 0 r2.length 1))), [(hv 0), (ow_ e_str r2), (hv 2)]⟩
        refine s_indexOwn (d := (D.one (C.ref 1 (0 + x3.toNat * 1)))) F.u_37 F.sz_9 rfl rfl pv18 qv18 rfl k
       ·intro K rest fr hv htk k
        show AWops _ x _ _ K ⟨77, (upd 77 fr 64 (D.one (C.ref 1 (0 + x3.toNat * 1)))), [(hv 0), (ow_ e_str r2), (hv 2)]⟩
        refine s_load1 (c' := (ct v18)) F.ag_9 (congrArg some hR19) rfl k
       ·intro K rest fr hv htk k
        show AWops _ x _ _ K ⟨77, (upd 77 (upd 77 fr 65 (st_ v18)) 61 (st_ v16)), [(hv 0), (hv 1), (hv 2)]⟩
        refine cc [] [(hv 0), (hv 1), (hv 2)] (si r20) F.ca_40 rfl rfl (ac (.one .sc) (ac (.one .sc) an)) an (dossierref18_texts.meets _ v16 v18 r20 er20) k
       ·intro K rest fr hv htk k
        show AWops _ x _ _ K ⟨77, (upd 77 fr 66 (si r20)), _⟩
        refine s_assign (d := (si r20)) rfl k
      ·refine AWops.weak (st' := ⟨77, (upd 77 (upd 77 (upd 77 (upd 77 (upd 77 (upd 77 (upd 77 (upd 77 topF 5 (D.one (C.own 0 0 r1.length 1))) 6 (D.one (C.own 1 0 r2.length 1))) 7 (si x3)) 13 (si r20)) 23 (si x3)) 24 (D.one (C.own 1 0 r2.length 1))) 25 (si (r2.length : Int))) 26 (sb (decide (x3 < (r2.length : Int))))), [(ow_ e_str r1), (ow_ e_str r2)]⟩) (wg 0 [0, 1] [] hx (le_upd (le_upd (le_upd (le_upd (le_upd (le_upd (le_upd (le_upd (le_top _) (o1 (.own rfl))) (o1 (.own rfl))) (o1 .sc)) (o1 .sc)) (o1 .sc)) (o1 (.own rfl))) (o1 .sc)) (o1 .sc)) (ac (.cells (fun _ => rfl) (all2_row _)) (ac (.cells (fun _ => rfl) (all2_row _)) an))) (AWops.nil (AW.seq (AW.region ?_)))
       refine s_move (d := (si r20)) rfl (s_binI (v := (.bool (r20 != 0))) rfl rfl rfl (AWops.nil ?_))
       rcases itH h with ⟨c21, h⟩ | ⟨c21, h⟩
       ·refine AW.cond_yes rfl c21 (AW.seq (AW.region ?_))
        refine s_move (d := (si r20)) rfl (s_assign (d := (si r20)) rfl (AWops.nil (AW.ret ?_)))
        obtain rfl := Option.some.inj h
        exact ⟨_, rfl, (wg 0 [] [] rfl (le_upd (le_top _) (o1 .sc)) an)⟩
       ·refine AW.cond_no rfl c21 (AW.skip (AW.region ?_))
        refine s_move (d := (si x3)) rfl (s_binI (v := (.int .i64 (IntKind.i64.wrap (x3 + 1)))) rfl rfl rfl (s_assign (d := (si (IntKind.i64.wrap (x3 + 1)))) rfl (AWops.nil ?_)))
        exact ⟨_, ⟨77, (upd 77 (upd 77 (upd 77 topF 5 (D.one (C.own 0 0 r1.length 1))) 6 (D.one (C.own 1 0 r2.length 1))) 7 (si (IntKind.i64.wrap (x3 + 1)))), [(ow_ e_str r1), (ow_ e_str r2)]⟩, by omega, (wg 0 [0, 1] [] hx (le_upd (le_upd (le_upd (le_top _) (o1 (.own rfl))) (o1 (.own rfl))) (o1 .sc)) (ac (.cells (fun _ => rfl) (all2_row _)) (ac (.cells (fun _ => rfl) (all2_row _)) an))), by omega, IntKind.i64.wrap (x3 + 1), h, rfl⟩
   ·refine AW.cond_no rfl c5 (AW.exit (AW.seq (AW.region ?_)))
    refine s_move (d := (D.one (C.own 0 0 r1.length 1))) rfl (s_len (n := r1.length) F.u_37 rfl (.inr ⟨(fun _ _ h => by cases h), ⟨_, rfl⟩⟩) (s_move (d := (D.one (C.own 1 0 r2.length 1))) rfl (s_len (n := r2.length) F.u_37 rfl (.inr ⟨(fun _ _ h => by cases h), ⟨_, rfl⟩⟩) (s_binI (v := (.int .i64 (IntKind.i64.wrap ((r1.length : Int) - (r2.length : Int))))) rfl rfl rfl (s_min2 (r := (if (IntKind.i64.wrap ((r1.length : Int) - (r2.length : Int))) < 1 then (IntKind.i64.wrap ((r1.length : Int) - (r2.length : Int))) else 1)) rfl rfl rfl ?_)))))
    refine s_max2 (r := (if (if (IntKind.i64.wrap ((r1.length : Int) - (r2.length : Int))) < 1 then (IntKind.i64.wrap ((r1.length : Int) - (r2.length : Int))) else 1) > (-1) then (if (IntKind.i64.wrap ((r1.length : Int) - (r2.length : Int))) < 1 then (IntKind.i64.wrap ((r1.length : Int) - (r2.length : Int))) else 1) else (-1))) rfl rfl rfl (s_assign (d := (si (if (if (IntKind.i64.wrap ((r1.length : Int) - (r2.length : Int))) < 1 then (IntKind.i64.wrap ((r1.length : Int) - (r2.length : Int))) else 1) > (-1) then (if (IntKind.i64.wrap ((r1.length : Int) - (r2.length : Int))) < 1 then (IntKind.i64.wrap ((r1.length : Int) - (r2.length : Int))) else 1) else (-1)))) rfl (AWops.nil (AW.ret ?_)))
    obtain rfl := Option.some.inj h
    exact ⟨_, rfl, (wg 0 [] [] rfl (le_upd (le_top _) (o1 .sc)) an)⟩
  ·iterate 4 refine AWops.guard_no rfl (nl rfl) rfl c4 ?_
   refine s_pick_no (d := (sb false)) rfl c4 rfl (AWops.nil ?_)
   refine AW.cond_no rfl rfl (AW.exit (AW.seq (AW.region ?_)))
   refine s_move (d := (D.one (C.own 0 0 r1.length 1))) rfl (s_len (n := r1.length) F.u_37 rfl (.inr ⟨(fun _ _ h => by cases h), ⟨_, rfl⟩⟩) (s_move (d := (D.one (C.own 1 0 r2.length 1))) rfl (s_len (n := r2.length) F.u_37 rfl (.inr ⟨(fun _ _ h => by cases h), ⟨_, rfl⟩⟩) (s_binI (v := (.int .i64 (IntKind.i64.wrap ((r1.length : Int) - (r2.length : Int))))) rfl rfl rfl (s_min2 (r := (if (IntKind.i64.wrap ((r1.length : Int) - (r2.length : Int))) < 1 then (IntKind.i64.wrap ((r1.length : Int) - (r2.length : Int))) else 1)) rfl rfl rfl ?_)))))
   refine s_max2 (r := (if (if (IntKind.i64.wrap ((r1.length : Int) - (r2.length : Int))) < 1 then (IntKind.i64.wrap ((r1.length : Int) - (r2.length : Int))) else 1) > (-1) then (if (IntKind.i64.wrap ((r1.length : Int) - (r2.length : Int))) < 1 then (IntKind.i64.wrap ((r1.length : Int) - (r2.length : Int))) else 1) else (-1))) rfl rfl rfl (s_assign (d := (si (if (if (IntKind.i64.wrap ((r1.length : Int) - (r2.length : Int))) < 1 then (IntKind.i64.wrap ((r1.length : Int) - (r2.length : Int))) else 1) > (-1) then (if (IntKind.i64.wrap ((r1.length : Int) - (r2.length : Int))) < 1 then (IntKind.i64.wrap ((r1.length : Int) - (r2.length : Int))) else 1) else (-1)))) rfl (AWops.nil (AW.ret ?_)))
   obtain rfl := Option.some.inj h
   exact ⟨_, rfl, (wg 0 [] [] rfl (le_upd (le_top _) (o1 .sc)) an)⟩
mutual
def dossierref18_Put.l1 : Nat → Int → api_Case → api_Inst → Option api_Case
 | 0, _, _, _ => none
 | k + 1, x9, r1, r2 => if (decide (x9 < (r1.Insts.length : Int))) = true then ((rd r1.Insts x9).bind fun v11 => (dossierref18_Order.f k v11.Path r2.Path).bind fun r13 => if (decide (r13 ≤ 0)) = true then (dossierref18_Put.l1 k (IntKind.i64.wrap (x9 + 1)) r1 r2) else (if (decide (0 ≤ 0 ∧ 0 ≤ x9 ∧ x9 ≤ (r1.Insts.length : Int))) = true then (if (decide (([] : List api_Inst).length + (sub r1.Insts 0 x9).length ≤ 1759218604441)) = true then (if (decide ((sub r1.Insts 0 x9).length + ([r2] : List api_Inst).length ≤ 1759218604441)) = true then (if (decide (0 ≤ x9 ∧ x9 ≤ (r1.Insts.length : Int) ∧ (r1.Insts.length : Int) ≤ (r1.Insts.length : Int))) = true then (if (decide (((sub r1.Insts 0 x9) ++ ([r2] : List api_Inst)).length + (sub r1.Insts x9 (r1.Insts.length : Int)).length ≤ 1759218604441)) = true then (some (⟨r1.ID, r1.Model, ((sub r1.Insts 0 x9) ++ ([r2] : List api_Inst)) ++ (sub r1.Insts x9 (r1.Insts.length : Int)), r1.Docs, r1.Clock⟩ : api_Case)) else none) else none) else none) else none) else none)) else (if (decide (0 ≤ 0 ∧ 0 ≤ x9 ∧ x9 ≤ (r1.Insts.length : Int))) = true then (if (decide (([] : List api_Inst).length + (sub r1.Insts 0 x9).length ≤ 1759218604441)) = true then (if (decide ((sub r1.Insts 0 x9).length + ([r2] : List api_Inst).length ≤ 1759218604441)) = true then (if (decide (0 ≤ x9 ∧ x9 ≤ (r1.Insts.length : Int) ∧ (r1.Insts.length : Int) ≤ (r1.Insts.length : Int))) = true then (if (decide (((sub r1.Insts 0 x9) ++ ([r2] : List api_Inst)).length + (sub r1.Insts x9 (r1.Insts.length : Int)).length ≤ 1759218604441)) = true then (some (⟨r1.ID, r1.Model, ((sub r1.Insts 0 x9) ++ ([r2] : List api_Inst)) ++ (sub r1.Insts x9 (r1.Insts.length : Int)), r1.Docs, r1.Clock⟩ : api_Case)) else none) else none) else none) else none) else none)
def dossierref18_Put.l0 : Nat → Int → api_Case → api_Inst → Option api_Case
 | 0, _, _, _ => none
 | k + 1, x3, r1, r2 => if (decide (x3 < (r1.Insts.length : Int))) = true then ((rd r1.Insts x3).bind fun v5 => if (v5.Path.toList == r2.Path.toList) = true then ((rd r1.Insts x3).bind fun v8 => some (⟨r1.ID, r1.Model, r1.Insts.set x3.toNat r2, r1.Docs, r1.Clock⟩ : api_Case)) else (dossierref18_Put.l0 k (IntKind.i64.wrap (x3 + 1)) r1 r2)) else (dossierref18_Put.l1 k 0 r1 r2)
end
def dossierref18_Put.f (k : Nat) (a0 : api_Case) (a1 : api_Inst) : Option api_Case := (dossierref18_Copy.f k a0).bind fun r1 => (dossierref18_CopyInst.f k a1).bind fun r2 => dossierref18_Put.l0 k 0 r1 r2
theorem dossierref18_Put.meets (k : Nat) (a0 : api_Case) (a1 : api_Inst) (r : api_Case) (h : dossierref18_Put.f k a0 a1 = some r) : Meets Tryd.prog 8 [(D.agg (c_api_Case a0)), (D.agg (c_api_Inst a1))] [] (D.agg (c_api_Case r)) [] := by
 unfold dossierref18_Put.f at h
 refine Meets.of_body (n := 68) Tryd.func8 rfl rfl (nl rfl) fun x hx => ?_
 replace hx : x.k = 0 := hx
 show AW _ x _ _ ⟨68, fr0 [(D.agg (c_api_Case a0)), (D.agg (c_api_Inst a1))], []⟩
 refine AW.seq (AW.region ?_)
 refine s_box (cs := (c_api_Case a0)) rfl (List.cons_ne_nil _ _) rfl (s_box (cs := (c_api_Inst a1)) rfl (List.cons_ne_nil _ _) rfl (s_alloc (cs := [(ci 0), (ct (⟨#[]⟩ : ByteArray)), (C.p true (.v (.slice none 0 0))), (C.p true (.v (.slice none 0 0))), (ci 0)]) F.z_25 rfl rfl (AWops.nil (AW.seq (AW.region (s_loadN (ds := (c_api_Case a0)) F.ag_25 F.sz_25 rfl rfl rfl ?_))))))
 obtain ⟨r1, er1, h⟩ := bnd h
 refine cc [] [(some (AObj.cells true (c_api_Case a0))), (some (AObj.cells true (c_api_Inst a1))), (some (AObj.cells true [(ci 0), (ct (⟨#[]⟩ : ByteArray)), (C.p true (.v (.slice none 0 0))), (C.p true (.v (.slice none 0 0))), (ci 0)])), (ow_ e_api_Inst r1.Insts)] (D.agg [(ci r1.ID), (ct r1.Model), (C.own 3 0 r1.Insts.length 6), (C.p false (.sl r1.Docs.length (r1.Docs.flatMap e_api_Doc))), (ci r1.Clock)]) F.ca_6 rfl rfl (ac (LendT.aggL (ac .sc (ac .sc (ac .imm (ac .imm (ac .sc an)))))) an) an (dossierref18_Copy.meets _ a0 r1 er1) (s_store (cs' := [(ci r1.ID), (ct r1.Model), (C.own 3 0 r1.Insts.length 6), (C.p false (.sl r1.Docs.length (r1.Docs.flatMap e_api_Doc))), (ci r1.Clock)]) rfl rfl rfl (List.cons_ne_nil _ _) rfl F.sz_25 (nl rfl) rfl (AWops.nil (AW.seq (AW.region (s_loadN (ds := (c_api_Inst a1)) F.ag_28 F.sz_28 rfl rfl rfl ?_)))))
 obtain ⟨r2, er2, h⟩ := bnd h
 refine cc [] [(o_api_Case_2 true (C.own 3 0 r1.Insts.length 6) r1), (some (AObj.cells true (c_api_Inst a1))), (some (AObj.cells true [(ci 0), (ct (⟨#[]⟩ : ByteArray)), (C.p true (.v (.slice none 0 0))), (C.p true (.v (.slice none 0 0))), (ci 0)])), (ow_ e_api_Inst r1.Insts)] (D.agg (c_api_Inst r2)) F.ca_12 rfl rfl (ac (LendT.aggL (ac .sc (ac .sc (ac .sc (ac .sc (ac .imm (ac .sc an))))))) an) an (dossierref18_CopyInst.meets _ a1 r2 er2) (s_store (cs' := (c_api_Inst r2)) rfl rfl rfl (List.cons_ne_nil _ _) rfl F.sz_28 (nl rfl) rfl (AWops.nil (AW.seq (AW.seq (AW.region (s_fieldRef F.fo_25_2 (by decide) rfl (s_load1 (c' := (C.own 3 0 r1.Insts.length 6)) F.ag_22 rfl rfl (s_len (n := r1.Insts.length) F.u_22 rfl (.inr ⟨(fun _ _ h => by cases h), ⟨_, rfl⟩⟩) (s_move (d := (si 0)) rfl (AWops.nil (AW.block ?_)))))))))))
 refine AW.loopw (st0 := ⟨68, (upd 68 (upd 68 (upd 68 (upd 68 (upd 68 topF 2 (rf 0 0)) 3 (rf 1 0)) 4 (rf 2 0)) 13 (si (r1.Insts.length : Int))) 14 (si 0)), [(o_api_Case_2 true (C.own 3 0 r1.Insts.length 6) r1), (some (AObj.cells true (c_api_Inst r2))), (some (AObj.cells true [(ci 0), (ct (⟨#[]⟩ : ByteArray)), (C.p true (.v (.slice none 0 0))), (C.p true (.v (.slice none 0 0))), (ci 0)])), (ow_ e_api_Inst r1.Insts)]⟩) (fun kv st => kv ≤ k ∧ ∃ (x3 : Int), dossierref18_Put.l0 kv x3 r1 r2 = some r ∧ st = ⟨68, (upd 68 (upd 68 (upd 68 (upd 68 (upd 68 topF 2 (rf 0 0)) 3 (rf 1 0)) 4 (rf 2 0)) 13 (si (r1.Insts.length : Int))) 14 (si x3)), [(o_api_Case_2 true (C.own 3 0 r1.Insts.length 6) r1), (some (AObj.cells true (c_api_Inst r2))), (some (AObj.cells true [(ci 0), (ct (⟨#[]⟩ : ByteArray)), (C.p true (.v (.slice none 0 0))), (C.p true (.v (.slice none 0 0))), (ci 0)])), (ow_ e_api_Inst r1.Insts)]⟩) (k := k) (wg 0 [0, 1, 2, 3] [] hx (le_upd (le_upd (le_upd (le_upd (le_upd (le_top _) (o1 (.ref rfl))) (o1 (.ref rfl))) (o1 (.ref rfl))) (o1 .sc)) (o1 .sc)) (ac (.cells (fun _ => rfl) (ac .sc (ac .sc (ac (.own rfl) (ac .same (ac .sc an)))))) (ac (.cells (fun _ => rfl) (ac .sc (ac .sc (ac .sc (ac .sc (ac .same (ac .sc an))))))) (ac (.cells (fun _ => rfl) (ac .sc (ac .sc (ac .sc (ac .sc (ac .sc an)))))) (ac (.cells (fun _ => rfl) (all2_row _)) an))))) ⟨Nat.le_refl _, 0, h, rfl⟩ ?_
 rintro ql0 st ⟨hkl0, x3, h, rfl⟩
 cases ql0 with
 | zero => exact absurd h (by simp [dossierref18_Put.l0])
 | succ ql0 =>
  replace h := (dossierref18_Put.l0.eq_2 _ _ _ _).symm.trans h
  refine AW.seq (AW.region ?_)
  refine s_binI (v := (.bool (decide (x3 < (r1.Insts.length : Int))))) rfl rfl rfl (AWops.nil (AW.seq ?_))
  rcases itH h with ⟨c4, h⟩ | ⟨c4, h⟩
  ·refine AW.cond_yes rfl c4 (AW.skip (AW.seq (AW.block (AW.seq (AW.region ?_)))))
   refine s_move (d := (si x3)) rfl (s_assign (d := (si x3)) rfl (AWops.nil (AW.seq ?_)))
   refine AW.weak (st' := ⟨68, (upd 68 (upd 68 (upd 68 (upd 68 (upd 68 (upd 68 topF 2 (rf 0 0)) 3 (rf 1 0)) 4 (rf 2 0)) 5 (si x3)) 13 (si (r1.Insts.length : Int))) 14 (si x3)), [(o_api_Case_2 true (C.own 3 0 r1.Insts.length 6) r1), (some (AObj.cells true (c_api_Inst r2))), (some (AObj.cells true [(ci 0), (ct (⟨#[]⟩ : ByteArray)), (C.p true (.v (.slice none 0 0))), (C.p true (.v (.slice none 0 0))), (ci 0)])), (ow_ e_api_Inst r1.Insts)]⟩) (wg 0 [0, 1, 2, 3] [] hx (le_upd (le_upd (le_upd (le_upd (le_upd (le_upd (le_top _) (o1 (.ref rfl))) (o1 (.ref rfl))) (o1 (.ref rfl))) (o1 .sc)) (o1 .sc)) (o1 .sc)) (ac (.cells (fun _ => rfl) (ac .sc (ac .sc (ac (.own rfl) (ac .same (ac .sc an)))))) (ac (.cells (fun _ => rfl) (ac .sc (ac .sc (ac .sc (ac .sc (ac .same (ac .sc an))))))) (ac (.cells (fun _ => rfl) (ac .sc (ac .sc (ac .sc (ac .sc (ac .sc an)))))) (ac (.cells (fun _ => rfl) (all2_row _)) an))))) ?_
   obtain ⟨v5, ev5, h⟩ := bnd h
   obtain ⟨pv5, qv5, gv5⟩ := rd_some ev5
   obtain ⟨R6, hR6⟩ := row_at (f := e_api_Inst) (sz := 6) (o := 0) e_api_Inst_len gv5 (e_api_Inst_eq v5) (by decide)
   refine AW.draw (n := 68) (L := 4) [(ft 0 17 (rf 0 2) [(2, (rf 0 0))]), (1, ⟨some 18, (D.one (C.own 3 0 r1.Insts.length 6)), [(17, (rf 0 2))], [(0, (o_api_Case_2 true (C.own 3 0 r1.Insts.length 6) r1))], [], none⟩), (ft 2 19 (si x3) [(5, (si x3))]), (3, ⟨some 20, (D.one (C.ref 3 (0 + x3.toNat * 6))), [(18, (D.one (C.own 3 0 r1.Insts.length 6))), (19, (si x3))], [(3, (ow_ e_api_Inst r1.Insts))], [], none⟩), (ft 4 21 (D.one (C.ref 3 (0 + x3.toNat * 6 + 0))) [(20, (D.one (C.ref 3 (0 + x3.toNat * 6))))]), (5, ⟨some 22, (st_ v5.Path), [(21, (D.one (C.ref 3 (0 + x3.toNat * 6 + 0))))], [(3, (ow_ e_api_Inst r1.Insts))], [], none⟩), (ft 6 23 (rf 1 0) [(3, (rf 1 0))]), (7, ⟨some 24, (st_ r2.Path), [(23, (rf 1 0))], [(1, (some (AObj.cells true (c_api_Inst r2))))], [], none⟩), (ft 8 25 (sb (v5.Path.toList == r2.Path.toList)) [(22, (st_ v5.Path)), (24, (st_ r2.Path))])] [[], [0], [], [0, 1, 2], [0, 1, 2, 3], (.range 5), [], [6], (.range 8)] (nl rfl) [0, 1, 0, 2, 3, 4, 0, 1, 5] rfl (TK := []) rfl AllK.nil' (by repeat (first | refine fC ⟨?_, ?_⟩ ?_ | refine sC rfl ?_ | refine hC rfl ?_ | trivial)) ?_ ?_
   ·refine (pC ?_ (pC ?_ (pC ?_ (pC ?_ (pC ?_ (pC ?_ (pC ?_ (pC ?_ (pC ?_ AllStep.nil')))))))))
    ·intro K rest fr hv htk k
     show AWops _ x _ _ K ⟨68, (upd 68 fr 2 (rf 0 0)), [(hv 0), (hv 1), (hv 2), (hv 3)]⟩
     refine s_fieldRef F.fo_25_2 (by decide) rfl k
    ·intro K rest fr hv htk k
     show AWops _ x _ _ K ⟨68, (upd 68 fr 17 (rf 0 2)), [(o_api_Case_2 true (C.own 3 0 r1.Insts.length 6) r1), (hv 1), (hv 2), (hv 3)]⟩
     refine s_load1 (c' := (C.own 3 0 r1.Insts.length 6)) F.ag_22 rfl rfl k
    ·intro K rest fr hv htk k
     show AWops _ x _ _ K ⟨68, (upd 68 fr 5 (si x3)), _⟩
     refine s_move (d := (si x3)) rfl k
    ·intro K rest fr hv htk k
     show AWops _ x _ _ K ⟨68, (upd 68 (upd 68 fr 19 (si x3)) 18 (D.one (C.own 3 0 r1.Insts.length 6))), [(hv 0), (hv 1), (hv 2), (ow_ e_api_Inst r1.Insts)]⟩
     refine s_indexOwn (d := (D.one (C.ref 3 (0 + x3.toNat * 6)))) F.u_22 F.sz_28 rfl rfl pv5 qv5 rfl k
    ·intro K rest fr hv htk k
     show AWops _ x _ _ K ⟨68, (upd 68 fr 20 (D.one (C.ref 3 (0 + x3.toNat * 6)))), [(hv 0), (hv 1), (hv 2), (hv 3)]⟩
     refine s_fieldRef F.fo_28_0 (by decide) rfl k
    ·intro K rest fr hv htk k
     show AWops _ x _ _ K ⟨68, (upd 68 fr 21 (D.one (C.ref 3 (0 + x3.toNat * 6 + 0)))), [(hv 0), (hv 1), (hv 2), (ow_ e_api_Inst r1.Insts)]⟩
     refine s_load1 (c' := (ct v5.Path)) F.ag_9 (congrArg some hR6) rfl k
    ·intro K rest fr hv htk k
     show AWops _ x _ _ K ⟨68, (upd 68 fr 3 (rf 1 0)), [(hv 0), (hv 1), (hv 2), (hv 3)]⟩
     refine s_fieldRef F.fo_28_0 (by decide) rfl k
    ·intro K rest fr hv htk k
     show AWops _ x _ _ K ⟨68, (upd 68 fr 23 (rf 1 0)), [(hv 0), (some (AObj.cells true (c_api_Inst r2))), (hv 2), (hv 3)]⟩
     refine s_load1 (c' := (ct r2.Path)) F.ag_9 rfl rfl k
    ·intro K rest fr hv htk k
     show AWops _ x _ _ K ⟨68, (upd 68 (upd 68 fr 24 (st_ r2.Path)) 22 (st_ v5.Path)), [(hv 0), (hv 1), (hv 2), (hv 3)]⟩
     refine s_binS (v := (.bool (v5.Path.toList == r2.Path.toList))) rfl rfl rfl k
   ·refine AWops.weak (st' := ⟨68, (upd 68 (upd 68 (upd 68 (upd 68 (upd 68 (upd 68 (upd 68 topF 2 (rf 0 0)) 3 (rf 1 0)) 4 (rf 2 0)) 5 (si x3)) 13 (si (r1.Insts.length : Int))) 14 (si x3)) 25 (sb (v5.Path.toList == r2.Path.toList))), [(o_api_Case_2 true (C.own 3 0 r1.Insts.length 6) r1), (some (AObj.cells true (c_api_Inst r2))), (some (AObj.cells true [(ci 0), (ct (⟨#[]⟩ : ByteArray)), (C.p true (.v (.slice none 0 0))), (C.p true (.v (.slice none 0 0))), (ci 0)])), (ow_ e_api_Inst r1.Insts)]⟩) (wg 0 [0, 1, 2, 3] [] hx (le_upd (le_upd (le_upd (le_upd (le_upd (le_upd (le_upd (le_top _) (o1 (.ref rfl))) (o1 (.ref rfl))) (o1 (.ref rfl))) (o1 .sc)) (o1 .sc)) (o1 .sc)) (o1 .sc)) (ac (.cells (fun _ => rfl) (ac .sc (ac .sc (ac (.own rfl) (ac .same (ac .sc an)))))) (ac (.cells (fun _ => rfl) (ac .sc (ac .sc (ac .sc (ac .sc (ac .same (ac .sc an))))))) (ac (.cells (fun _ => rfl) (ac .sc (ac .sc (ac .sc (ac .sc (ac .sc an)))))) (ac (.cells (fun _ => rfl) (all2_row _)) an))))) (AWops.nil ?_)
    rcases itH h with ⟨c7, h⟩ | ⟨c7, h⟩
    ·refine AW.cond_yes rfl c7 (AW.seq (AW.region ?_))
     refine s_fieldRef F.fo_25_2 (by decide) rfl (s_load1 (c' := (C.own 3 0 r1.Insts.length 6)) F.ag_22 rfl rfl (s_move (d := (si x3)) rfl (s_loadN (ds := (c_api_Inst r2)) F.ag_28 F.sz_28 rfl rfl rfl ?_)))
     obtain ⟨v8, ev8, h⟩ := bnd h
     obtain ⟨pv8, qv8, gv8⟩ := rd_some ev8
     refine s_indexOwn (d := (D.one (C.ref 3 (0 + x3.toNat * 6)))) F.u_22 F.sz_28 rfl rfl pv8 qv8 rfl ?_
     refine s_store (cs' := rowC e_api_Inst (r1.Insts.set x3.toNat r2)) rfl rfl rfl (List.cons_ne_nil _ _) rfl F.sz_28 (by rw [row_len e_api_Inst_len]; have := (List.getElem?_eq_some_iff.mp gv8).1; show _ + 6 ≤ _; omega) (row_set (f := e_api_Inst) (sz := 6) (o := 0) (ds := (p_api_Inst r2)) e_api_Inst_len gv8 rfl (nl rfl) rfl) ?_
     refine AWops.nil (AW.seq (AW.region ?_))
     refine s_loadN (ds := [(ci r1.ID), (ct r1.Model), (C.own 3 0 r1.Insts.length 6), (C.p false (.sl r1.Docs.length (r1.Docs.flatMap e_api_Doc))), (ci r1.Clock)]) F.ag_25 F.sz_25 rfl rfl rfl (s_store (cs' := [(ci r1.ID), (ct r1.Model), (C.own 3 0 r1.Insts.length 6), (C.p false (.sl r1.Docs.length (r1.Docs.flatMap e_api_Doc))), (ci r1.Clock)]) rfl rfl rfl (List.cons_ne_nil _ _) rfl F.sz_25 (nl rfl) rfl (AWops.nil (AW.ret ?_)))
     obtain rfl := Option.some.inj h
     exact ⟨_, rfl, (wg 0 [] [3] rfl (le_upd (le_top _) (.t (.agg (ac .sc (ac .sc (ac (CLe.frz e_api_Inst_len rfl rfl (by simp)) (ac .same (ac .sc an)))))))) an)⟩
    ·refine AW.cond_no rfl c7 (AW.skip (AW.region ?_))
     refine s_binI (v := (.int .i64 (IntKind.i64.wrap (x3 + 1)))) rfl rfl rfl (s_move (d := (si (IntKind.i64.wrap (x3 + 1)))) rfl (AWops.nil ?_))
     exact ⟨_, ⟨68, (upd 68 (upd 68 (upd 68 (upd 68 (upd 68 topF 2 (rf 0 0)) 3 (rf 1 0)) 4 (rf 2 0)) 13 (si (r1.Insts.length : Int))) 14 (si (IntKind.i64.wrap (x3 + 1)))), [(o_api_Case_2 true (C.own 3 0 r1.Insts.length 6) r1), (some (AObj.cells true (c_api_Inst r2))), (some (AObj.cells true [(ci 0), (ct (⟨#[]⟩ : ByteArray)), (C.p true (.v (.slice none 0 0))), (C.p true (.v (.slice none 0 0))), (ci 0)])), (ow_ e_api_Inst r1.Insts)]⟩, by omega, (wg 0 [0, 1, 2, 3] [] hx (le_upd (le_upd (le_upd (le_upd (le_upd (le_top _) (o1 (.ref rfl))) (o1 (.ref rfl))) (o1 (.ref rfl))) (o1 .sc)) (o1 .sc)) (ac (.cells (fun _ => rfl) (ac .sc (ac .sc (ac (.own rfl) (ac .same (ac .sc an)))))) (ac (.cells (fun _ => rfl) (ac .sc (ac .sc (ac .sc (ac .sc (ac .same (ac .sc an))))))) (ac (.cells (fun _ => rfl) (ac .sc (ac .sc (ac .sc (ac .sc (ac .sc an)))))) (ac (.cells (fun _ => rfl) (all2_row _)) an))))), by omega, IntKind.i64.wrap (x3 + 1), h, rfl⟩
  ·refine AW.cond_no rfl c4 (AW.exit (AW.seq (AW.region ?_)))
   refine s_assign (d := (si 0)) rfl (AWops.nil (AW.seq (AW.block ?_)))
   refine AW.loopw (st0 := ⟨68, (upd 68 (upd 68 (upd 68 (upd 68 topF 2 (rf 0 0)) 3 (rf 1 0)) 4 (rf 2 0)) 6 (si 0)), [(o_api_Case_2 true (C.own 3 0 r1.Insts.length 6) r1), (some (AObj.cells true (c_api_Inst r2))), (some (AObj.cells true [(ci 0), (ct (⟨#[]⟩ : ByteArray)), (C.p true (.v (.slice none 0 0))), (C.p true (.v (.slice none 0 0))), (ci 0)])), (ow_ e_api_Inst r1.Insts)]⟩) (fun kv st => kv ≤ ql0 ∧ ∃ (x9 : Int), dossierref18_Put.l1 kv x9 r1 r2 = some r ∧ st = ⟨68, (upd 68 (upd 68 (upd 68 (upd 68 topF 2 (rf 0 0)) 3 (rf 1 0)) 4 (rf 2 0)) 6 (si x9)), [(o_api_Case_2 true (C.own 3 0 r1.Insts.length 6) r1), (some (AObj.cells true (c_api_Inst r2))), (some (AObj.cells true [(ci 0), (ct (⟨#[]⟩ : ByteArray)), (C.p true (.v (.slice none 0 0))), (C.p true (.v (.slice none 0 0))), (ci 0)])), (ow_ e_api_Inst r1.Insts)]⟩) (k := ql0) (wg 0 [0, 1, 2, 3] [] hx (le_upd (le_upd (le_upd (le_upd (le_top _) (o1 (.ref rfl))) (o1 (.ref rfl))) (o1 (.ref rfl))) (o1 .sc)) (ac (.cells (fun _ => rfl) (ac .sc (ac .sc (ac (.own rfl) (ac .same (ac .sc an)))))) (ac (.cells (fun _ => rfl) (ac .sc (ac .sc (ac .sc (ac .sc (ac .same (ac .sc an))))))) (ac (.cells (fun _ => rfl) (ac .sc (ac .sc (ac .sc (ac .sc (ac .sc an)))))) (ac (.cells (fun _ => rfl) (all2_row _)) an))))) ⟨Nat.le_refl _, 0, h, rfl⟩ ?_
   rintro ql1 st ⟨hkl1, x9, h, rfl⟩
   cases ql1 with
   | zero => exact absurd h (by simp [dossierref18_Put.l1])
   | succ ql1 =>
    replace h := (dossierref18_Put.l1.eq_2 _ _ _ _).symm.trans h
    refine AW.seq (AW.seq ?_)
    refine AW.weak (st' := ⟨68, (upd 68 (upd 68 (upd 68 (upd 68 topF 2 (rf 0 0)) 3 (rf 1 0)) 4 (rf 2 0)) 6 (si x9)), [(o_api_Case_2 true (C.own 3 0 r1.Insts.length 6) r1), (some (AObj.cells true (c_api_Inst r2))), (some (AObj.cells true [(ci 0), (ct (⟨#[]⟩ : ByteArray)), (C.p true (.v (.slice none 0 0))), (C.p true (.v (.slice none 0 0))), (ci 0)])), (ow_ e_api_Inst r1.Insts)]⟩) (wg 0 [0, 1, 2, 3] [] hx (le_upd (le_upd (le_upd (le_upd (le_top _) (o1 (.ref rfl))) (o1 (.ref rfl))) (o1 (.ref rfl))) (o1 .sc)) (ac (.cells (fun _ => rfl) (ac .sc (ac .sc (ac (.own rfl) (ac .same (ac .sc an)))))) (ac (.cells (fun _ => rfl) (ac .sc (ac .sc (ac .sc (ac .sc (ac .same (ac .sc an))))))) (ac (.cells (fun _ => rfl) (ac .sc (ac .sc (ac .sc (ac .sc (ac .sc an)))))) (ac (.cells (fun _ => rfl) (all2_row _)) an))))) ?_
    rcases itH h with ⟨c10, h⟩ | ⟨c10, h⟩
    ·obtain ⟨v11, ev11, h⟩ := bnd h
     obtain ⟨pv11, qv11, gv11⟩ := rd_some ev11
     obtain ⟨R12, hR12⟩ := row_at (f := e_api_Inst) (sz := 6) (o := 0) e_api_Inst_len gv11 (e_api_Inst_eq v11) (by decide)
     obtain ⟨r13, er13, h⟩ := bnd h
     refine AW.draw (n := 68) (L := 5) [(ft 0 33 (si x9) [(6, (si x9))]), (ft 1 34 (rf 0 2) [(2, (rf 0 0))]), (2, ⟨some 35, (D.one (C.own 3 0 r1.Insts.length 6)), [(34, (rf 0 2))], [(0, (o_api_Case_2 true (C.own 3 0 r1.Insts.length 6) r1))], [], none⟩), (ft 3 36 (si (r1.Insts.length : Int)) [(35, (D.one (C.own 3 0 r1.Insts.length 6)))]), (ft 4 37 (sb (decide (x9 < (r1.Insts.length : Int)))) [(33, (si x9)), (36, (si (r1.Insts.length : Int)))]), (ft 5 38 (sb (decide (x9 < (r1.Insts.length : Int)))) [(37, (sb (decide (x9 < (r1.Insts.length : Int)))))]), (ft 6 39 (rf 0 2) [(2, (rf 0 0)), (38, (sb (decide (x9 < (r1.Insts.length : Int)))))]), (7, ⟨some 40, (D.one (C.own 3 0 r1.Insts.length 6)), [(38, (sb (decide (x9 < (r1.Insts.length : Int))))), (39, (rf 0 2))], [(0, (o_api_Case_2 true (C.own 3 0 r1.Insts.length 6) r1))], [], none⟩), (ft 8 41 (si x9) [(6, (si x9)), (38, (sb (decide (x9 < (r1.Insts.length : Int)))))]), (9, ⟨some 42, (D.one (C.ref 3 (0 + x9.toNat * 6))), [(38, (sb (decide (x9 < (r1.Insts.length : Int))))), (40, (D.one (C.own 3 0 r1.Insts.length 6))), (41, (si x9))], [(3, (ow_ e_api_Inst r1.Insts))], [], none⟩), (ft 10 43 (D.one (C.ref 3 (0 + x9.toNat * 6 + 0))) [(38, (sb (decide (x9 < (r1.Insts.length : Int))))), (42, (D.one (C.ref 3 (0 + x9.toNat * 6))))]), (11, ⟨some 44, (st_ v11.Path), [(38, (sb (decide (x9 < (r1.Insts.length : Int))))), (43, (D.one (C.ref 3 (0 + x9.toNat * 6 + 0))))], [(3, (ow_ e_api_Inst r1.Insts))], [], none⟩), (ft 12 45 (rf 1 0) [(3, (rf 1 0)), (38, (sb (decide (x9 < (r1.Insts.length : Int)))))]), (13, ⟨some 46, (st_ r2.Path), [(38, (sb (decide (x9 < (r1.Insts.length : Int))))), (45, (rf 1 0))], [(1, (some (AObj.cells true (c_api_Inst r2))))], [], none⟩), (ft 14 47 (si r13) [(38, (sb (decide (x9 < (r1.Insts.length : Int))))), (44, (st_ v11.Path)), (46, (st_ r2.Path))]), (ft 15 48 (sb (decide (r13 ≤ 0))) [(38, (sb (decide (x9 < (r1.Insts.length : Int))))), (47, (si r13))]), (ft 16 49 (sb (decide (r13 ≤ 0))) [(38, (sb (decide (x9 < (r1.Insts.length : Int))))), (48, (sb (decide (r13 ≤ 0))))])] [[], [], [1], [1, 2], [0, 1, 2, 3], (.range 5), (.range 6), (.range 7), (.range 6), (.range 9), (.range 10), (.range 11), (.range 6), [0, 1, 2, 3, 4, 5, 12], (.range 14), (.range 15), (.range 16)] (nl rfl) [0, 0, 1, 2, 3, 4, 5, 6, 5, 7, 8, 9, 5, 6, 10, 11, 12] rfl (TK := []) rfl AllK.nil' (by repeat (first | refine fC ⟨?_, ?_⟩ ?_ | refine sC rfl ?_ | refine hC rfl ?_ | trivial)) ?_ ?_
     ·refine (pC ?_ (pC ?_ (pC ?_ (pC ?_ (pC ?_ (pC ?_ (pC ?_ (pC ?_ (pC ?_ (pC ?_ (pC ?_ (pC ?_ (pC ?_ (pC ?_ (pC ?_ (pC ?_ (pC ?_ AllStep.nil')))))))))))))))))
      ·intro K rest fr hv htk k
       show AWops _ x _ _ K ⟨68, (upd 68 fr 6 (si x9)), _⟩
       refine s_move (d := (si x9)) rfl k
      ·intro K rest fr hv htk k
       show AWops _ x _ _ K ⟨68, (upd 68 fr 2 (rf 0 0)), [(hv 0), (hv 1), (hv 2), (hv 3), (hv 4)]⟩
       refine s_fieldRef F.fo_25_2 (by decide) rfl k
      ·intro K rest fr hv htk k
       show AWops _ x _ _ K ⟨68, (upd 68 fr 34 (rf 0 2)), [(o_api_Case_2 true (C.own 3 0 r1.Insts.length 6) r1), (hv 1), (hv 2), (hv 3), (hv 4)]⟩
       refine s_load1 (c' := (C.own 3 0 r1.Insts.length 6)) F.ag_22 rfl rfl k
      ·intro K rest fr hv htk k
       show AWops _ x _ _ K ⟨68, (upd 68 fr 35 (D.one (C.own 3 0 r1.Insts.length 6))), [(hv 0), (hv 1), (hv 2), (hv 3), (hv 4)]⟩
       refine s_len (n := r1.Insts.length) F.u_22 rfl (.inr ⟨(fun _ _ h => by cases h), ⟨_, rfl⟩⟩) k
      ·intro K rest fr hv htk k
       show AWops _ x _ _ K ⟨68, (upd 68 (upd 68 fr 36 (si (r1.Insts.length : Int))) 33 (si x9)), _⟩
       refine s_binI (v := (.bool (decide (x9 < (r1.Insts.length : Int))))) rfl rfl rfl k
      ·intro K rest fr hv htk k
       show AWops _ x _ _ K ⟨68, (upd 68 fr 37 (sb (decide (x9 < (r1.Insts.length : Int))))), _⟩
       refine s_move (d := (sb (decide (x9 < (r1.Insts.length : Int))))) rfl k
      ·intro K rest fr hv htk k
       show AWops _ x _ _ K ⟨68, (upd 68 (upd 68 fr 38 (sb (decide (x9 < (r1.Insts.length : Int))))) 2 (rf 0 0)), [(hv 0), (hv 1), (hv 2), (hv 3), (hv 4)]⟩
       refine AWops.guard_yes rfl (nl rfl) rfl c10 ?_
       refine s_fieldRef F.fo_25_2 (by decide) rfl k
      ·intro K rest fr hv htk k
       show AWops _ x _ _ K ⟨68, (upd 68 (upd 68 fr 39 (rf 0 2)) 38 (sb (decide (x9 < (r1.Insts.length : Int))))), [(o_api_Case_2 true (C.own 3 0 r1.Insts.length 6) r1), (hv 1), (hv 2), (hv 3), (hv 4)]⟩
       refine AWops.guard_yes rfl (nl rfl) rfl c10 ?_
       refine s_load1 (c' := (C.own 3 0 r1.Insts.length 6)) F.ag_22 rfl rfl k
      ·intro K rest fr hv htk k
       show AWops _ x _ _ K ⟨68, (upd 68 (upd 68 fr 38 (sb (decide (x9 < (r1.Insts.length : Int))))) 6 (si x9)), _⟩
       refine AWops.guard_yes rfl (nl rfl) rfl c10 ?_
       refine s_move (d := (si x9)) rfl k
      ·intro K rest fr hv htk k
       show AWops _ x _ _ K ⟨68, (upd 68 (upd 68 (upd 68 fr 41 (si x9)) 40 (D.one (C.own 3 0 r1.Insts.length 6))) 38 (sb (decide (x9 < (r1.Insts.length : Int))))), [(hv 0), (hv 1), (hv 2), (ow_ e_api_Inst r1.Insts), (hv 4)]⟩
       refine AWops.guard_yes rfl (nl rfl) rfl c10 ?_
       refine s_indexOwn (d := (D.one (C.ref 3 (0 + x9.toNat * 6)))) F.u_22 F.sz_28 rfl rfl pv11 qv11 rfl k
      ·intro K rest fr hv htk k
       show AWops _ x _ _ K ⟨68, (upd 68 (upd 68 fr 42 (D.one (C.ref 3 (0 + x9.toNat * 6)))) 38 (sb (decide (x9 < (r1.Insts.length : Int))))), [(hv 0), (hv 1), (hv 2), (hv 3), (hv 4)]⟩
       refine AWops.guard_yes rfl (nl rfl) rfl c10 ?_
       refine s_fieldRef F.fo_28_0 (by decide) rfl k
      ·intro K rest fr hv htk k
       show AWops _ x _ _ K ⟨68, (upd 68 (upd 68 fr 43 (D.one (C.ref 3 (0 + x9.toNat * 6 + 0)))) 38 (sb (decide (x9 < (r1.Insts.length : Int))))), [(hv 0), (hv 1), (hv 2), (ow_ e_api_Inst r1.Insts), (hv 4)]⟩
       refine AWops.guard_yes rfl (nl rfl) rfl c10 ?_
       refine s_load1 (c' := (ct v11.Path)) F.ag_9 (congrArg some hR12) rfl k
      ·intro K rest fr hv htk k
       show AWops _ x _ _ K ⟨68, (upd 68 (upd 68 fr 38 (sb (decide (x9 < (r1.Insts.length : Int))))) 3 (rf 1 0)), [(hv 0), (hv 1), (hv 2), (hv 3), (hv 4)]⟩
       refine AWops.guard_yes rfl (nl rfl) rfl c10 ?_
       refine s_fieldRef F.fo_28_0 (by decide) rfl k
      ·intro K rest fr hv htk k
       show AWops _ x _ _ K ⟨68, (upd 68 (upd 68 fr 45 (rf 1 0)) 38 (sb (decide (x9 < (r1.Insts.length : Int))))), [(hv 0), (some (AObj.cells true (c_api_Inst r2))), (hv 2), (hv 3), (hv 4)]⟩
       refine AWops.guard_yes rfl (nl rfl) rfl c10 ?_
       refine s_load1 (c' := (ct r2.Path)) F.ag_9 rfl rfl k
      ·intro K rest fr hv htk k
       show AWops _ x _ _ K ⟨68, (upd 68 (upd 68 (upd 68 fr 46 (st_ r2.Path)) 44 (st_ v11.Path)) 38 (sb (decide (x9 < (r1.Insts.length : Int))))), [(hv 0), (hv 1), (hv 2), (hv 3), (hv 4)]⟩
       refine AWops.guard_yes rfl (nl rfl) rfl c10 ?_
       refine cc [] [(hv 0), (hv 1), (hv 2), (hv 3), (hv 4)] (si r13) F.ca_21 rfl rfl (ac (.one .sc) (ac (.one .sc) an)) an (dossierref18_Order.meets _ v11.Path r2.Path r13 er13) k
      ·intro K rest fr hv htk k
       show AWops _ x _ _ K ⟨68, (upd 68 (upd 68 fr 47 (si r13)) 38 (sb (decide (x9 < (r1.Insts.length : Int))))), _⟩
       refine AWops.guard_yes rfl (nl rfl) rfl c10 ?_
       refine s_binI (v := (.bool (decide (r13 ≤ 0)))) rfl rfl rfl k
      ·intro K rest fr hv htk k
       show AWops _ x _ _ K ⟨68, (upd 68 (upd 68 fr 48 (sb (decide (r13 ≤ 0)))) 38 (sb (decide (x9 < (r1.Insts.length : Int))))), _⟩
       refine s_pick_yes (d := (sb (decide (r13 ≤ 0)))) rfl c10 rfl k
     ·refine AWops.weak (st' := ⟨68, (upd 68 (upd 68 (upd 68 (upd 68 (upd 68 (upd 68 (upd 68 (upd 68 (upd 68 (upd 68 (upd 68 (upd 68 (upd 68 (upd 68 (upd 68 topF 2 (rf 0 0)) 3 (rf 1 0)) 4 (rf 2 0)) 6 (si x9)) 39 (rf 0 2)) 40 (D.one (C.own 3 0 r1.Insts.length 6))) 41 (si x9)) 42 (D.one (C.ref 3 (0 + x9.toNat * 6)))) 43 (D.one (C.ref 3 (0 + x9.toNat * 6 + 0)))) 44 (st_ v11.Path)) 45 (rf 1 0)) 46 (st_ r2.Path)) 47 (si r13)) 48 (sb (decide (r13 ≤ 0)))) 49 (sb (decide (r13 ≤ 0)))), [(o_api_Case_2 true (C.own 3 0 r1.Insts.length 6) r1), (some (AObj.cells true (c_api_Inst r2))), (some (AObj.cells true [(ci 0), (ct (⟨#[]⟩ : ByteArray)), (C.p true (.v (.slice none 0 0))), (C.p true (.v (.slice none 0 0))), (ci 0)])), (ow_ e_api_Inst r1.Insts)]⟩) (wg 0 [0, 1, 2, 3] [] hx (le_upd (le_upd (le_upd (le_upd (le_upd (le_upd (le_upd (le_upd (le_upd (le_upd (le_upd (le_upd (le_upd (le_upd (le_upd (le_top _) (o1 (.ref rfl))) (o1 (.ref rfl))) (o1 (.ref rfl))) (o1 .sc)) (o1 (.ref rfl))) (o1 (.own rfl))) (o1 .sc)) (o1 (.ref rfl))) (o1 (.ref rfl))) (o1 .sc)) (o1 (.ref rfl))) (o1 .sc)) (o1 .sc)) (o1 .sc)) (o1 .sc)) (ac (.cells (fun _ => rfl) (ac .sc (ac .sc (ac (.own rfl) (ac .same (ac .sc an)))))) (ac (.cells (fun _ => rfl) (ac .sc (ac .sc (ac .sc (ac .sc (ac .same (ac .sc an))))))) (ac (.cells (fun _ => rfl) (ac .sc (ac .sc (ac .sc (ac .sc (ac .sc an)))))) (ac (.cells (fun _ => rfl) (all2_row _)) an))))) (AWops.nil ?_)
      rcases itH h with ⟨c14, h⟩ | ⟨c14, h⟩
      ·refine AW.cond_yes rfl c14 (AW.skip (AW.block (AW.region ?_)))
       refine s_move (d := (si x9)) rfl (s_binI (v := (.int .i64 (IntKind.i64.wrap (x9 + 1)))) rfl rfl rfl (s_assign (d := (si (IntKind.i64.wrap (x9 + 1)))) rfl (AWops.nil ?_)))
       exact ⟨_, ⟨68, (upd 68 (upd 68 (upd 68 (upd 68 topF 2 (rf 0 0)) 3 (rf 1 0)) 4 (rf 2 0)) 6 (si (IntKind.i64.wrap (x9 + 1)))), [(o_api_Case_2 true (C.own 3 0 r1.Insts.length 6) r1), (some (AObj.cells true (c_api_Inst r2))), (some (AObj.cells true [(ci 0), (ct (⟨#[]⟩ : ByteArray)), (C.p true (.v (.slice none 0 0))), (C.p true (.v (.slice none 0 0))), (ci 0)])), (ow_ e_api_Inst r1.Insts)]⟩, by omega, (wg 0 [0, 1, 2, 3] [] hx (le_upd (le_upd (le_upd (le_upd (le_top _) (o1 (.ref rfl))) (o1 (.ref rfl))) (o1 (.ref rfl))) (o1 .sc)) (ac (.cells (fun _ => rfl) (ac .sc (ac .sc (ac (.own rfl) (ac .same (ac .sc an)))))) (ac (.cells (fun _ => rfl) (ac .sc (ac .sc (ac .sc (ac .sc (ac .same (ac .sc an))))))) (ac (.cells (fun _ => rfl) (ac .sc (ac .sc (ac .sc (ac .sc (ac .sc an)))))) (ac (.cells (fun _ => rfl) (all2_row _)) an))))), by omega, IntKind.i64.wrap (x9 + 1), h, rfl⟩
      ·refine AW.cond_no rfl c14 (AW.exit (AW.seq ?_))
       refine AW.weak (st' := ⟨68, (upd 68 (upd 68 (upd 68 (upd 68 (upd 68 (upd 68 (upd 68 (upd 68 (upd 68 (upd 68 (upd 68 (upd 68 (upd 68 topF 2 (rf 0 0)) 3 (rf 1 0)) 4 (rf 2 0)) 6 (si x9)) 39 (rf 0 2)) 40 (D.one (C.p false (.sl r1.Insts.length (r1.Insts.flatMap e_api_Inst))))) 41 (si x9)) 44 (st_ v11.Path)) 45 (rf 1 0)) 46 (st_ r2.Path)) 47 (si r13)) 48 (sb (decide (r13 ≤ 0)))) 49 (sb (decide (r13 ≤ 0)))), [(some (AObj.cells true (c_api_Case r1))), (some (AObj.cells true (c_api_Inst r2))), (some (AObj.cells true [(ci 0), (ct (⟨#[]⟩ : ByteArray)), (C.p true (.v (.slice none 0 0))), (C.p true (.v (.slice none 0 0))), (ci 0)]))]⟩) (wg 0 [0, 1, 2] [3] hx (le_upd (le_upd (le_upd (le_upd (le_upd (le_upd (le_upd (le_upd (le_upd (le_upd (le_upd (le_upd (le_upd (le_top _) (o1 (.ref rfl))) (o1 (.ref rfl))) (o1 (.ref rfl))) (o1 .sc)) (o1 (.ref rfl))) (o1 (CLe.frz e_api_Inst_len rfl rfl rfl))) (o1 .sc)) (o1 .sc)) (o1 (.ref rfl))) (o1 .sc)) (o1 .sc)) (o1 .sc)) (o1 .sc)) (ac (.cells (fun _ => rfl) (ac .sc (ac .sc (ac (CLe.frz e_api_Inst_len rfl rfl rfl) (ac .same (ac .sc an)))))) (ac (.cells (fun _ => rfl) (ac .sc (ac .sc (ac .sc (ac .sc (ac .same (ac .sc an))))))) (ac (.cells (fun _ => rfl) (ac .sc (ac .sc (ac .sc (ac .sc (ac .sc an)))))) an)))) ?_
       refine AW.weak (st' := ⟨68, (upd 68 (upd 68 (upd 68 (upd 68 topF 2 (rf 0 0)) 3 (rf 1 0)) 4 (rf 2 0)) 6 (si x9)), [(some (AObj.cells true (c_api_Case r1))), (some (AObj.cells true (c_api_Inst r2))), (some (AObj.cells true [(ci 0), (ct (⟨#[]⟩ : ByteArray)), (C.p true (.v (.slice none 0 0))), (C.p true (.v (.slice none 0 0))), (ci 0)]))]⟩) (wg 0 [0, 1, 2] [] hx (le_upd (le_upd (le_upd (le_upd (le_top _) (o1 (.ref rfl))) (o1 (.ref rfl))) (o1 (.ref rfl))) (o1 .sc)) (ac (.cells (fun _ => rfl) (ac .sc (ac .sc (ac .same (ac .same (ac .sc an)))))) (ac (.cells (fun _ => rfl) (ac .sc (ac .sc (ac .sc (ac .sc (ac .same (ac .sc an))))))) (ac (.cells (fun _ => rfl) (ac .sc (ac .sc (ac .sc (ac .sc (ac .sc an)))))) an)))) ?_
       obtain ⟨c15, h⟩ := gdH h
       have dc15 := of_decide_eq_true c15
       obtain ⟨c16, h⟩ := gdH h
       have dc16 := of_decide_eq_true c16
       obtain ⟨c17, h⟩ := gdH h
       have dc17 := of_decide_eq_true c17
       obtain ⟨c18, h⟩ := gdH h
       have dc18 := of_decide_eq_true c18
       obtain ⟨c19, h⟩ := gdH h
       have dc19 := of_decide_eq_true c19
       refine AW.draw (n := 68) (L := 8) [(0, ⟨some 52, (D.one (C.own 3 0 (([] : List api_Inst).length) 6)), [], [], [(3, (some (AObj.cells true (rowC e_api_Inst ([] : List api_Inst)))))], some 3⟩), (ft 1 53 (rf 0 2) [(2, (rf 0 0))]), (2, ⟨some 54, (D.one (C.p false (.sl r1.Insts.length (r1.Insts.flatMap e_api_Inst)))), [(53, (rf 0 2))], [(0, (some (AObj.cells true (c_api_Case r1))))], [], none⟩), (ft 3 55 (si x9) [(6, (si x9))]), (ft 4 56 (D.one (C.p false (.sl (sub r1.Insts 0 x9).length ((sub r1.Insts 0 x9).flatMap e_api_Inst)))) [(54, (D.one (C.p false (.sl r1.Insts.length (r1.Insts.flatMap e_api_Inst))))), (55, (si x9))]), (5, ⟨some 57, (D.one (C.own 4 0 ((sub r1.Insts 0 x9).length) 6)), [(52, (D.one (C.own 3 0 (([] : List api_Inst).length) 6))), (56, (D.one (C.p false (.sl (sub r1.Insts 0 x9).length ((sub r1.Insts 0 x9).flatMap e_api_Inst)))))], [(3, (some (AObj.cells true (rowC e_api_Inst ([] : List api_Inst)))))], [(3, none), (4, (some (AObj.cells true (rowC e_api_Inst (sub r1.Insts 0 x9)))))], some 4⟩), (6, ⟨some 58, (D.agg (c_api_Inst r2)), [(3, (rf 1 0))], [(1, (some (AObj.cells true (c_api_Inst r2))))], [], none⟩), (7, ⟨some 59, (D.one (C.own 5 0 (([r2] : List api_Inst).length) 6)), [(58, (D.agg (c_api_Inst r2)))], [], [(5, (some (AObj.cells true (rowC e_api_Inst ([r2] : List api_Inst)))))], some 5⟩), (8, ⟨some 60, (D.one (C.own 6 0 (((sub r1.Insts 0 x9) ++ ([r2] : List api_Inst)).length) 6)), [(57, (D.one (C.own 4 0 ((sub r1.Insts 0 x9).length) 6))), (59, (D.one (C.own 5 0 (([r2] : List api_Inst).length) 6)))], [(4, (some (AObj.cells true (rowC e_api_Inst (sub r1.Insts 0 x9))))), (5, (some (AObj.cells true (rowC e_api_Inst ([r2] : List api_Inst)))))], [(4, none), (6, (some (AObj.cells true (rowC e_api_Inst ((sub r1.Insts 0 x9) ++ ([r2] : List api_Inst))))))], some 6⟩), (ft 9 61 (rf 0 2) [(2, (rf 0 0))]), (10, ⟨some 62, (D.one (C.p false (.sl r1.Insts.length (r1.Insts.flatMap e_api_Inst)))), [(61, (rf 0 2))], [(0, (some (AObj.cells true (c_api_Case r1))))], [], none⟩), (ft 11 63 (si x9) [(6, (si x9))]), (ft 12 64 (D.one (C.p false (.sl (sub r1.Insts x9 (r1.Insts.length : Int)).length ((sub r1.Insts x9 (r1.Insts.length : Int)).flatMap e_api_Inst)))) [(62, (D.one (C.p false (.sl r1.Insts.length (r1.Insts.flatMap e_api_Inst))))), (63, (si x9))]), (13, ⟨some 65, (D.one (C.own 7 0 ((((sub r1.Insts 0 x9) ++ ([r2] : List api_Inst)) ++ (sub r1.Insts x9 (r1.Insts.length : Int))).length) 6)), [(60, (D.one (C.own 6 0 (((sub r1.Insts 0 x9) ++ ([r2] : List api_Inst)).length) 6))), (64, (D.one (C.p false (.sl (sub r1.Insts x9 (r1.Insts.length : Int)).length ((sub r1.Insts x9 (r1.Insts.length : Int)).flatMap e_api_Inst)))))], [(6, (some (AObj.cells true (rowC e_api_Inst ((sub r1.Insts 0 x9) ++ ([r2] : List api_Inst))))))], [(6, none), (7, (some (AObj.cells true (rowC e_api_Inst (((sub r1.Insts 0 x9) ++ ([r2] : List api_Inst)) ++ (sub r1.Insts x9 (r1.Insts.length : Int)))))))], some 7⟩), (ft 14 66 (rf 0 2) [(2, (rf 0 0))]), (15, ⟨none, (D.one C.top), [(65, (D.one (C.own 7 0 ((((sub r1.Insts 0 x9) ++ ([r2] : List api_Inst)) ++ (sub r1.Insts x9 (r1.Insts.length : Int))).length) 6))), (66, (rf 0 2))], [(0, (some (AObj.cells true (c_api_Case r1))))], [(0, (o_api_Case_2 true (C.own 7 0 ((((sub r1.Insts 0 x9) ++ ([r2] : List api_Inst)) ++ (sub r1.Insts x9 (r1.Insts.length : Int))).length) 6) r1))], none⟩)] [[], [], [1], [], [1, 2, 3], (.range 5), [], [6], (.range 8), [], [9], [], [9, 10, 11], (.range 13), (.range 14), (.range 15)] (nl rfl) [0, 0, 1, 0, 2, 3, 0, 1, 4, 0, 1, 0, 2, 5, 6, 7] rfl (TK := [(0, 3), (5, 4), (7, 5), (8, 6), (13, 7)]) rfl (AllK.cons' ⟨(tk_upd (tk_upd (tk_upd (tk_upd tk_top rfl) rfl) rfl) rfl), (tC rfl (tC rfl (tC rfl AllT.nil'))), (by repeat (first | refine fC (.inl rfl) ?_ | refine fC (.inr rfl) ?_ | refine fC (.inr (by unfold tkFoot; simp only [List.all_cons, List.all_nil, tkO_row, Bool.and_true, Bool.true_and]; rfl)) ?_ | trivial))⟩ (AllK.cons' ⟨(tk_upd (tk_upd (tk_upd (tk_upd tk_top rfl) rfl) rfl) rfl), (tC rfl (tC rfl (tC rfl AllT.nil'))), (by repeat (first | refine fC (.inl rfl) ?_ | refine fC (.inr rfl) ?_ | refine fC (.inr (by unfold tkFoot; simp only [List.all_cons, List.all_nil, tkO_row, Bool.and_true, Bool.true_and]; rfl)) ?_ | trivial))⟩ (AllK.cons' ⟨(tk_upd (tk_upd (tk_upd (tk_upd tk_top rfl) rfl) rfl) rfl), (tC rfl (tC rfl (tC rfl AllT.nil'))), (by repeat (first | refine fC (.inl rfl) ?_ | refine fC (.inr rfl) ?_ | refine fC (.inr (by unfold tkFoot; simp only [List.all_cons, List.all_nil, tkO_row, Bool.and_true, Bool.true_and]; rfl)) ?_ | trivial))⟩ (AllK.cons' ⟨(tk_upd (tk_upd (tk_upd (tk_upd tk_top rfl) rfl) rfl) rfl), (tC rfl (tC rfl (tC rfl AllT.nil'))), (by repeat (first | refine fC (.inl rfl) ?_ | refine fC (.inr rfl) ?_ | refine fC (.inr (by unfold tkFoot; simp only [List.all_cons, List.all_nil, tkO_row, Bool.and_true, Bool.true_and]; rfl)) ?_ | trivial))⟩ (AllK.cons' ⟨(tk_upd (tk_upd (tk_upd (tk_upd tk_top rfl) rfl) rfl) rfl), (tC rfl (tC rfl (tC rfl AllT.nil'))), (by repeat (first | refine fC (.inl rfl) ?_ | refine fC (.inr rfl) ?_ | refine fC (.inr (by unfold tkFoot; simp only [List.all_cons, List.all_nil, tkO_row, Bool.and_true, Bool.true_and]; rfl)) ?_ | trivial))⟩ AllK.nil'))))) (by repeat (first | refine fC ⟨?_, ?_⟩ ?_ | refine sC rfl ?_ | refine hC rfl ?_ | trivial)) ?_ ?_
       ·refine (pC ?_ (pC ?_ (pC ?_ (pC ?_ (pC ?_ (pC ?_ (pC ?_ (pC ?_ (pC ?_ (pC ?_ (pC ?_ (pC ?_ (pC ?_ (pC ?_ (pC ?_ (pC ?_ AllStep.nil'))))))))))))))))
        ·intro K rest fr hv htk k
         show AWops _ x _ _ K ⟨68, fr, [(hv 0), (hv 1), (hv 2), (hv 3), (hv 4), (hv 5), (hv 6), (hv 7)]⟩
         refine s_buildSlice (n := 0) (ps := []) (cs := rowC e_api_Inst ([] : List api_Inst)) F.u_22 F.sz_28 F.z_28 rfl rfl (by decide) (by decide) rfl rfl ?_
         refine AWops.weak (st' := ⟨68, (upd 68 fr 52 (D.one (C.own 3 0 (([] : List api_Inst).length) 6))), [(hv 0), (hv 1), (hv 2), (some (AObj.cells true (rowC e_api_Inst ([] : List api_Inst)))), (hv 4), (hv 5), (hv 6), (hv 7)]⟩) (wg 0 [0, 1, 2, 8, 4, 5, 6, 7] [] hx (le_upd2 (le_ok (p := 3) (L := 8) rfl (htk 3 rfl).1) (o1 (.own rfl))) (ac (oq 3 8 (htk 3 rfl) 0) (ac (oq 3 8 (htk 3 rfl) 1) (ac (oq 3 8 (htk 3 rfl) 2) (ac (.cells (fun _ => rfl) (all2_row _)) (ac (oq 3 8 (htk 3 rfl) 4) (ac (oq 3 8 (htk 3 rfl) 5) (ac (oq 3 8 (htk 3 rfl) 6) (ac (oq 3 8 (htk 3 rfl) 7) an))))))))) k
        ·intro K rest fr hv htk k
         show AWops _ x _ _ K ⟨68, (upd 68 fr 2 (rf 0 0)), [(hv 0), (hv 1), (hv 2), (hv 3), (hv 4), (hv 5), (hv 6), (hv 7)]⟩
         refine s_fieldRef F.fo_25_2 (by decide) rfl k
        ·intro K rest fr hv htk k
         show AWops _ x _ _ K ⟨68, (upd 68 fr 53 (rf 0 2)), [(some (AObj.cells true (c_api_Case r1))), (hv 1), (hv 2), (hv 3), (hv 4), (hv 5), (hv 6), (hv 7)]⟩
         refine s_load1 (c' := (C.p false (.sl r1.Insts.length (r1.Insts.flatMap e_api_Inst)))) F.ag_22 rfl rfl k
        ·intro K rest fr hv htk k
         show AWops _ x _ _ K ⟨68, (upd 68 fr 6 (si x9)), _⟩
         refine s_move (d := (si x9)) rfl k
        ·intro K rest fr hv htk k
         show AWops _ x _ _ K ⟨68, (upd 68 (upd 68 fr 55 (si x9)) 54 (D.one (C.p false (.sl r1.Insts.length (r1.Insts.flatMap e_api_Inst))))), [(hv 0), (hv 1), (hv 2), (hv 3), (hv 4), (hv 5), (hv 6), (hv 7)]⟩
         refine t_sliceImm (a := 0) (b := x9) F.u_22 F.sz_28 e_api_Inst_len rfl (by omega) (by omega) (by omega) .no (.yes rfl (by omega) rfl) k
        ·intro K rest fr hv htk k
         show AWops _ x _ _ K ⟨68, (upd 68 (upd 68 fr 56 (D.one (C.p false (.sl (sub r1.Insts 0 x9).length ((sub r1.Insts 0 x9).flatMap e_api_Inst))))) 52 (D.one (C.own 3 0 (([] : List api_Inst).length) 6))), [(hv 0), (hv 1), (hv 2), (some (AObj.cells true (rowC e_api_Inst ([] : List api_Inst)))), (hv 4), (hv 5), (hv 6), (hv 7)]⟩
         refine t_append (xs := ([] : List api_Inst)) (ys := sub r1.Insts 0 x9) (zs := sub r1.Insts 0 x9) (H' := [(hv 0), (hv 1), (hv 2), none, (hv 4), (hv 5), (hv 6), (hv 7), (some (AObj.cells true (rowC e_api_Inst (sub r1.Insts 0 x9))))]) F.u_22 F.in_28 rfl e_api_Inst_len (.own rfl rfl) .imm F.u_22 (by omega) (by omega) rfl rfl ?_
         refine AWops.weak (st' := ⟨68, (upd 68 (upd 68 (upd 68 fr 56 (D.one (C.p false (.sl (sub r1.Insts 0 x9).length ((sub r1.Insts 0 x9).flatMap e_api_Inst))))) 52 (D.one (C.own 3 0 (([] : List api_Inst).length) 6))) 57 (D.one (C.own 4 0 ((sub r1.Insts 0 x9).length) 6))), [(hv 0), (hv 1), (hv 2), none, (some (AObj.cells true (rowC e_api_Inst (sub r1.Insts 0 x9)))), (hv 5), (hv 6), (hv 7)]⟩) (wg 0 [0, 1, 2, 3, 8, 5, 6, 7] [] hx (le_upd2 (le_ok (p := 4) (L := 8) rfl (htk 4 rfl).1) (o1 (.own rfl))) (ac (oq 4 8 (htk 4 rfl) 0) (ac (oq 4 8 (htk 4 rfl) 1) (ac (oq 4 8 (htk 4 rfl) 2) (ac (.none _) (ac (.cells (fun _ => rfl) (all2_row _)) (ac (oq 4 8 (htk 4 rfl) 5) (ac (oq 4 8 (htk 4 rfl) 6) (ac (oq 4 8 (htk 4 rfl) 7) an))))))))) k
        ·intro K rest fr hv htk k
         show AWops _ x _ _ K ⟨68, (upd 68 fr 3 (rf 1 0)), [(hv 0), (some (AObj.cells true (c_api_Inst r2))), (hv 2), (hv 3), (hv 4), (hv 5), (hv 6), (hv 7)]⟩
         refine s_loadN (ds := (c_api_Inst r2)) F.ag_28 F.sz_28 rfl rfl rfl k
        ·intro K rest fr hv htk k
         show AWops _ x _ _ K ⟨68, (upd 68 fr 58 (D.agg (c_api_Inst r2))), [(hv 0), (hv 1), (hv 2), (hv 3), (hv 4), (hv 5), (hv 6), (hv 7)]⟩
         refine s_buildSlice (n := 1) (ps := [(0, (D.agg (c_api_Inst r2)))]) (cs := rowC e_api_Inst ([r2] : List api_Inst)) F.u_22 F.sz_28 F.z_28 rfl rfl (by decide) (by decide) rfl rfl ?_
         refine AWops.weak (st' := ⟨68, (upd 68 (upd 68 fr 58 (D.agg (c_api_Inst r2))) 59 (D.one (C.own 5 0 (([r2] : List api_Inst).length) 6))), [(hv 0), (hv 1), (hv 2), (hv 3), (hv 4), (some (AObj.cells true (rowC e_api_Inst ([r2] : List api_Inst)))), (hv 6), (hv 7)]⟩) (wg 0 [0, 1, 2, 3, 4, 8, 6, 7] [] hx (le_upd2 (le_ok (p := 5) (L := 8) rfl (htk 5 rfl).1) (o1 (.own rfl))) (ac (oq 5 8 (htk 5 rfl) 0) (ac (oq 5 8 (htk 5 rfl) 1) (ac (oq 5 8 (htk 5 rfl) 2) (ac (oq 5 8 (htk 5 rfl) 3) (ac (oq 5 8 (htk 5 rfl) 4) (ac (.cells (fun _ => rfl) (all2_row _)) (ac (oq 5 8 (htk 5 rfl) 6) (ac (oq 5 8 (htk 5 rfl) 7) an))))))))) k
        ·intro K rest fr hv htk k
         show AWops _ x _ _ K ⟨68, (upd 68 (upd 68 fr 59 (D.one (C.own 5 0 (([r2] : List api_Inst).length) 6))) 57 (D.one (C.own 4 0 ((sub r1.Insts 0 x9).length) 6))), [(hv 0), (hv 1), (hv 2), (hv 3), (some (AObj.cells true (rowC e_api_Inst (sub r1.Insts 0 x9)))), (some (AObj.cells true (rowC e_api_Inst ([r2] : List api_Inst)))), (hv 6), (hv 7)]⟩
         refine t_append (xs := sub r1.Insts 0 x9) (ys := ([r2] : List api_Inst)) (zs := (sub r1.Insts 0 x9) ++ ([r2] : List api_Inst)) (H' := [(hv 0), (hv 1), (hv 2), (hv 3), none, (some (AObj.cells true (rowC e_api_Inst ([r2] : List api_Inst)))), (hv 6), (hv 7), (some (AObj.cells true (rowC e_api_Inst ((sub r1.Insts 0 x9) ++ ([r2] : List api_Inst)))))]) F.u_22 F.in_28 rfl e_api_Inst_len (.own rfl rfl) (.own rfl rfl) F.u_22 (by omega) (by omega) rfl rfl ?_
         refine AWops.weak (st' := ⟨68, (upd 68 (upd 68 (upd 68 fr 59 (D.one (C.own 5 0 (([r2] : List api_Inst).length) 6))) 57 (D.one (C.own 4 0 ((sub r1.Insts 0 x9).length) 6))) 60 (D.one (C.own 6 0 (((sub r1.Insts 0 x9) ++ ([r2] : List api_Inst)).length) 6))), [(hv 0), (hv 1), (hv 2), (hv 3), none, (some (AObj.cells true (rowC e_api_Inst ([r2] : List api_Inst)))), (some (AObj.cells true (rowC e_api_Inst ((sub r1.Insts 0 x9) ++ ([r2] : List api_Inst))))), (hv 7)]⟩) (wg 0 [0, 1, 2, 3, 4, 5, 8, 7] [] hx (le_upd2 (le_ok (p := 6) (L := 8) rfl (htk 6 rfl).1) (o1 (.own rfl))) (ac (oq 6 8 (htk 6 rfl) 0) (ac (oq 6 8 (htk 6 rfl) 1) (ac (oq 6 8 (htk 6 rfl) 2) (ac (oq 6 8 (htk 6 rfl) 3) (ac (.none _) (ac (.cells (fun _ => rfl) (all2_row _)) (ac (.cells (fun _ => rfl) (all2_row _)) (ac (oq 6 8 (htk 6 rfl) 7) an))))))))) k
        ·intro K rest fr hv htk k
         show AWops _ x _ _ K ⟨68, (upd 68 fr 2 (rf 0 0)), [(hv 0), (hv 1), (hv 2), (hv 3), (hv 4), (hv 5), (hv 6), (hv 7)]⟩
         refine s_fieldRef F.fo_25_2 (by decide) rfl k
        ·intro K rest fr hv htk k
         show AWops _ x _ _ K ⟨68, (upd 68 fr 61 (rf 0 2)), [(some (AObj.cells true (c_api_Case r1))), (hv 1), (hv 2), (hv 3), (hv 4), (hv 5), (hv 6), (hv 7)]⟩
         refine s_load1 (c' := (C.p false (.sl r1.Insts.length (r1.Insts.flatMap e_api_Inst)))) F.ag_22 rfl rfl k
        ·intro K rest fr hv htk k
         show AWops _ x _ _ K ⟨68, (upd 68 fr 6 (si x9)), _⟩
         refine s_move (d := (si x9)) rfl k
        ·intro K rest fr hv htk k
         show AWops _ x _ _ K ⟨68, (upd 68 (upd 68 fr 63 (si x9)) 62 (D.one (C.p false (.sl r1.Insts.length (r1.Insts.flatMap e_api_Inst))))), [(hv 0), (hv 1), (hv 2), (hv 3), (hv 4), (hv 5), (hv 6), (hv 7)]⟩
         refine t_sliceImm (a := x9) (b := (r1.Insts.length : Int)) F.u_22 F.sz_28 e_api_Inst_len rfl (by omega) (by omega) (by omega) (.yes rfl (by omega) rfl) .no k
        ·intro K rest fr hv htk k
         show AWops _ x _ _ K ⟨68, (upd 68 (upd 68 fr 64 (D.one (C.p false (.sl (sub r1.Insts x9 (r1.Insts.length : Int)).length ((sub r1.Insts x9 (r1.Insts.length : Int)).flatMap e_api_Inst))))) 60 (D.one (C.own 6 0 (((sub r1.Insts 0 x9) ++ ([r2] : List api_Inst)).length) 6))), [(hv 0), (hv 1), (hv 2), (hv 3), (hv 4), (hv 5), (some (AObj.cells true (rowC e_api_Inst ((sub r1.Insts 0 x9) ++ ([r2] : List api_Inst))))), (hv 7)]⟩
         refine t_append (xs := (sub r1.Insts 0 x9) ++ ([r2] : List api_Inst)) (ys := sub r1.Insts x9 (r1.Insts.length : Int)) (zs := ((sub r1.Insts 0 x9) ++ ([r2] : List api_Inst)) ++ (sub r1.Insts x9 (r1.Insts.length : Int))) (H' := [(hv 0), (hv 1), (hv 2), (hv 3), (hv 4), (hv 5), none, (hv 7), (some (AObj.cells true (rowC e_api_Inst (((sub r1.Insts 0 x9) ++ ([r2] : List api_Inst)) ++ (sub r1.Insts x9 (r1.Insts.length : Int))))))]) F.u_22 F.in_28 rfl e_api_Inst_len (.own rfl rfl) .imm F.u_22 (by omega) (by omega) rfl rfl ?_
         refine AWops.weak (st' := ⟨68, (upd 68 (upd 68 (upd 68 fr 64 (D.one (C.p false (.sl (sub r1.Insts x9 (r1.Insts.length : Int)).length ((sub r1.Insts x9 (r1.Insts.length : Int)).flatMap e_api_Inst))))) 60 (D.one (C.own 6 0 (((sub r1.Insts 0 x9) ++ ([r2] : List api_Inst)).length) 6))) 65 (D.one (C.own 7 0 ((((sub r1.Insts 0 x9) ++ ([r2] : List api_Inst)) ++ (sub r1.Insts x9 (r1.Insts.length : Int))).length) 6))), [(hv 0), (hv 1), (hv 2), (hv 3), (hv 4), (hv 5), none, (some (AObj.cells true (rowC e_api_Inst (((sub r1.Insts 0 x9) ++ ([r2] : List api_Inst)) ++ (sub r1.Insts x9 (r1.Insts.length : Int))))))]⟩) (wg 0 [0, 1, 2, 3, 4, 5, 6, 8] [] hx (le_upd2 (le_ok (p := 7) (L := 8) rfl (htk 7 rfl).1) (o1 (.own rfl))) (ac (oq 7 8 (htk 7 rfl) 0) (ac (oq 7 8 (htk 7 rfl) 1) (ac (oq 7 8 (htk 7 rfl) 2) (ac (oq 7 8 (htk 7 rfl) 3) (ac (oq 7 8 (htk 7 rfl) 4) (ac (oq 7 8 (htk 7 rfl) 5) (ac (.none _) (ac (.cells (fun _ => rfl) (all2_row _)) an))))))))) k
        ·intro K rest fr hv htk k
         show AWops _ x _ _ K ⟨68, (upd 68 fr 2 (rf 0 0)), [(hv 0), (hv 1), (hv 2), (hv 3), (hv 4), (hv 5), (hv 6), (hv 7)]⟩
         refine s_fieldRef F.fo_25_2 (by decide) rfl k
        ·intro K rest fr hv htk k
         show AWops _ x _ _ K ⟨68, (upd 68 (upd 68 fr 66 (rf 0 2)) 65 (D.one (C.own 7 0 ((((sub r1.Insts 0 x9) ++ ([r2] : List api_Inst)) ++ (sub r1.Insts x9 (r1.Insts.length : Int))).length) 6))), [(some (AObj.cells true (c_api_Case r1))), (hv 1), (hv 2), (hv 3), (hv 4), (hv 5), (hv 6), (hv 7)]⟩
         refine s_store (cs' := [(ci r1.ID), (ct r1.Model), (C.own 7 0 ((((sub r1.Insts 0 x9) ++ ([r2] : List api_Inst)) ++ (sub r1.Insts x9 (r1.Insts.length : Int))).length) 6), (C.p false (.sl r1.Docs.length (r1.Docs.flatMap e_api_Doc))), (ci r1.Clock)]) rfl rfl rfl (List.cons_ne_nil _ _) rfl F.sz_22 (nl rfl) rfl k
       ·refine AWops.weak (st' := ⟨68, (upd 68 (upd 68 topF 2 (rf 0 0)) 4 (rf 1 0)), [(o_api_Case_2 true (C.own 2 0 ((((sub r1.Insts 0 x9) ++ ([r2] : List api_Inst)) ++ (sub r1.Insts x9 (r1.Insts.length : Int))).length) 6) r1), (some (AObj.cells true [(ci 0), (ct (⟨#[]⟩ : ByteArray)), (C.p true (.v (.slice none 0 0))), (C.p true (.v (.slice none 0 0))), (ci 0)])), (some (AObj.cells true (rowC e_api_Inst (((sub r1.Insts 0 x9) ++ ([r2] : List api_Inst)) ++ (sub r1.Insts x9 (r1.Insts.length : Int))))))]⟩) (wg 0 [0, 2, 7] [] hx (le_upd (le_upd (le_top _) (o1 (.ref rfl))) (o1 (.ref rfl))) (ac (.cells (fun _ => rfl) (ac .sc (ac .sc (ac (.own rfl) (ac .same (ac .sc an)))))) (ac (.cells (fun _ => rfl) (ac .sc (ac .sc (ac .sc (ac .sc (ac .sc an)))))) (ac (.cells (fun _ => rfl) (all2_row _)) an)))) (AWops.nil (AW.seq (AW.region ?_)))
        refine s_loadN (ds := [(ci r1.ID), (ct r1.Model), (C.own 2 0 ((((sub r1.Insts 0 x9) ++ ([r2] : List api_Inst)) ++ (sub r1.Insts x9 (r1.Insts.length : Int))).length) 6), (C.p false (.sl r1.Docs.length (r1.Docs.flatMap e_api_Doc))), (ci r1.Clock)]) F.ag_25 F.sz_25 rfl rfl rfl (s_store (cs' := [(ci r1.ID), (ct r1.Model), (C.own 2 0 ((((sub r1.Insts 0 x9) ++ ([r2] : List api_Inst)) ++ (sub r1.Insts x9 (r1.Insts.length : Int))).length) 6), (C.p false (.sl r1.Docs.length (r1.Docs.flatMap e_api_Doc))), (ci r1.Clock)]) rfl rfl rfl (List.cons_ne_nil _ _) rfl F.sz_25 (nl rfl) rfl (AWops.nil (AW.ret ?_)))
        obtain rfl := Option.some.inj h
        exact ⟨_, rfl, (wg 0 [] [2] rfl (le_upd (le_top _) (.t (.agg (ac .sc (ac .sc (ac (CLe.frz e_api_Inst_len rfl rfl rfl) (ac .same (ac .sc an)))))))) an)⟩
    ·refine AW.draw (n := 68) (L := 5) [(ft 0 33 (si x9) [(6, (si x9))]), (ft 1 34 (rf 0 2) [(2, (rf 0 0))]), (2, ⟨some 35, (D.one (C.own 3 0 r1.Insts.length 6)), [(34, (rf 0 2))], [(0, (o_api_Case_2 true (C.own 3 0 r1.Insts.length 6) r1))], [], none⟩), (ft 3 36 (si (r1.Insts.length : Int)) [(35, (D.one (C.own 3 0 r1.Insts.length 6)))]), (ft 4 37 (sb (decide (x9 < (r1.Insts.length : Int)))) [(33, (si x9)), (36, (si (r1.Insts.length : Int)))]), (ft 5 38 (sb (decide (x9 < (r1.Insts.length : Int)))) [(37, (sb (decide (x9 < (r1.Insts.length : Int)))))]), (ft 6 39 (D.tup []) [(2, (rf 0 0)), (38, (sb (decide (x9 < (r1.Insts.length : Int)))))]), (ft 7 40 (D.tup []) [(38, (sb (decide (x9 < (r1.Insts.length : Int)))))]), (ft 8 41 (D.tup []) [(38, (sb (decide (x9 < (r1.Insts.length : Int)))))]), (ft 9 42 (D.tup []) [(38, (sb (decide (x9 < (r1.Insts.length : Int)))))]), (ft 10 43 (D.tup []) [(38, (sb (decide (x9 < (r1.Insts.length : Int)))))]), (ft 11 44 (D.tup []) [(38, (sb (decide (x9 < (r1.Insts.length : Int)))))]), (ft 12 45 (D.tup []) [(38, (sb (decide (x9 < (r1.Insts.length : Int)))))]), (ft 13 46 (D.tup []) [(38, (sb (decide (x9 < (r1.Insts.length : Int)))))]), (ft 14 47 (D.tup []) [(38, (sb (decide (x9 < (r1.Insts.length : Int)))))]), (ft 15 48 (D.tup []) [(38, (sb (decide (x9 < (r1.Insts.length : Int)))))]), (ft 16 49 (sb false) [(38, (sb (decide (x9 < (r1.Insts.length : Int)))))])] [[], [], [1], [1, 2], [0, 1, 2, 3], (.range 5), (.range 6), (.range 7), (.range 6), (.range 9), (.range 10), (.range 11), (.range 6), [0, 1, 2, 3, 4, 5, 12], (.range 14), (.range 15), (.range 16)] (nl rfl) [0, 0, 1, 2, 3, 4, 5, 6, 5, 7, 8, 9, 5, 6, 10, 11, 12] rfl (TK := []) rfl AllK.nil' (by repeat (first | refine fC ⟨?_, ?_⟩ ?_ | refine sC rfl ?_ | refine hC rfl ?_ | trivial)) ?_ ?_
     ·refine (pC ?_ (pC ?_ (pC ?_ (pC ?_ (pC ?_ (pC ?_ (pC ?_ (pC ?_ (pC ?_ (pC ?_ (pC ?_ (pC ?_ (pC ?_ (pC ?_ (pC ?_ (pC ?_ (pC ?_ AllStep.nil')))))))))))))))))
      ·intro K rest fr hv htk k
       show AWops _ x _ _ K ⟨68, (upd 68 fr 6 (si x9)), _⟩
       refine s_move (d := (si x9)) rfl k
      ·intro K rest fr hv htk k
       show AWops _ x _ _ K ⟨68, (upd 68 fr 2 (rf 0 0)), [(hv 0), (hv 1), (hv 2), (hv 3), (hv 4)]⟩
       refine s_fieldRef F.fo_25_2 (by decide) rfl k
      ·intro K rest fr hv htk k
       show AWops _ x _ _ K ⟨68, (upd 68 fr 34 (rf 0 2)), [(o_api_Case_2 true (C.own 3 0 r1.Insts.length 6) r1), (hv 1), (hv 2), (hv 3), (hv 4)]⟩
       refine s_load1 (c' := (C.own 3 0 r1.Insts.length 6)) F.ag_22 rfl rfl k
      ·intro K rest fr hv htk k
       show AWops _ x _ _ K ⟨68, (upd 68 fr 35 (D.one (C.own 3 0 r1.Insts.length 6))), [(hv 0), (hv 1), (hv 2), (hv 3), (hv 4)]⟩
       refine s_len (n := r1.Insts.length) F.u_22 rfl (.inr ⟨(fun _ _ h => by cases h), ⟨_, rfl⟩⟩) k
      ·intro K rest fr hv htk k
       show AWops _ x _ _ K ⟨68, (upd 68 (upd 68 fr 36 (si (r1.Insts.length : Int))) 33 (si x9)), _⟩
       refine s_binI (v := (.bool (decide (x9 < (r1.Insts.length : Int))))) rfl rfl rfl k
      ·intro K rest fr hv htk k
       show AWops _ x _ _ K ⟨68, (upd 68 fr 37 (sb (decide (x9 < (r1.Insts.length : Int))))), _⟩
       refine s_move (d := (sb (decide (x9 < (r1.Insts.length : Int))))) rfl k
      ·intro K rest fr hv htk k
       show AWops _ x _ _ K ⟨68, (upd 68 (upd 68 fr 38 (sb (decide (x9 < (r1.Insts.length : Int))))) 2 (rf 0 0)), _⟩
       refine AWops.guard_no rfl (nl rfl) rfl c10 k
      ·intro K rest fr hv htk k
       show AWops _ x _ _ K ⟨68, (upd 68 fr 38 (sb (decide (x9 < (r1.Insts.length : Int))))), _⟩
       refine AWops.guard_no rfl (nl rfl) rfl c10 k
      ·intro K rest fr hv htk k
       show AWops _ x _ _ K ⟨68, (upd 68 fr 38 (sb (decide (x9 < (r1.Insts.length : Int))))), _⟩
       refine AWops.guard_no rfl (nl rfl) rfl c10 k
      ·intro K rest fr hv htk k
       show AWops _ x _ _ K ⟨68, (upd 68 fr 38 (sb (decide (x9 < (r1.Insts.length : Int))))), _⟩
       refine AWops.guard_no rfl (nl rfl) rfl c10 k
      ·intro K rest fr hv htk k
       show AWops _ x _ _ K ⟨68, (upd 68 fr 38 (sb (decide (x9 < (r1.Insts.length : Int))))), _⟩
       refine AWops.guard_no rfl (nl rfl) rfl c10 k
      ·intro K rest fr hv htk k
       show AWops _ x _ _ K ⟨68, (upd 68 fr 38 (sb (decide (x9 < (r1.Insts.length : Int))))), _⟩
       refine AWops.guard_no rfl (nl rfl) rfl c10 k
      ·intro K rest fr hv htk k
       show AWops _ x _ _ K ⟨68, (upd 68 fr 38 (sb (decide (x9 < (r1.Insts.length : Int))))), _⟩
       refine AWops.guard_no rfl (nl rfl) rfl c10 k
      ·intro K rest fr hv htk k
       show AWops _ x _ _ K ⟨68, (upd 68 fr 38 (sb (decide (x9 < (r1.Insts.length : Int))))), _⟩
       refine AWops.guard_no rfl (nl rfl) rfl c10 k
      ·intro K rest fr hv htk k
       show AWops _ x _ _ K ⟨68, (upd 68 fr 38 (sb (decide (x9 < (r1.Insts.length : Int))))), _⟩
       refine AWops.guard_no rfl (nl rfl) rfl c10 k
      ·intro K rest fr hv htk k
       show AWops _ x _ _ K ⟨68, (upd 68 fr 38 (sb (decide (x9 < (r1.Insts.length : Int))))), _⟩
       refine AWops.guard_no rfl (nl rfl) rfl c10 k
      ·intro K rest fr hv htk k
       show AWops _ x _ _ K ⟨68, (upd 68 fr 38 (sb (decide (x9 < (r1.Insts.length : Int))))), _⟩
       refine s_pick_no (d := (sb false)) rfl c10 rfl k
     ·refine AWops.weak (st' := ⟨68, (upd 68 (upd 68 (upd 68 (upd 68 (upd 68 (upd 68 (upd 68 (upd 68 (upd 68 (upd 68 (upd 68 (upd 68 (upd 68 (upd 68 (upd 68 topF 2 (rf 0 0)) 3 (rf 1 0)) 4 (rf 2 0)) 6 (si x9)) 39 (D.tup [])) 40 (D.tup [])) 41 (D.tup [])) 42 (D.tup [])) 43 (D.tup [])) 44 (D.tup [])) 45 (D.tup [])) 46 (D.tup [])) 47 (D.tup [])) 48 (D.tup [])) 49 (sb false)), [(o_api_Case_2 true (C.own 3 0 r1.Insts.length 6) r1), (some (AObj.cells true (c_api_Inst r2))), (some (AObj.cells true [(ci 0), (ct (⟨#[]⟩ : ByteArray)), (C.p true (.v (.slice none 0 0))), (C.p true (.v (.slice none 0 0))), (ci 0)])), (ow_ e_api_Inst r1.Insts)]⟩) (wg 0 [0, 1, 2, 3] [] hx (le_upd (le_upd (le_upd (le_upd (le_upd (le_upd (le_upd (le_upd (le_upd (le_upd (le_upd (le_upd (le_upd (le_upd (le_upd (le_top _) (o1 (.ref rfl))) (o1 (.ref rfl))) (o1 (.ref rfl))) (o1 .sc)) (DLe.tup an)) (DLe.tup an)) (DLe.tup an)) (DLe.tup an)) (DLe.tup an)) (DLe.tup an)) (DLe.tup an)) (DLe.tup an)) (DLe.tup an)) (DLe.tup an)) (o1 .sc)) (ac (.cells (fun _ => rfl) (ac .sc (ac .sc (ac (.own rfl) (ac .same (ac .sc an)))))) (ac (.cells (fun _ => rfl) (ac .sc (ac .sc (ac .sc (ac .sc (ac .same (ac .sc an))))))) (ac (.cells (fun _ => rfl) (ac .sc (ac .sc (ac .sc (ac .sc (ac .sc an)))))) (ac (.cells (fun _ => rfl) (all2_row _)) an))))) (AWops.nil ?_)
      refine AW.cond_no rfl rfl (AW.exit (AW.seq ?_))
      refine AW.weak (st' := ⟨68, (upd 68 (upd 68 (upd 68 (upd 68 (upd 68 (upd 68 (upd 68 (upd 68 (upd 68 (upd 68 (upd 68 (upd 68 (upd 68 (upd 68 (upd 68 topF 2 (rf 0 0)) 3 (rf 1 0)) 4 (rf 2 0)) 6 (si x9)) 39 (D.tup [])) 40 (D.tup [])) 41 (D.tup [])) 42 (D.tup [])) 43 (D.tup [])) 44 (D.tup [])) 45 (D.tup [])) 46 (D.tup [])) 47 (D.tup [])) 48 (D.tup [])) 49 (sb false)), [(some (AObj.cells true (c_api_Case r1))), (some (AObj.cells true (c_api_Inst r2))), (some (AObj.cells true [(ci 0), (ct (⟨#[]⟩ : ByteArray)), (C.p true (.v (.slice none 0 0))), (C.p true (.v (.slice none 0 0))), (ci 0)]))]⟩) (wg 0 [0, 1, 2] [3] hx (le_upd (le_upd (le_upd (le_upd (le_upd (le_upd (le_upd (le_upd (le_upd (le_upd (le_upd (le_upd (le_upd (le_upd (le_upd (le_top _) (o1 (.ref rfl))) (o1 (.ref rfl))) (o1 (.ref rfl))) (o1 .sc)) (DLe.tup an)) (DLe.tup an)) (DLe.tup an)) (DLe.tup an)) (DLe.tup an)) (DLe.tup an)) (DLe.tup an)) (DLe.tup an)) (DLe.tup an)) (DLe.tup an)) (o1 .sc)) (ac (.cells (fun _ => rfl) (ac .sc (ac .sc (ac (CLe.frz e_api_Inst_len rfl rfl rfl) (ac .same (ac .sc an)))))) (ac (.cells (fun _ => rfl) (ac .sc (ac .sc (ac .sc (ac .sc (ac .same (ac .sc an))))))) (ac (.cells (fun _ => rfl) (ac .sc (ac .sc (ac .sc (ac .sc (ac .sc an)))))) an)))) ?_
      refine AW.weak (st' := ⟨68, (upd 68 (upd 68 (upd 68 (upd 68 topF 2 (rf 0 0)) 3 (rf 1 0)) 4 (rf 2 0)) 6 (si x9)), [(some (AObj.cells true (c_api_Case r1))), (some (AObj.cells true (c_api_Inst r2))), (some (AObj.cells true [(ci 0), (ct (⟨#[]⟩ : ByteArray)), (C.p true (.v (.slice none 0 0))), (C.p true (.v (.slice none 0 0))), (ci 0)]))]⟩) (wg 0 [0, 1, 2] [] hx (le_upd (le_upd (le_upd (le_upd (le_top _) (o1 (.ref rfl))) (o1 (.ref rfl))) (o1 (.ref rfl))) (o1 .sc)) (ac (.cells (fun _ => rfl) (ac .sc (ac .sc (ac .same (ac .same (ac .sc an)))))) (ac (.cells (fun _ => rfl) (ac .sc (ac .sc (ac .sc (ac .sc (ac .same (ac .sc an))))))) (ac (.cells (fun _ => rfl) (ac .sc (ac .sc (ac .sc (ac .sc (ac .sc an)))))) an)))) ?_
      obtain ⟨c20, h⟩ := gdH h
      have dc20 := of_decide_eq_true c20
      obtain ⟨c21, h⟩ := gdH h
      have dc21 := of_decide_eq_true c21
      obtain ⟨c22, h⟩ := gdH h
      have dc22 := of_decide_eq_true c22
      obtain ⟨c23, h⟩ := gdH h
      have dc23 := of_decide_eq_true c23
      obtain ⟨c24, h⟩ := gdH h
      have dc24 := of_decide_eq_true c24
      refine AW.draw (n := 68) (L := 8) [(0, ⟨some 52, (D.one (C.own 3 0 (([] : List api_Inst).length) 6)), [], [], [(3, (some (AObj.cells true (rowC e_api_Inst ([] : List api_Inst)))))], some 3⟩), (ft 1 53 (rf 0 2) [(2, (rf 0 0))]), (2, ⟨some 54, (D.one (C.p false (.sl r1.Insts.length (r1.Insts.flatMap e_api_Inst)))), [(53, (rf 0 2))], [(0, (some (AObj.cells true (c_api_Case r1))))], [], none⟩), (ft 3 55 (si x9) [(6, (si x9))]), (ft 4 56 (D.one (C.p false (.sl (sub r1.Insts 0 x9).length ((sub r1.Insts 0 x9).flatMap e_api_Inst)))) [(54, (D.one (C.p false (.sl r1.Insts.length (r1.Insts.flatMap e_api_Inst))))), (55, (si x9))]), (5, ⟨some 57, (D.one (C.own 4 0 ((sub r1.Insts 0 x9).length) 6)), [(52, (D.one (C.own 3 0 (([] : List api_Inst).length) 6))), (56, (D.one (C.p false (.sl (sub r1.Insts 0 x9).length ((sub r1.Insts 0 x9).flatMap e_api_Inst)))))], [(3, (some (AObj.cells true (rowC e_api_Inst ([] : List api_Inst)))))], [(3, none), (4, (some (AObj.cells true (rowC e_api_Inst (sub r1.Insts 0 x9)))))], some 4⟩), (6, ⟨some 58, (D.agg (c_api_Inst r2)), [(3, (rf 1 0))], [(1, (some (AObj.cells true (c_api_Inst r2))))], [], none⟩), (7, ⟨some 59, (D.one (C.own 5 0 (([r2] : List api_Inst).length) 6)), [(58, (D.agg (c_api_Inst r2)))], [], [(5, (some (AObj.cells true (rowC e_api_Inst ([r2] : List api_Inst)))))], some 5⟩), (8, ⟨some 60, (D.one (C.own 6 0 (((sub r1.Insts 0 x9) ++ ([r2] : List api_Inst)).length) 6)), [(57, (D.one (C.own 4 0 ((sub r1.Insts 0 x9).length) 6))), (59, (D.one (C.own 5 0 (([r2] : List api_Inst).length) 6)))], [(4, (some (AObj.cells true (rowC e_api_Inst (sub r1.Insts 0 x9))))), (5, (some (AObj.cells true (rowC e_api_Inst ([r2] : List api_Inst)))))], [(4, none), (6, (some (AObj.cells true (rowC e_api_Inst ((sub r1.Insts 0 x9) ++ ([r2] : List api_Inst))))))], some 6⟩), (ft 9 61 (rf 0 2) [(2, (rf 0 0))]), (10, ⟨some 62, (D.one (C.p false (.sl r1.Insts.length (r1.Insts.flatMap e_api_Inst)))), [(61, (rf 0 2))], [(0, (some (AObj.cells true (c_api_Case r1))))], [], none⟩), (ft 11 63 (si x9) [(6, (si x9))]), (ft 12 64 (D.one (C.p false (.sl (sub r1.Insts x9 (r1.Insts.length : Int)).length ((sub r1.Insts x9 (r1.Insts.length : Int)).flatMap e_api_Inst)))) [(62, (D.one (C.p false (.sl r1.Insts.length (r1.Insts.flatMap e_api_Inst))))), (63, (si x9))]), (13, ⟨some 65, (D.one (C.own 7 0 ((((sub r1.Insts 0 x9) ++ ([r2] : List api_Inst)) ++ (sub r1.Insts x9 (r1.Insts.length : Int))).length) 6)), [(60, (D.one (C.own 6 0 (((sub r1.Insts 0 x9) ++ ([r2] : List api_Inst)).length) 6))), (64, (D.one (C.p false (.sl (sub r1.Insts x9 (r1.Insts.length : Int)).length ((sub r1.Insts x9 (r1.Insts.length : Int)).flatMap e_api_Inst)))))], [(6, (some (AObj.cells true (rowC e_api_Inst ((sub r1.Insts 0 x9) ++ ([r2] : List api_Inst))))))], [(6, none), (7, (some (AObj.cells true (rowC e_api_Inst (((sub r1.Insts 0 x9) ++ ([r2] : List api_Inst)) ++ (sub r1.Insts x9 (r1.Insts.length : Int)))))))], some 7⟩), (ft 14 66 (rf 0 2) [(2, (rf 0 0))]), (15, ⟨none, (D.one C.top), [(65, (D.one (C.own 7 0 ((((sub r1.Insts 0 x9) ++ ([r2] : List api_Inst)) ++ (sub r1.Insts x9 (r1.Insts.length : Int))).length) 6))), (66, (rf 0 2))], [(0, (some (AObj.cells true (c_api_Case r1))))], [(0, (o_api_Case_2 true (C.own 7 0 ((((sub r1.Insts 0 x9) ++ ([r2] : List api_Inst)) ++ (sub r1.Insts x9 (r1.Insts.length : Int))).length) 6) r1))], none⟩)] [[], [], [1], [], [1, 2, 3], (.range 5), [], [6], (.range 8), [], [9], [], [9, 10, 11], (.range 13), (.range 14), (.range 15)] (nl rfl) [0, 0, 1, 0, 2, 3, 0, 1, 4, 0, 1, 0, 2, 5, 6, 7] rfl (TK := [(0, 3), (5, 4), (7, 5), (8, 6), (13, 7)]) rfl (AllK.cons' ⟨(tk_upd (tk_upd (tk_upd (tk_upd tk_top rfl) rfl) rfl) rfl), (tC rfl (tC rfl (tC rfl AllT.nil'))), (by repeat (first | refine fC (.inl rfl) ?_ | refine fC (.inr rfl) ?_ | refine fC (.inr (by unfold tkFoot; simp only [List.all_cons, List.all_nil, tkO_row, Bool.and_true, Bool.true_and]; rfl)) ?_ | trivial))⟩ (AllK.cons' ⟨(tk_upd (tk_upd (tk_upd (tk_upd tk_top rfl) rfl) rfl) rfl), (tC rfl (tC rfl (tC rfl AllT.nil'))), (by repeat (first | refine fC (.inl rfl) ?_ | refine fC (.inr rfl) ?_ | refine fC (.inr (by unfold tkFoot; simp only [List.all_cons, List.all_nil, tkO_row, Bool.and_true, Bool.true_and]; rfl)) ?_ | trivial))⟩ (AllK.cons' ⟨(tk_upd (tk_upd (tk_upd (tk_upd tk_top rfl) rfl) rfl) rfl), (tC rfl (tC rfl (tC rfl AllT.nil'))), (by repeat (first | refine fC (.inl rfl) ?_ | refine fC (.inr rfl) ?_ | refine fC (.inr (by unfold tkFoot; simp only [List.all_cons, List.all_nil, tkO_row, Bool.and_true, Bool.true_and]; rfl)) ?_ | trivial))⟩ (AllK.cons' ⟨(tk_upd (tk_upd (tk_upd (tk_upd tk_top rfl) rfl) rfl) rfl), (tC rfl (tC rfl (tC rfl AllT.nil'))), (by repeat (first | refine fC (.inl rfl) ?_ | refine fC (.inr rfl) ?_ | refine fC (.inr (by unfold tkFoot; simp only [List.all_cons, List.all_nil, tkO_row, Bool.and_true, Bool.true_and]; rfl)) ?_ | trivial))⟩ (AllK.cons' ⟨(tk_upd (tk_upd (tk_upd (tk_upd tk_top rfl) rfl) rfl) rfl), (tC rfl (tC rfl (tC rfl AllT.nil'))), (by repeat (first | refine fC (.inl rfl) ?_ | refine fC (.inr rfl) ?_ | refine fC (.inr (by unfold tkFoot; simp only [List.all_cons, List.all_nil, tkO_row, Bool.and_true, Bool.true_and]; rfl)) ?_ | trivial))⟩ AllK.nil'))))) (by repeat (first | refine fC ⟨?_, ?_⟩ ?_ | refine sC rfl ?_ | refine hC rfl ?_ | trivial)) ?_ ?_
      ·refine (pC ?_ (pC ?_ (pC ?_ (pC ?_ (pC ?_ (pC ?_ (pC ?_ (pC ?_ (pC ?_ (pC ?_ (pC ?_ (pC ?_ (pC ?_ (pC ?_ (pC ?_ (pC ?_ AllStep.nil'))))))))))))))))
       ·intro K rest fr hv htk k
        show AWops _ x _ _ K ⟨68, fr, [(hv 0), (hv 1), (hv 2), (hv 3), (hv 4), (hv 5), (hv 6), (hv 7)]⟩
        refine s_buildSlice (n := 0) (ps := []) (cs := rowC e_api_Inst ([] : List api_Inst)) F.u_22 F.sz_28 F.z_28 rfl rfl (by decide) (by decide) rfl rfl ?_
        refine AWops.weak (st' := ⟨68, (upd 68 fr 52 (D.one (C.own 3 0 (([] : List api_Inst).length) 6))), [(hv 0), (hv 1), (hv 2), (some (AObj.cells true (rowC e_api_Inst ([] : List api_Inst)))), (hv 4), (hv 5), (hv 6), (hv 7)]⟩) (wg 0 [0, 1, 2, 8, 4, 5, 6, 7] [] hx (le_upd2 (le_ok (p := 3) (L := 8) rfl (htk 3 rfl).1) (o1 (.own rfl))) (ac (oq 3 8 (htk 3 rfl) 0) (ac (oq 3 8 (htk 3 rfl) 1) (ac (oq 3 8 (htk 3 rfl) 2) (ac (.cells (fun _ => rfl) (all2_row _)) (ac (oq 3 8 (htk 3 rfl) 4) (ac (oq 3 8 (htk 3 rfl) 5) (ac (oq 3 8 (htk 3 rfl) 6) (ac (oq 3 8 (htk 3 rfl) 7) an))))))))) k
       ·intro K rest fr hv htk k
        show AWops _ x _ _ K ⟨68, (upd 68 fr 2 (rf 0 0)), [(hv 0), (hv 1), (hv 2), (hv 3), (hv 4), (hv 5), (hv 6), (hv 7)]⟩
        refine s_fieldRef F.fo_25_2 (by decide) rfl k
       ·intro K rest fr hv htk k
        show AWops _ x _ _ K ⟨68, (upd 68 fr 53 (rf 0 2)), [(some (AObj.cells true (c_api_Case r1))), (hv 1), (hv 2), (hv 3), (hv 4), (hv 5), (hv 6), (hv 7)]⟩
        refine s_load1 (c' := (C.p false (.sl r1.Insts.length (r1.Insts.flatMap e_api_Inst)))) F.ag_22 rfl rfl k
       ·intro K rest fr hv htk k
        show AWops _ x _ _ K ⟨68, (upd 68 fr 6 (si x9)), _⟩
        refine s_move (d := (si x9)) rfl k
       ·intro K rest fr hv htk k
        show AWops _ x _ _ K ⟨68, (upd 68 (upd 68 fr 55 (si x9)) 54 (D.one (C.p false (.sl r1.Insts.length (r1.Insts.flatMap e_api_Inst))))), [(hv 0), (hv 1), (hv 2), (hv 3), (hv 4), (hv 5), (hv 6), (hv 7)]⟩
        refine t_sliceImm (a := 0) (b := x9) F.u_22 F.sz_28 e_api_Inst_len rfl (by omega) (by omega) (by omega) .no (.yes rfl (by omega) rfl) k
       ·intro K rest fr hv htk k
        show AWops _ x _ _ K ⟨68, (upd 68 (upd 68 fr 56 (D.one (C.p false (.sl (sub r1.Insts 0 x9).length ((sub r1.Insts 0 x9).flatMap e_api_Inst))))) 52 (D.one (C.own 3 0 (([] : List api_Inst).length) 6))), [(hv 0), (hv 1), (hv 2), (some (AObj.cells true (rowC e_api_Inst ([] : List api_Inst)))), (hv 4), (hv 5), (hv 6), (hv 7)]⟩
        refine t_append (xs := ([] : List api_Inst)) (ys := sub r1.Insts 0 x9) (zs := sub r1.Insts 0 x9) (H' := [(hv 0), (hv 1), (hv 2), none, (hv 4), (hv 5), (hv 6), (hv 7), (some (AObj.cells true (rowC e_api_Inst (sub r1.Insts 0 x9))))]) F.u_22 F.in_28 rfl e_api_Inst_len (.own rfl rfl) .imm F.u_22 (by omega) (by omega) rfl rfl ?_
        refine AWops.weak (st' := ⟨68, (upd 68 (upd 68 (upd 68 fr 56 (D.one (C.p false (.sl (sub r1.Insts 0 x9).length ((sub r1.Insts 0 x9).flatMap e_api_Inst))))) 52 (D.one (C.own 3 0 (([] : List api_Inst).length) 6))) 57 (D.one (C.own 4 0 ((sub r1.Insts 0 x9).length) 6))), [(hv 0), (hv 1), (hv 2), none, (some (AObj.cells true (rowC e_api_Inst (sub r1.Insts 0 x9)))), (hv 5), (hv 6), (hv 7)]⟩) (wg 0 [0, 1, 2, 3, 8, 5, 6, 7] [] hx (le_upd2 (le_ok (p := 4) (L := 8) rfl (htk 4 rfl).1) (o1 (.own rfl))) (ac (oq 4 8 (htk 4 rfl) 0) (ac (oq 4 8 (htk 4 rfl) 1) (ac (oq 4 8 (htk 4 rfl) 2) (ac (.none _) (ac (.cells (fun _ => rfl) (all2_row _)) (ac (oq 4 8 (htk 4 rfl) 5) (ac (oq 4 8 (htk 4 rfl) 6) (ac (oq 4 8 (htk 4 rfl) 7) an))))))))) k
       ·intro K rest fr hv htk k
        show AWops _ x _ _ K ⟨68, (upd 68 fr 3 (rf 1 0)), [(hv 0), (some (AObj.cells true (c_api_Inst r2))), (hv 2), (hv 3), (hv 4), (hv 5), (hv 6), (hv 7)]⟩
        refine s_loadN (ds := (c_api_Inst r2)) F.ag_28 F.sz_28 rfl rfl rfl k
       ·intro K rest fr hv htk k
        show AWops _ x _ _ K ⟨68, (upd 68 fr 58 (D.agg (c_api_Inst r2))), [(hv 0), (hv 1), (hv 2), (hv 3), (hv 4), (hv 5), (hv 6), (hv 7)]⟩
        refine s_buildSlice (n := 1) (ps := [(0, (D.agg (c_api_Inst r2)))]) (cs := rowC e_api_Inst ([r2] : List api_Inst)) F.u_22 F.sz_28 F.z_28 rfl rfl (by decide) (by decide) rfl rfl ?_
        refine AWops.weak (st' := ⟨68, (upd 68 (upd 68 fr 58 (D.agg (c_api_Inst r2))) 59 (D.one (C.own 5 0 (([r2] : List api_Inst).length) 6))), [(hv 0), (hv 1), (hv 2), (hv 3), (hv 4), (some (AObj.cells true (rowC e_api_Inst ([r2] : List api_Inst)))), (hv 6), (hv 7)]⟩) (wg 0 [0, 1, 2, 3, 4, 8, 6, 7] [] hx (le_upd2 (le_ok (p := 5) (L := 8) rfl (htk 5 rfl).1) (o1 (.own rfl))) (ac (oq 5 8 (htk 5 rfl) 0) (ac (oq 5 8 (htk 5 rfl) 1) (ac (oq 5 8 (htk 5 rfl) 2) (ac (oq 5 8 (htk 5 rfl) 3) (ac (oq 5 8 (htk 5 rfl) 4) (ac (.cells (fun _ => rfl) (all2_row _)) (ac (oq 5 8 (htk 5 rfl) 6) (ac (oq 5 8 (htk 5 rfl) 7) an))))))))) k
       ·intro K rest fr hv htk k
        show AWops _ x _ _ K ⟨68, (upd 68 (upd 68 fr 59 (D.one (C.own 5 0 (([r2] : List api_Inst).length) 6))) 57 (D.one (C.own 4 0 ((sub r1.Insts 0 x9).length) 6))), [(hv 0), (hv 1), (hv 2), (hv 3), (some (AObj.cells true (rowC e_api_Inst (sub r1.Insts 0 x9)))), (some (AObj.cells true (rowC e_api_Inst ([r2] : List api_Inst)))), (hv 6), (hv 7)]⟩
        refine t_append (xs := sub r1.Insts 0 x9) (ys := ([r2] : List api_Inst)) (zs := (sub r1.Insts 0 x9) ++ ([r2] : List api_Inst)) (H' := [(hv 0), (hv 1), (hv 2), (hv 3), none, (some (AObj.cells true (rowC e_api_Inst ([r2] : List api_Inst)))), (hv 6), (hv 7), (some (AObj.cells true (rowC e_api_Inst ((sub r1.Insts 0 x9) ++ ([r2] : List api_Inst)))))]) F.u_22 F.in_28 rfl e_api_Inst_len (.own rfl rfl) (.own rfl rfl) F.u_22 (by omega) (by omega) rfl rfl ?_
        refine AWops.weak (st' := ⟨68, (upd 68 (upd 68 (upd 68 fr 59 (D.one (C.own 5 0 (([r2] : List api_Inst).length) 6))) 57 (D.one (C.own 4 0 ((sub r1.Insts 0 x9).length) 6))) 60 (D.one (C.own 6 0 (((sub r1.Insts 0 x9) ++ ([r2] : List api_Inst)).length) 6))), [(hv 0), (hv 1), (hv 2), (hv 3), none, (some (AObj.cells true (rowC e_api_Inst ([r2] : List api_Inst)))), (some (AObj.cells true (rowC e_api_Inst ((sub r1.Insts 0 x9) ++ ([r2] : List api_Inst))))), (hv 7)]⟩) (wg 0 [0, 1, 2, 3, 4, 5, 8, 7] [] hx (le_upd2 (le_ok (p := 6) (L := 8) rfl (htk 6 rfl).1) (o1 (.own rfl))) (ac (oq 6 8 (htk 6 rfl) 0) (ac (oq 6 8 (htk 6 rfl) 1) (ac (oq 6 8 (htk 6 rfl) 2) (ac (oq 6 8 (htk 6 rfl) 3) (ac (.none _) (ac (.cells (fun _ => rfl) (all2_row _)) (ac (.cells (fun _ => rfl) (all2_row _)) (ac (oq 6 8 (htk 6 rfl) 7) an))))))))) k
       ·intro K rest fr hv htk k
        show AWops _ x _ _ K ⟨68, (upd 68 fr 2 (rf 0 0)), [(hv 0), (hv 1), (hv 2), (hv 3), (hv 4), (hv 5), (hv 6), (hv 7)]⟩
        refine s_fieldRef F.fo_25_2 (by decide) rfl k
       ·intro K rest fr hv htk k
        show AWops _ x _ _ K ⟨68, (upd 68 fr 61 (rf 0 2)), [(some (AObj.cells true (c_api_Case r1))), (hv 1), (hv 2), (hv 3), (hv 4), (hv 5), (hv 6), (hv 7)]⟩
        refine s_load1 (c' := (C.p false (.sl r1.Insts.length (r1.Insts.flatMap e_api_Inst)))) F.ag_22 rfl rfl k
       ·intro K rest fr hv htk k
        show AWops _ x _ _ K ⟨68, (upd 68 fr 6 (si x9)), _⟩
        refine s_move (d := (si x9)) rfl k
       ·intro K rest fr hv htk k
        show AWops _ x _ _ K ⟨68, (upd 68 (upd 68 fr 63 (si x9)) 62 (D.one (C.p false (.sl r1.Insts.length (r1.Insts.flatMap e_api_Inst))))), [(hv 0), (hv 1), (hv 2), (hv 3), (hv 4), (hv 5), (hv 6), (hv 7)]⟩
        refine t_sliceImm (a := x9) (b := (r1.Insts.length : Int)) F.u_22 F.sz_28 e_api_Inst_len rfl (by omega) (by omega) (by omega) (.yes rfl (by omega) rfl) .no k
       ·intro K rest fr hv htk k
        show AWops _ x _ _ K ⟨68, (upd 68 (upd 68 fr 64 (D.one (C.p false (.sl (sub r1.Insts x9 (r1.Insts.length : Int)).length ((sub r1.Insts x9 (r1.Insts.length : Int)).flatMap e_api_Inst))))) 60 (D.one (C.own 6 0 (((sub r1.Insts 0 x9) ++ ([r2] : List api_Inst)).length) 6))), [(hv 0), (hv 1), (hv 2), (hv 3), (hv 4), (hv 5), (some (AObj.cells true (rowC e_api_Inst ((sub r1.Insts 0 x9) ++ ([r2] : List api_Inst))))), (hv 7)]⟩
        refine t_append (xs := (sub r1.Insts 0 x9) ++ ([r2] : List api_Inst)) (ys := sub r1.Insts x9 (r1.Insts.length : Int)) (zs := ((sub r1.Insts 0 x9) ++ ([r2] : List api_Inst)) ++ (sub r1.Insts x9 (r1.Insts.length : Int))) (H' := [(hv 0), (hv 1), (hv 2), (hv 3), (hv 4), (hv 5), none, (hv 7), (some (AObj.cells true (rowC e_api_Inst (((sub r1.Insts 0 x9) ++ ([r2] : List api_Inst)) ++ (sub r1.Insts x9 (r1.Insts.length : Int))))))]) F.u_22 F.in_28 rfl e_api_Inst_len (.own rfl rfl) .imm F.u_22 (by omega) (by omega) rfl rfl ?_
        refine AWops.weak (st' := ⟨68, (upd 68 (upd 68 (upd 68 fr 64 (D.one (C.p false (.sl (sub r1.Insts x9 (r1.Insts.length : Int)).length ((sub r1.Insts x9 (r1.Insts.length : Int)).flatMap e_api_Inst))))) 60 (D.one (C.own 6 0 (((sub r1.Insts 0 x9) ++ ([r2] : List api_Inst)).length) 6))) 65 (D.one (C.own 7 0 ((((sub r1.Insts 0 x9) ++ ([r2] : List api_Inst)) ++ (sub r1.Insts x9 (r1.Insts.length : Int))).length) 6))), [(hv 0), (hv 1), (hv 2), (hv 3), (hv 4), (hv 5), none, (some (AObj.cells true (rowC e_api_Inst (((sub r1.Insts 0 x9) ++ ([r2] : List api_Inst)) ++ (sub r1.Insts x9 (r1.Insts.length : Int))))))]⟩) (wg 0 [0, 1, 2, 3, 4, 5, 6, 8] [] hx (le_upd2 (le_ok (p := 7) (L := 8) rfl (htk 7 rfl).1) (o1 (.own rfl))) (ac (oq 7 8 (htk 7 rfl) 0) (ac (oq 7 8 (htk 7 rfl) 1) (ac (oq 7 8 (htk 7 rfl) 2) (ac (oq 7 8 (htk 7 rfl) 3) (ac (oq 7 8 (htk 7 rfl) 4) (ac (oq 7 8 (htk 7 rfl) 5) (ac (.none _) (ac (.cells (fun _ => rfl) (all2_row _)) an))))))))) k
       ·intro K rest fr hv htk k
        show AWops _ x _ _ K ⟨68, (upd 68 fr 2 (rf 0 0)), [(hv 0), (hv 1), (hv 2), (hv 3), (hv 4), (hv 5), (hv 6), (hv 7)]⟩
        refine s_fieldRef F.fo_25_2 (by decide) rfl k
       ·intro K rest fr hv htk k
        show AWops _ x _ _ K ⟨68, (upd 68 (upd 68 fr 66 (rf 0 2)) 65 (D.one (C.own 7 0 ((((sub r1.Insts 0 x9) ++ ([r2] : List api_Inst)) ++ (sub r1.Insts x9 (r1.Insts.length : Int))).length) 6))), [(some (AObj.cells true (c_api_Case r1))), (hv 1), (hv 2), (hv 3), (hv 4), (hv 5), (hv 6), (hv 7)]⟩
        refine s_store (cs' := [(ci r1.ID), (ct r1.Model), (C.own 7 0 ((((sub r1.Insts 0 x9) ++ ([r2] : List api_Inst)) ++ (sub r1.Insts x9 (r1.Insts.length : Int))).length) 6), (C.p false (.sl r1.Docs.length (r1.Docs.flatMap e_api_Doc))), (ci r1.Clock)]) rfl rfl rfl (List.cons_ne_nil _ _) rfl F.sz_22 (nl rfl) rfl k
      ·refine AWops.weak (st' := ⟨68, (upd 68 (upd 68 topF 2 (rf 0 0)) 4 (rf 1 0)), [(o_api_Case_2 true (C.own 2 0 ((((sub r1.Insts 0 x9) ++ ([r2] : List api_Inst)) ++ (sub r1.Insts x9 (r1.Insts.length : Int))).length) 6) r1), (some (AObj.cells true [(ci 0), (ct (⟨#[]⟩ : ByteArray)), (C.p true (.v (.slice none 0 0))), (C.p true (.v (.slice none 0 0))), (ci 0)])), (some (AObj.cells true (rowC e_api_Inst (((sub r1.Insts 0 x9) ++ ([r2] : List api_Inst)) ++ (sub r1.Insts x9 (r1.Insts.length : Int))))))]⟩) (wg 0 [0, 2, 7] [] hx (le_upd (le_upd (le_top _) (o1 (.ref rfl))) (o1 (.ref rfl))) (ac (.cells (fun _ => rfl) (ac .sc (ac .sc (ac (.own rfl) (ac .same (ac .sc an)))))) (ac (.cells (fun _ => rfl) (ac .sc (ac .sc (ac .sc (ac .sc (ac .sc an)))))) (ac (.cells (fun _ => rfl) (all2_row _)) an)))) (AWops.nil (AW.seq (AW.region ?_)))
       refine s_loadN (ds := [(ci r1.ID), (ct r1.Model), (C.own 2 0 ((((sub r1.Insts 0 x9) ++ ([r2] : List api_Inst)) ++ (sub r1.Insts x9 (r1.Insts.length : Int))).length) 6), (C.p false (.sl r1.Docs.length (r1.Docs.flatMap e_api_Doc))), (ci r1.Clock)]) F.ag_25 F.sz_25 rfl rfl rfl (s_store (cs' := [(ci r1.ID), (ct r1.Model), (C.own 2 0 ((((sub r1.Insts 0 x9) ++ ([r2] : List api_Inst)) ++ (sub r1.Insts x9 (r1.Insts.length : Int))).length) 6), (C.p false (.sl r1.Docs.length (r1.Docs.flatMap e_api_Doc))), (ci r1.Clock)]) rfl rfl rfl (List.cons_ne_nil _ _) rfl F.sz_25 (nl rfl) rfl (AWops.nil (AW.ret ?_)))
       obtain rfl := Option.some.inj h
       exact ⟨_, rfl, (wg 0 [] [2] rfl (le_upd (le_top _) (.t (.agg (ac .sc (ac .sc (ac (CLe.frz e_api_Inst_len rfl rfl rfl) (ac .same (ac .sc an)))))))) an)⟩
mutual
def dossierref12_SameTexts.l0 : Nat → Int → (List ByteArray) → (List ByteArray) → Option Bool
 | 0, _, _, _ => none
 | k + 1, x2, a0, a1 => if (decide (x2 < (a0.length : Int))) = true then ((rd a0 x2).bind fun v4 => (rd a1 x2).bind fun v5 => if (v4.toList == v5.toList) = true then (dossierref12_SameTexts.l0 k (IntKind.i64.wrap (x2 + 1)) a0 a1) else (some false)) else (some true)
end
def dossierref12_SameTexts.f (k : Nat) (a0 : List ByteArray) (a1 : List ByteArray) : Option Bool := if ((a0.length : Int) != (a1.length : Int)) = true then (some false) else (dossierref12_SameTexts.l0 k 0 a0 a1)
theorem dossierref12_SameTexts.meets (k : Nat) (a0 : List ByteArray) (a1 : List ByteArray) (r : Bool) (h : dossierref12_SameTexts.f k a0 a1 = some r) : Meets Tryd.prog 41 [(D.one (C.p false (.sl a0.length (a0.flatMap e_str)))), (D.one (C.p false (.sl a1.length (a1.flatMap e_str))))] [] (sb r) [] := by
 unfold dossierref12_SameTexts.f at h
 refine Meets.of_body (n := 26) Tryd.func41 rfl rfl (nl rfl) fun x hx => ?_
 replace hx : x.k = 0 := hx
 show AW _ x _ _ ⟨26, fr0 [(D.one (C.p false (.sl a0.length (a0.flatMap e_str)))), (D.one (C.p false (.sl a1.length (a1.flatMap e_str))))], []⟩
 refine AW.seq (AW.region ?_)
 refine s_assign (d := (sb false)) rfl (AWops.nil (AW.seq (AW.seq (AW.region ?_))))
 refine s_move (d := (D.one (C.p false (.sl a0.length (a0.flatMap e_str))))) rfl (s_len (n := a0.length) F.u_37 rfl (.inr ⟨(fun _ _ h => by cases h), ⟨_, rfl⟩⟩) (s_move (d := (D.one (C.p false (.sl a1.length (a1.flatMap e_str))))) rfl (s_len (n := a1.length) F.u_37 rfl (.inr ⟨(fun _ _ h => by cases h), ⟨_, rfl⟩⟩) (s_binI (v := (.bool ((a0.length : Int) != (a1.length : Int)))) rfl rfl rfl (AWops.nil ?_)))))
 rcases itH h with ⟨c1, h⟩ | ⟨c1, h⟩
 ·refine AW.cond_yes rfl c1 (AW.seq (AW.region ?_))
  refine s_assign (d := (sb false)) rfl (AWops.nil (AW.ret ?_))
  obtain rfl := Option.some.inj h
  exact ⟨_, rfl, (wg 0 [] [] rfl (le_upd (le_top _) (o1 .sc)) an)⟩
 ·refine AW.cond_no rfl c1 (AW.skip (AW.seq (AW.seq (AW.region ?_))))
  refine s_move (d := (D.one (C.p false (.sl a0.length (a0.flatMap e_str))))) rfl (s_len (n := a0.length) F.u_37 rfl (.inr ⟨(fun _ _ h => by cases h), ⟨_, rfl⟩⟩) (s_move (d := (si 0)) rfl (AWops.nil (AW.block ?_))))
  refine AW.loopw (st0 := ⟨26, (upd 26 (upd 26 (upd 26 (upd 26 topF 0 (D.one (C.p false (.sl a0.length (a0.flatMap e_str))))) 1 (D.one (C.p false (.sl a1.length (a1.flatMap e_str))))) 12 (si (a0.length : Int))) 13 (si 0)), []⟩) (fun kv st => kv ≤ k ∧ ∃ (x2 : Int), dossierref12_SameTexts.l0 kv x2 a0 a1 = some r ∧ st = ⟨26, (upd 26 (upd 26 (upd 26 (upd 26 topF 0 (D.one (C.p false (.sl a0.length (a0.flatMap e_str))))) 1 (D.one (C.p false (.sl a1.length (a1.flatMap e_str))))) 12 (si (a0.length : Int))) 13 (si x2)), []⟩) (k := k) (wg 0 [] [] hx (le_upd (le_upd (le_upd (le_upd (le_top _) (o1 .same)) (o1 .same)) (o1 .sc)) (o1 .sc)) an) ⟨Nat.le_refl _, 0, h, rfl⟩ ?_
  rintro ql0 st ⟨hkl0, x2, h, rfl⟩
  cases ql0 with
  | zero => exact absurd h (by simp [dossierref12_SameTexts.l0])
  | succ ql0 =>
   replace h := (dossierref12_SameTexts.l0.eq_2 _ _ _ _).symm.trans h
   refine AW.seq (AW.region ?_)
   refine s_binI (v := (.bool (decide (x2 < (a0.length : Int))))) rfl rfl rfl (AWops.nil (AW.seq ?_))
   rcases itH h with ⟨c3, h⟩ | ⟨c3, h⟩
   ·refine AW.cond_yes rfl c3 (AW.skip (AW.seq (AW.block (AW.seq (AW.region ?_)))))
    refine s_move (d := (si x2)) rfl (s_assign (d := (si x2)) rfl (AWops.nil (AW.seq ?_)))
    refine AW.weak (st' := ⟨26, (upd 26 (upd 26 (upd 26 (upd 26 (upd 26 topF 0 (D.one (C.p false (.sl a0.length (a0.flatMap e_str))))) 1 (D.one (C.p false (.sl a1.length (a1.flatMap e_str))))) 5 (si x2)) 12 (si (a0.length : Int))) 13 (si x2)), []⟩) (wg 0 [] [] hx (le_upd (le_upd (le_upd (le_upd (le_upd (le_top _) (o1 .same)) (o1 .same)) (o1 .sc)) (o1 .sc)) (o1 .sc)) an) ?_
    obtain ⟨v4, ev4, h⟩ := bnd h
    obtain ⟨pv4, qv4, gv4⟩ := rd_some ev4
    obtain ⟨v5, ev5, h⟩ := bnd h
    obtain ⟨pv5, qv5, gv5⟩ := rd_some ev5
    refine AW.draw (n := 26) (L := 0) [(ft 0 16 (D.one (C.p false (.sl a0.length (a0.flatMap e_str)))) [(0, (D.one (C.p false (.sl a0.length (a0.flatMap e_str)))))]), (ft 1 17 (si x2) [(5, (si x2))]), (ft 2 18 (D.one (C.peek false [P.v (.string v4)])) [(16, (D.one (C.p false (.sl a0.length (a0.flatMap e_str))))), (17, (si x2))]), (ft 3 19 (st_ v4) [(18, (D.one (C.peek false [P.v (.string v4)])))]), (ft 4 20 (D.one (C.p false (.sl a1.length (a1.flatMap e_str)))) [(1, (D.one (C.p false (.sl a1.length (a1.flatMap e_str)))))]), (ft 5 21 (si x2) [(5, (si x2))]), (ft 6 22 (D.one (C.peek false [P.v (.string v5)])) [(20, (D.one (C.p false (.sl a1.length (a1.flatMap e_str))))), (21, (si x2))]), (ft 7 23 (st_ v5) [(22, (D.one (C.peek false [P.v (.string v5)])))]), (ft 8 24 (sb (!(v4.toList == v5.toList))) [(19, (st_ v4)), (23, (st_ v5))])] [[], [], [0, 1], [0, 1, 2], [], [], [4, 5], [4, 5, 6], (.range 8)] (nl rfl) [0, 0, 1, 2, 0, 0, 1, 2, 3] rfl (TK := []) rfl AllK.nil' (by repeat (first | refine fC ⟨?_, ?_⟩ ?_ | refine sC rfl ?_ | refine hC rfl ?_ | trivial)) ?_ ?_
    ·refine (pC ?_ (pC ?_ (pC ?_ (pC ?_ (pC ?_ (pC ?_ (pC ?_ (pC ?_ (pC ?_ AllStep.nil')))))))))
     ·intro K rest fr hv htk k
      show AWops _ x _ _ K ⟨26, (upd 26 fr 0 (D.one (C.p false (.sl a0.length (a0.flatMap e_str))))), _⟩
      refine s_move (d := (D.one (C.p false (.sl a0.length (a0.flatMap e_str))))) rfl k
     ·intro K rest fr hv htk k
      show AWops _ x _ _ K ⟨26, (upd 26 fr 5 (si x2)), _⟩
      refine s_move (d := (si x2)) rfl k
     ·intro K rest fr hv htk k
      show AWops _ x _ _ K ⟨26, (upd 26 (upd 26 fr 17 (si x2)) 16 (D.one (C.p false (.sl a0.length (a0.flatMap e_str))))), []⟩
      refine s_indexImm (ps := [P.v (.string v4)]) F.u_37 F.sz_9 rfl rfl pv4 qv4 (flat_at e_str_len gv4 (e_str_eq v4)) k
     ·intro K rest fr hv htk k
      show AWops _ x _ _ K ⟨26, (upd 26 fr 18 (D.one (C.peek false [P.v (.string v4)]))), []⟩
      refine s_load1 (c' := (ct v4)) F.ag_9 rfl rfl k
     ·intro K rest fr hv htk k
      show AWops _ x _ _ K ⟨26, (upd 26 fr 1 (D.one (C.p false (.sl a1.length (a1.flatMap e_str))))), _⟩
      refine s_move (d := (D.one (C.p false (.sl a1.length (a1.flatMap e_str))))) rfl k
     ·intro K rest fr hv htk k
      show AWops _ x _ _ K ⟨26, (upd 26 fr 5 (si x2)), _⟩
      refine s_move (d := (si x2)) rfl k
     ·intro K rest fr hv htk k
      show AWops _ x _ _ K ⟨26, (upd 26 (upd 26 fr 21 (si x2)) 20 (D.one (C.p false (.sl a1.length (a1.flatMap e_str))))), []⟩
      refine s_indexImm (ps := [P.v (.string v5)]) F.u_37 F.sz_9 rfl rfl pv5 qv5 (flat_at e_str_len gv5 (e_str_eq v5)) k
     ·intro K rest fr hv htk k
      show AWops _ x _ _ K ⟨26, (upd 26 fr 22 (D.one (C.peek false [P.v (.string v5)]))), []⟩
      refine s_load1 (c' := (ct v5)) F.ag_9 rfl rfl k
     ·intro K rest fr hv htk k
      show AWops _ x _ _ K ⟨26, (upd 26 (upd 26 fr 23 (st_ v5)) 19 (st_ v4)), []⟩
      refine s_binS (v := (.bool (!(v4.toList == v5.toList)))) rfl rfl rfl k
    ·refine AWops.weak (st' := ⟨26, (upd 26 (upd 26 (upd 26 (upd 26 (upd 26 topF 0 (D.one (C.p false (.sl a0.length (a0.flatMap e_str))))) 1 (D.one (C.p false (.sl a1.length (a1.flatMap e_str))))) 12 (si (a0.length : Int))) 13 (si x2)) 24 (sb (!(v4.toList == v5.toList)))), []⟩) (wg 0 [] [] hx (le_upd (le_upd (le_upd (le_upd (le_upd (le_top _) (o1 .same)) (o1 .same)) (o1 .sc)) (o1 .sc)) (o1 .sc)) an) (AWops.nil ?_)
     rcases itH h with ⟨c6, h⟩ | ⟨c6, h⟩
     ·refine AW.cond_no rfl (by rw [c6] <;> rfl) (AW.skip (AW.region ?_))
      refine s_binI (v := (.int .i64 (IntKind.i64.wrap (x2 + 1)))) rfl rfl rfl (s_move (d := (si (IntKind.i64.wrap (x2 + 1)))) rfl (AWops.nil ?_))
      exact ⟨_, ⟨26, (upd 26 (upd 26 (upd 26 (upd 26 topF 0 (D.one (C.p false (.sl a0.length (a0.flatMap e_str))))) 1 (D.one (C.p false (.sl a1.length (a1.flatMap e_str))))) 12 (si (a0.length : Int))) 13 (si (IntKind.i64.wrap (x2 + 1)))), []⟩, by omega, (wg 0 [] [] hx (le_upd (le_upd (le_upd (le_upd (le_top _) (o1 .same)) (o1 .same)) (o1 .sc)) (o1 .sc)) an), by omega, IntKind.i64.wrap (x2 + 1), h, rfl⟩
     ·refine AW.cond_yes rfl (by rw [c6] <;> rfl) (AW.seq (AW.region ?_))
      refine s_assign (d := (sb false)) rfl (AWops.nil (AW.ret ?_))
      obtain rfl := Option.some.inj h
      exact ⟨_, rfl, (wg 0 [] [] rfl (le_upd (le_top _) (o1 .sc)) an)⟩
   ·refine AW.cond_no rfl c3 (AW.exit (AW.seq (AW.region ?_)))
    refine s_assign (d := (sb true)) rfl (AWops.nil (AW.ret ?_))
    obtain rfl := Option.some.inj h
    exact ⟨_, rfl, (wg 0 [] [] rfl (le_upd (le_top _) (o1 .sc)) an)⟩
end Go.Abs.GenQ
