import Derived.Test.YtgeieafnnlmfdaaGenKd
set_option linter.unusedVariables false
set_option linter.unusedSimpArgs false
set_option maxRecDepth 100000
set_option maxHeartbeats 4000000
namespace Go.Abs.GenK
open Go.Abs Go.Proofs
mutual
def dossierlaw04_JournalCrashes.j1 : Nat → Int → Int → Bool → (List (List Int)) → (List (ByteArray × vdisk_file)) → Int → Int → (List Int) → (List Int) → Int → (List Int) → ((List (List Int)) × journal_Journal) → ((List Int) × journal_Journal) → Option Bool
 | 0, _, _, _, _, _, _, _, _, _, _, _, _, _ => none
 | k + 1, x27, x28, x29, x30, x31, x32, x33, x34, a4, a5, a6, r18, r19 => (vdisk_Disk_Crash_16.f k (⟨x31, x27, x28, (), x29⟩ : vdisk_Disk) x32 a4).bind fun r35 => (vdisk_Disk_Fuse.f k r35.2 (IntKind.i64.wrap (Int.tmod (IntKind.u64.wrap a5) 4))).bind fun r36 => (journal_Open.f k r36.2.1 ([] : List Int) r36.2.2).bind fun r37 => optE r37.1 ((vdisk_Disk_Crash_16.f k r37.2.2.1 r37.2.2.2 a6).bind fun r40 => (journal_Open_12.f k r40.2 ([] : List Int)).bind fun r41 => optE r41.1 (if (r41.2.1 != 0) = true then (some false) else ((journal_Journal_Snapshot_nil0.f k).bind fun r45 => (bytes_Equal.f k r45 r19.1).bind fun r46 => if r46 = true then ((journal_Journal_Records_nil0.f k).bind fun r48 => (dossierplain_SameTexts.f k r48 r18.1).bind fun r49 => (journal_Journal_Snapshot_nil0.f k).bind fun r50 => (bytes_Equal.f k r50 x34).bind fun r51 => if r51 = true then ((journal_Journal_Records_nil0.f k).bind fun r53 => (dossierplain_SameTexts.f k r53 x30).bind fun r54 => if (x33 == 0) = true then (if r54 = true then ((dossierlaw04_awake.f k).bind fun r57 => some r57) else (some false)) else (if (x33 == 70) = true then (if r49 = true then ((dossierlaw04_awake.f k).bind fun r60 => some r60) else (if r54 = true then ((dossierlaw04_awake.f k).bind fun r62 => some r62) else (some false))) else (if r49 = true then ((dossierlaw04_awake.f k).bind fun r64 => some r64) else (some false)))) else (if (x33 == 0) = true then (some false) else (if (x33 == 70) = true then (if r49 = true then ((dossierlaw04_awake.f k).bind fun r68 => some r68) else (some false)) else (if r49 = true then ((dossierlaw04_awake.f k).bind fun r70 => some r70) else (some false))))) else ((journal_Journal_Snapshot_nil0.f k).bind fun r71 => (bytes_Equal.f k r71 x34).bind fun r72 => if r72 = true then ((journal_Journal_Records_nil0.f k).bind fun r74 => (dossierplain_SameTexts.f k r74 x30).bind fun r75 => if (x33 == 0) = true then (if r75 = true then ((dossierlaw04_awake.f k).bind fun r78 => some r78) else (some false)) else (if (x33 == 70) = true then (if r75 = true then ((dossierlaw04_awake.f k).bind fun r81 => some r81) else (some false)) else (some false))) else (if (x33 == 0) = true then (some false) else (if (x33 == 70) = true then (some false) else (some false)))))) (fun y43 => if (r41.2.1 != 0) = true then (some false) else ((journal_Journal_Snapshot.f k (⟨(), y43.snap, y43.l, y43.stopped⟩ : journal_Journal) r41.2.2).bind fun r85 => (bytes_Equal.f k r85.1 r19.1).bind fun r86 => if r86 = true then ((journal_Journal_Records.f k (⟨(), r85.2.snap, r85.2.l, r85.2.stopped⟩ : journal_Journal) r41.2.2).bind fun r88 => (dossierplain_SameTexts.f k r88.1 r18.1).bind fun r89 => (journal_Journal_Snapshot.f k (⟨(), r88.2.snap, r88.2.l, r88.2.stopped⟩ : journal_Journal) r41.2.2).bind fun r90 => (bytes_Equal.f k r90.1 x34).bind fun r91 => if r91 = true then ((journal_Journal_Records.f k (⟨(), r90.2.snap, r90.2.l, r90.2.stopped⟩ : journal_Journal) r41.2.2).bind fun r93 => (dossierplain_SameTexts.f k r93.1 x30).bind fun r94 => if (x33 == 0) = true then (if r94 = true then ((dossierlaw04_awake.f k).bind fun r97 => some r97) else (some false)) else (if (x33 == 70) = true then (if r89 = true then ((dossierlaw04_awake.f k).bind fun r100 => some r100) else (if r94 = true then ((dossierlaw04_awake.f k).bind fun r102 => some r102) else (some false))) else (if r89 = true then ((dossierlaw04_awake.f k).bind fun r104 => some r104) else (some false)))) else (if (x33 == 0) = true then (some false) else (if (x33 == 70) = true then (if r89 = true then ((dossierlaw04_awake.f k).bind fun r108 => some r108) else (some false)) else (if r89 = true then ((dossierlaw04_awake.f k).bind fun r110 => some r110) else (some false))))) else ((journal_Journal_Snapshot.f k (⟨(), r85.2.snap, r85.2.l, r85.2.stopped⟩ : journal_Journal) r41.2.2).bind fun r111 => (bytes_Equal.f k r111.1 x34).bind fun r112 => if r112 = true then ((journal_Journal_Records.f k (⟨(), r111.2.snap, r111.2.l, r111.2.stopped⟩ : journal_Journal) r41.2.2).bind fun r114 => (dossierplain_SameTexts.f k r114.1 x30).bind fun r115 => if (x33 == 0) = true then (if r115 = true then ((dossierlaw04_awake.f k).bind fun r118 => some r118) else (some false)) else (if (x33 == 70) = true then (if r115 = true then ((dossierlaw04_awake.f k).bind fun r121 => some r121) else (some false)) else (some false))) else (if (x33 == 0) = true then (some false) else (if (x33 == 70) = true then (some false) else (some false))))))) (fun y39 => (vdisk_Disk_Crash_16.f k r37.2.2.1 r37.2.2.2 a6).bind fun r124 => (journal_Open_12.f k r124.2 ([] : List Int)).bind fun r125 => optE r125.1 (if (r125.2.1 != 0) = true then (some false) else ((journal_Journal_Snapshot_nil0.f k).bind fun r129 => (bytes_Equal.f k r129 r19.1).bind fun r130 => if r130 = true then ((journal_Journal_Records_nil0.f k).bind fun r132 => (dossierplain_SameTexts.f k r132 r18.1).bind fun r133 => (journal_Journal_Snapshot_nil0.f k).bind fun r134 => (bytes_Equal.f k r134 x34).bind fun r135 => if r135 = true then ((journal_Journal_Records_nil0.f k).bind fun r137 => (dossierplain_SameTexts.f k r137 x30).bind fun r138 => if (x33 == 0) = true then (if r138 = true then ((dossierlaw04_awake.f k).bind fun r141 => some r141) else (some false)) else (if (x33 == 70) = true then (if r133 = true then ((dossierlaw04_awake.f k).bind fun r144 => some r144) else (if r138 = true then ((dossierlaw04_awake.f k).bind fun r146 => some r146) else (some false))) else (if r133 = true then ((dossierlaw04_awake.f k).bind fun r148 => some r148) else (some false)))) else (if (x33 == 0) = true then (some false) else (if (x33 == 70) = true then (if r133 = true then ((dossierlaw04_awake.f k).bind fun r152 => some r152) else (some false)) else (if r133 = true then ((dossierlaw04_awake.f k).bind fun r154 => some r154) else (some false))))) else ((journal_Journal_Snapshot_nil0.f k).bind fun r155 => (bytes_Equal.f k r155 x34).bind fun r156 => if r156 = true then ((journal_Journal_Records_nil0.f k).bind fun r158 => (dossierplain_SameTexts.f k r158 x30).bind fun r159 => if (x33 == 0) = true then (if r159 = true then ((dossierlaw04_awake.f k).bind fun r162 => some r162) else (some false)) else (if (x33 == 70) = true then (if r159 = true then ((dossierlaw04_awake.f k).bind fun r165 => some r165) else (some false)) else (some false))) else (if (x33 == 0) = true then (some false) else (if (x33 == 70) = true then (some false) else (some false)))))) (fun y127 => if (r125.2.1 != 0) = true then (some false) else ((journal_Journal_Snapshot.f k (⟨(), y127.snap, y127.l, y127.stopped⟩ : journal_Journal) r125.2.2).bind fun r169 => (bytes_Equal.f k r169.1 r19.1).bind fun r170 => if r170 = true then ((journal_Journal_Records.f k (⟨(), r169.2.snap, r169.2.l, r169.2.stopped⟩ : journal_Journal) r125.2.2).bind fun r172 => (dossierplain_SameTexts.f k r172.1 r18.1).bind fun r173 => (journal_Journal_Snapshot.f k (⟨(), r172.2.snap, r172.2.l, r172.2.stopped⟩ : journal_Journal) r125.2.2).bind fun r174 => (bytes_Equal.f k r174.1 x34).bind fun r175 => if r175 = true then ((journal_Journal_Records.f k (⟨(), r174.2.snap, r174.2.l, r174.2.stopped⟩ : journal_Journal) r125.2.2).bind fun r177 => (dossierplain_SameTexts.f k r177.1 x30).bind fun r178 => if (x33 == 0) = true then (if r178 = true then ((dossierlaw04_awake.f k).bind fun r181 => some r181) else (some false)) else (if (x33 == 70) = true then (if r173 = true then ((dossierlaw04_awake.f k).bind fun r184 => some r184) else (if r178 = true then ((dossierlaw04_awake.f k).bind fun r186 => some r186) else (some false))) else (if r173 = true then ((dossierlaw04_awake.f k).bind fun r188 => some r188) else (some false)))) else (if (x33 == 0) = true then (some false) else (if (x33 == 70) = true then (if r173 = true then ((dossierlaw04_awake.f k).bind fun r192 => some r192) else (some false)) else (if r173 = true then ((dossierlaw04_awake.f k).bind fun r194 => some r194) else (some false))))) else ((journal_Journal_Snapshot.f k (⟨(), r169.2.snap, r169.2.l, r169.2.stopped⟩ : journal_Journal) r125.2.2).bind fun r195 => (bytes_Equal.f k r195.1 x34).bind fun r196 => if r196 = true then ((journal_Journal_Records.f k (⟨(), r195.2.snap, r195.2.l, r195.2.stopped⟩ : journal_Journal) r125.2.2).bind fun r198 => (dossierplain_SameTexts.f k r198.1 x30).bind fun r199 => if (x33 == 0) = true then (if r199 = true then ((dossierlaw04_awake.f k).bind fun r202 => some r202) else (some false)) else (if (x33 == 70) = true then (if r199 = true then ((dossierlaw04_awake.f k).bind fun r205 => some r205) else (some false)) else (some false))) else (if (x33 == 0) = true then (some false) else (if (x33 == 70) = true then (some false) else (some false)))))))
def dossierlaw04_JournalCrashes.l0 : Nat → Int → Int → Bool → (List Int) → Bool → (List (ByteArray × vdisk_file)) → (List (List Int)) → Int → (List (List Int)) → (List Int) → Bool → Int → (List Int) → Int → (List Int) → Option Bool
 | 0, _, _, _, _, _, _, _, _, _, _, _, _, _, _, _ => none
 | k + 1, x5, x6, x7, x8, x9, x10, x11, x12, a0, a1, a2, a3, a4, a5, a6 => if (decide (x12 < (a0.length : Int))) = true then ((rd a0 x12).bind fun v14 => if (decide (x12 < 8)) = true then (if (decide (0 ≤ 0 ∧ 0 ≤ (if 700 < (v14.length : Int) then 700 else (v14.length : Int)) ∧ (if 700 < (v14.length : Int) then 700 else (v14.length : Int)) ≤ (v14.length : Int))) = true then ((journal_Journal_Append_fresh_7.f k (⟨(), x8, x11, x9⟩ : journal_Journal) (sub v14 0 (if 700 < (v14.length : Int) then 700 else (v14.length : Int))) (⟨x10, x5, x6, (), x7⟩ : vdisk_Disk)).bind fun r17 => dossierlaw04_JournalCrashes.l0 k r17.2.2.room r17.2.2.used r17.2.2.dead r17.2.1.snap r17.2.1.stopped r17.2.2.files r17.2.1.l (IntKind.i64.wrap (x12 + 1)) a0 a1 a2 a3 a4 a5 a6) else none) else (dossierlaw04_JournalCrashes.l0 k x5 x6 x7 x8 x9 x10 x11 (IntKind.i64.wrap (x12 + 1)) a0 a1 a2 a3 a4 a5 a6)) else ((journal_Journal_Records_fresh.f k (⟨(), x8, x11, x9⟩ : journal_Journal) (⟨x10, x5, x6, (), x7⟩ : vdisk_Disk)).bind fun r18 => (journal_Journal_Snapshot_fresh.f k (⟨(), r18.2.snap, r18.2.l, r18.2.stopped⟩ : journal_Journal) (⟨x10, x5, x6, (), x7⟩ : vdisk_Disk)).bind fun r19 => (vdisk_Disk_Fuse.f k (⟨x10, x5, x6, (), x7⟩ : vdisk_Disk) (IntKind.i64.wrap (Int.tmod (IntKind.u64.wrap a3) 6))).bind fun r20 => if (decide (0 ≤ 0 ∧ 0 ≤ (if 700 < (a1.length : Int) then 700 else (a1.length : Int)) ∧ (if 700 < (a1.length : Int) then 700 else (a1.length : Int)) ≤ (a1.length : Int))) = true then (if (decide (([] : List (List Int)).length + r18.1.length ≤ 5864062014805)) = true then (if (decide (r18.1.length + ([sub a1 0 (if 700 < (a1.length : Int) then 700 else (a1.length : Int))] : List (List Int)).length ≤ 5864062014805)) = true then (if a2 = true then ((journal_Journal_Compact_fresh_8.f k (⟨(), r19.2.snap, r19.2.l, r19.2.stopped⟩ : journal_Journal) (sub a1 0 (if 700 < (a1.length : Int) then 700 else (a1.length : Int))) r20.2.1 r20.2.2).bind fun r25 => dossierlaw04_JournalCrashes.j1 k r25.2.2.1.room r25.2.2.1.used r25.2.2.1.dead ([] : List (List Int)) r25.2.2.1.files r25.2.2.2 r25.1 (sub a1 0 (if 700 < (a1.length : Int) then 700 else (a1.length : Int))) a4 a5 a6 r18 r19) else ((journal_Journal_Append_fresh_7xx.f k (⟨(), r19.2.snap, r19.2.l, r19.2.stopped⟩ : journal_Journal) (sub a1 0 (if 700 < (a1.length : Int) then 700 else (a1.length : Int))) r20.2.1 r20.2.2).bind fun r26 => dossierlaw04_JournalCrashes.j1 k r26.2.2.1.room r26.2.2.1.used r26.2.2.1.dead (r18.1 ++ ([sub a1 0 (if 700 < (a1.length : Int) then 700 else (a1.length : Int))] : List (List Int))) r26.2.2.1.files r26.2.2.2 r26.1 r19.1 a4 a5 a6 r18 r19)) else none) else none) else none)
end
def dossierlaw04_JournalCrashes.f (k : Nat) (a0 : List (List Int)) (a1 : List Int) (a2 : Bool) (a3 : Int) (a4 : List Int) (a5 : Int) (a6 : List Int) : Option Bool := (vdisk_New.f k 1048576).bind fun r1 => if (r1.2 != 0) = true then (some false) else ((journal_Open_fresh.f k r1.1 ([115] : List Int)).bind fun r3 => if (r3.2.1 != 0) = true then (some false) else (dossierlaw04_JournalCrashes.l0 k r3.2.2.room r3.2.2.used r3.2.2.dead r3.1.snap r3.1.stopped r3.2.2.files r3.1.l 0 a0 a1 a2 a3 a4 a5 a6))
theorem dossierlaw04_JournalCrashes.meets (k : Nat) (a0 : List (List Int)) (a1 : List Int) (a2 : Bool) (a3 : Int) (a4 : List Int) (a5 : Int) (a6 : List Int) (r : Bool) (h : dossierlaw04_JournalCrashes.f k a0 a1 a2 a3 a4 a5 a6 = some r) : Meets Try.prog 4 [(D.one (C.p false (.sl a0.length (a0.flatMap (e_sl e_u8))))), (ds_ e_u8 a1), (sb a2), (si a3), (ds_ e_i64 a4), (si a5), (ds_ e_i64 a6)] [] (sb r) [] := by
 unfold dossierlaw04_JournalCrashes.f at h
 refine Meets.of_body (n := 155) Try.func4 rfl rfl (nl rfl) fun x hx => ?_
 replace hx : x.k = 0 := hx
 show AW _ x _ _ ⟨155, fr0 [(D.one (C.p false (.sl a0.length (a0.flatMap (e_sl e_u8))))), (ds_ e_u8 a1), (sb a2), (si a3), (ds_ e_i64 a4), (si a5), (ds_ e_i64 a6)], []⟩
 refine AW.seq (AW.region ?_)
 refine s_assign (d := (sb false)) rfl (AWops.nil (AW.seq (AW.region ?_)))
 obtain ⟨r1, er1, h⟩ := bnd h
 refine cc [] [(o_vdisk_Disk_03 true (C.mp 1) np r1.1), (om_ e_vdisk_file r1.1.files)] (D.tup [(rf 0 0), (si r1.2)]) F.ca_14 rfl rfl (ac (.one .sc) an) an (vdisk_New.meets _ 1048576 r1 er1) (s_move (d := (D.tup [(rf 0 0), (si r1.2)])) rfl (s_extract (d := (rf 0 0)) rfl rfl (s_extract (d := (si r1.2)) rfl rfl (s_assign (d := (rf 0 0)) rfl (s_assign (d := (si r1.2)) rfl (AWops.nil (AW.seq (AW.seq (AW.region ?_)))))))))
 refine s_move (d := (si r1.2)) rfl (s_binI (v := (.bool (r1.2 != 0))) rfl rfl rfl (s_move (d := (sb (r1.2 != 0))) rfl ?_))
 rcases itH h with ⟨c2, h⟩ | ⟨c2, h⟩
 ·refine AWops.guard_no rfl (nl rfl) rfl c2 ?_
  refine AWops.guard_no rfl (nl rfl) rfl c2 ?_
  refine s_pick_yes (d := (sb true)) rfl c2 rfl (AWops.nil ?_)
  refine AW.cond_yes rfl rfl (AW.seq (AW.region ?_))
  refine s_assign (d := (sb false)) rfl (AWops.nil (AW.ret ?_))
  obtain rfl := Option.some.inj h
  exact ⟨_, rfl, (wg 0 [] [] rfl (le_upd (le_top _) (o1 .sc)) an)⟩
 ·refine AWops.guard_yes rfl (nl rfl) rfl c2 ?_
  refine s_move (d := (rf 0 0)) rfl ?_
  refine AWops.guard_yes rfl (nl rfl) rfl c2 ?_
  refine s_ptrNil (b := false) F.u_24 rfl (.inl ⟨⟨_, _, rfl⟩, rfl⟩) (.inl rfl) (s_pick_no (d := (sb false)) rfl c2 rfl (AWops.nil ?_))
  refine AW.cond_no rfl rfl (AW.skip (AW.seq (AW.region ?_)))
  refine s_move (d := (rf 0 0)) rfl (s_buildSlice (n := 1) (ps := [(0, (sc (.int .u8 115)))]) (cs := rowC e_u8 ([115] : List Int)) F.u_22 F.sz_5 F.z_5 rfl rfl (by decide) (by decide) rfl rfl (t_convConst (xs := ([115] : List Int)) F.u_22 F.u_5 rfl rfl rfl (by decide) rfl ?_))
  obtain ⟨r3, er3, h⟩ := bnd h
  refine cc [0, 1] [(o_vdisk_Disk_03 true (C.mp 1) np r3.2.2), (om_ e_vdisk_file r3.2.2.files), none, (o_journal_Journal_02 true (C.ref 0 0) (C.own 4 0 r3.1.l.length 1) r3.1), (some (AObj.cells false (rowC (e_sl e_u8) r3.1.l)))] (D.tup [(rf 3 0), (si r3.2.1)]) F.ca_12 rfl rfl (ac (.one (.ref rfl)) (ac (.one .imm) an)) (ac (.cells (ac (.mp rfl) (ac .sc (ac .sc (ac .sc (ac .sc an)))))) (ac .map an)) (journal_Open_fresh.meets _ r1.1 ([115] : List Int) r3 er3) (s_move (d := (D.tup [(rf 3 0), (si r3.2.1)])) rfl (s_extract (d := (rf 3 0)) rfl rfl (s_extract (d := (si r3.2.1)) rfl rfl (s_assign (d := (rf 3 0)) rfl (s_assign (d := (si r3.2.1)) rfl (AWops.nil (AW.seq (AW.seq (AW.region ?_)))))))))
  refine s_move (d := (si r3.2.1)) rfl (s_binI (v := (.bool (r3.2.1 != 0))) rfl rfl rfl (AWops.nil ?_))
  rcases itH h with ⟨c4, h⟩ | ⟨c4, h⟩
  ·refine AW.cond_yes rfl c4 (AW.seq (AW.region ?_))
   refine s_assign (d := (sb false)) rfl (AWops.nil (AW.ret ?_))
   obtain rfl := Option.some.inj h
   exact ⟨_, rfl, (wg 0 [] [] rfl (le_upd (le_top _) (o1 .sc)) an)⟩
  ·refine AW.cond_no rfl c4 (AW.skip (AW.seq (AW.seq (AW.region ?_))))
   refine s_move (d := (D.one (C.p false (.sl a0.length (a0.flatMap (e_sl e_u8)))))) rfl (s_len (n := a0.length) F.u_25 rfl (.inr ⟨(fun _ _ h => by cases h), ⟨_, rfl⟩⟩) (s_move (d := (si 0)) rfl (AWops.nil (AW.block ?_))))
   refine AW.loopw (st0 := ⟨155, (upd 155 (upd 155 (upd 155 (upd 155 (upd 155 (upd 155 (upd 155 (upd 155 (upd 155 (upd 155 (upd 155 topF 1 (ds_ e_u8 a1)) 2 (sb a2)) 3 (si a3)) 4 (ds_ e_i64 a4)) 5 (si a5)) 6 (ds_ e_i64 a6)) 15 (rf 0 0)) 17 (rf 1 0)) 47 (D.one (C.p false (.sl a0.length (a0.flatMap (e_sl e_u8)))))) 48 (si (a0.length : Int))) 49 (si 0)), [(some (AObj.cells true [(C.mp 2), (ci r3.2.2.room), (ci r3.2.2.used), np, (cb r3.2.2.dead)])), (some (AObj.cells true [(C.ref 0 0), (cl_ e_u8 r3.1.snap), (C.own 3 0 r3.1.l.length 1), (cb r3.1.stopped)])), (om_ e_vdisk_file r3.2.2.files), (some (AObj.cells false (rowC (e_sl e_u8) r3.1.l)))]⟩) (fun kv st => kv ≤ k ∧ ∃ (x5 : Int) (x6 : Int) (x7 : Bool) (x8 : List Int) (x9 : Bool) (x10 : List (ByteArray × vdisk_file)) (x11 : List (List Int)) (x12 : Int), dossierlaw04_JournalCrashes.l0 kv x5 x6 x7 x8 x9 x10 x11 x12 a0 a1 a2 a3 a4 a5 a6 = some r ∧ st = ⟨155, (upd 155 (upd 155 (upd 155 (upd 155 (upd 155 (upd 155 (upd 155 (upd 155 (upd 155 (upd 155 (upd 155 topF 1 (ds_ e_u8 a1)) 2 (sb a2)) 3 (si a3)) 4 (ds_ e_i64 a4)) 5 (si a5)) 6 (ds_ e_i64 a6)) 15 (rf 0 0)) 17 (rf 1 0)) 47 (D.one (C.p false (.sl a0.length (a0.flatMap (e_sl e_u8)))))) 48 (si (a0.length : Int))) 49 (si x12)), [(some (AObj.cells true [(C.mp 2), (ci x5), (ci x6), np, (cb x7)])), (some (AObj.cells true [(C.ref 0 0), (cl_ e_u8 x8), (C.own 3 0 x11.length 1), (cb x9)])), (om_ e_vdisk_file x10), (some (AObj.cells false (rowC (e_sl e_u8) x11)))]⟩) (k := k) (wg 0 [0, 3, 1, 4] [] hx (le_upd (le_upd (le_upd (le_upd (le_upd (le_upd (le_upd (le_upd (le_upd (le_upd (le_upd (le_top _) (o1 .same)) (o1 .sc)) (o1 .sc)) (o1 .same)) (o1 .sc)) (o1 .same)) (o1 (.ref rfl))) (o1 (.ref rfl))) (o1 .same)) (o1 .sc)) (o1 .sc)) (ac (.cells (fun _ => rfl) (ac (.mp rfl) (ac .sc (ac .sc (ac .sc (ac .sc an)))))) (ac (.cells (fun _ => rfl) (ac (.ref rfl) (ac .same (ac (.own rfl) (ac .sc an))))) (ac .map (ac (.cells id (all2_row _)) an))))) ⟨Nat.le_refl _, r3.2.2.room, r3.2.2.used, r3.2.2.dead, r3.1.snap, r3.1.stopped, r3.2.2.files, r3.1.l, 0, h, rfl⟩ ?_
   rintro ql0 st ⟨hkl0, x5, x6, x7, x8, x9, x10, x11, x12, h, rfl⟩
   cases ql0 with
   | zero => exact absurd h (by simp [dossierlaw04_JournalCrashes.l0])
   | succ ql0 =>
    replace h := (dossierlaw04_JournalCrashes.l0.eq_2 _ _ _ _ _ _ _ _ _ _ _ _ _ _ _ _).symm.trans h
    refine AW.seq (AW.region ?_)
    refine s_binI (v := (.bool (decide (x12 < (a0.length : Int))))) rfl rfl rfl (AWops.nil (AW.seq ?_))
    rcases itH h with ⟨c13, h⟩ | ⟨c13, h⟩
    ·refine AW.cond_yes rfl c13 (AW.skip (AW.seq (AW.block (AW.seq (AW.region ?_)))))
     refine s_move (d := (si x12)) rfl ?_
     obtain ⟨v14, ev14, h⟩ := bnd h
     obtain ⟨pv14, qv14, gv14⟩ := rd_some ev14
     refine s_indexImm (ps := [P.sl v14.length (v14.flatMap e_u8)]) F.u_25 F.sz_22 rfl rfl pv14 qv14 (flat_at (e_sl_len _) gv14 (e_sl_eq _ v14)) (s_load1 (c' := (cl_ e_u8 v14)) F.ag_22 rfl rfl (s_assign (d := (si x12)) rfl (s_assign (d := (ds_ e_u8 v14)) rfl (AWops.nil (AW.seq (AW.region (s_move (d := (si x12)) rfl (s_binI (v := (.bool (decide (x12 < 8)))) rfl rfl rfl (AWops.nil ?_)))))))))
     rcases itH h with ⟨c15, h⟩ | ⟨c15, h⟩
     ·refine AW.cond_yes rfl c15 (AW.region ?_)
      refine s_move (d := (rf 1 0)) rfl (s_move (d := (ds_ e_u8 v14)) rfl (s_move (d := (ds_ e_u8 v14)) rfl (s_len (n := v14.length) F.u_22 rfl (.inr ⟨(fun _ _ h => by cases h), ⟨_, rfl⟩⟩) (s_min2 (r := (if 700 < (v14.length : Int) then 700 else (v14.length : Int))) rfl rfl rfl ?_))))
      obtain ⟨c16, h⟩ := gdH h
      have dc16 := of_decide_eq_true c16
      refine t_sliceImm (a := 0) (b := (if 700 < (v14.length : Int) then 700 else (v14.length : Int))) F.u_22 F.sz_5 e_u8_len rfl (by omega) (by omega) (by omega) .no (.yes rfl (by omega) rfl) ?_
      obtain ⟨r17, er17, h⟩ := bnd h
      refine cc [1, 0, 2, 3] [(o_vdisk_Disk_03 true (C.mp 2) np r17.2.2), (o_journal_Journal_02 true (C.ref 0 0) (C.own 4 0 r17.2.1.l.length 1) r17.2.1), (om_ e_vdisk_file r17.2.2.files), none, (some (AObj.cells false (rowC (e_sl e_u8) r17.2.1.l)))] (si r17.1) F.ca_7 rfl rfl (ac (.one (.ref rfl)) (ac (.one .imm) an)) (ac (.cells (ac (.ref rfl) (ac .imm (ac (.own rfl) (ac .sc an))))) (ac (.cells (ac (.mp rfl) (ac .sc (ac .sc (ac .sc (ac .sc an)))))) (ac .map (ac (.cells (lend_row _)) an)))) (journal_Journal_Append_fresh_7.meets _ (⟨(), x8, x11, x9⟩ : journal_Journal) (sub v14 0 (if 700 < (v14.length : Int) then 700 else (v14.length : Int))) (⟨x10, x5, x6, (), x7⟩ : vdisk_Disk) r17 er17) (AWops.nil (AW.region ?_))
      refine s_binI (v := (.int .i64 (IntKind.i64.wrap (x12 + 1)))) rfl rfl rfl (s_move (d := (si (IntKind.i64.wrap (x12 + 1)))) rfl (AWops.nil ?_))
      exact ⟨_, ⟨155, (upd 155 (upd 155 (upd 155 (upd 155 (upd 155 (upd 155 (upd 155 (upd 155 (upd 155 (upd 155 (upd 155 topF 1 (ds_ e_u8 a1)) 2 (sb a2)) 3 (si a3)) 4 (ds_ e_i64 a4)) 5 (si a5)) 6 (ds_ e_i64 a6)) 15 (rf 0 0)) 17 (rf 1 0)) 47 (D.one (C.p false (.sl a0.length (a0.flatMap (e_sl e_u8)))))) 48 (si (a0.length : Int))) 49 (si (IntKind.i64.wrap (x12 + 1)))), [(some (AObj.cells true [(C.mp 2), (ci r17.2.2.room), (ci r17.2.2.used), np, (cb r17.2.2.dead)])), (some (AObj.cells true [(C.ref 0 0), (cl_ e_u8 r17.2.1.snap), (C.own 3 0 r17.2.1.l.length 1), (cb r17.2.1.stopped)])), (om_ e_vdisk_file r17.2.2.files), (some (AObj.cells false (rowC (e_sl e_u8) r17.2.1.l)))]⟩, by omega, (wg 0 [0, 1, 2, 4] [] hx (le_upd (le_upd (le_upd (le_upd (le_upd (le_upd (le_upd (le_upd (le_upd (le_upd (le_upd (le_top _) (o1 .same)) (o1 .sc)) (o1 .sc)) (o1 .same)) (o1 .sc)) (o1 .same)) (o1 (.ref rfl))) (o1 (.ref rfl))) (o1 .same)) (o1 .sc)) (o1 .sc)) (ac (.cells (fun _ => rfl) (ac (.mp rfl) (ac .sc (ac .sc (ac .sc (ac .sc an)))))) (ac (.cells (fun _ => rfl) (ac (.ref rfl) (ac .same (ac (.own rfl) (ac .sc an))))) (ac .map (ac (.cells id (all2_row _)) an))))), by omega, r17.2.2.room, r17.2.2.used, r17.2.2.dead, r17.2.1.snap, r17.2.1.stopped, r17.2.2.files, r17.2.1.l, IntKind.i64.wrap (x12 + 1), h, rfl⟩
     ·refine AW.cond_no rfl c15 (AW.skip (AW.region ?_))
      refine s_binI (v := (.int .i64 (IntKind.i64.wrap (x12 + 1)))) rfl rfl rfl (s_move (d := (si (IntKind.i64.wrap (x12 + 1)))) rfl (AWops.nil ?_))
      exact ⟨_, ⟨155, (upd 155 (upd 155 (upd 155 (upd 155 (upd 155 (upd 155 (upd 155 (upd 155 (upd 155 (upd 155 (upd 155 topF 1 (ds_ e_u8 a1)) 2 (sb a2)) 3 (si a3)) 4 (ds_ e_i64 a4)) 5 (si a5)) 6 (ds_ e_i64 a6)) 15 (rf 0 0)) 17 (rf 1 0)) 47 (D.one (C.p false (.sl a0.length (a0.flatMap (e_sl e_u8)))))) 48 (si (a0.length : Int))) 49 (si (IntKind.i64.wrap (x12 + 1)))), [(some (AObj.cells true [(C.mp 2), (ci x5), (ci x6), np, (cb x7)])), (some (AObj.cells true [(C.ref 0 0), (cl_ e_u8 x8), (C.own 3 0 x11.length 1), (cb x9)])), (om_ e_vdisk_file x10), (some (AObj.cells false (rowC (e_sl e_u8) x11)))]⟩, by omega, (wg 0 [0, 1, 2, 3] [] hx (le_upd (le_upd (le_upd (le_upd (le_upd (le_upd (le_upd (le_upd (le_upd (le_upd (le_upd (le_top _) (o1 .same)) (o1 .sc)) (o1 .sc)) (o1 .same)) (o1 .sc)) (o1 .same)) (o1 (.ref rfl))) (o1 (.ref rfl))) (o1 .same)) (o1 .sc)) (o1 .sc)) (ac (.cells (fun _ => rfl) (ac (.mp rfl) (ac .sc (ac .sc (ac .sc (ac .sc an)))))) (ac (.cells (fun _ => rfl) (ac (.ref rfl) (ac .same (ac (.own rfl) (ac .sc an))))) (ac .map (ac (.cells id (all2_row _)) an))))), by omega, x5, x6, x7, x8, x9, x10, x11, IntKind.i64.wrap (x12 + 1), h, rfl⟩
    ·refine AW.cond_no rfl c13 (AW.exit (AW.seq (AW.region ?_)))
     refine s_move (d := (rf 1 0)) rfl ?_
     obtain ⟨r18, er18, h⟩ := bnd h
     refine cc [1, 0, 3, 2] [(some (AObj.cells true [(C.mp 2), (ci x5), (ci x6), np, (cb x7)])), (o_journal_Journal_02 true (C.ref 0 0) (C.own 3 0 r18.2.l.length 1) r18.2), (om_ e_vdisk_file x10), (some (AObj.cells false (rowC (e_sl e_u8) r18.2.l))), (some (AObj.cells true (rowC (e_sl e_u8) r18.1)))] (D.one (C.own 4 0 r18.1.length 1)) F.ca_10 rfl rfl (ac (.one (.ref rfl)) an) (ac (.cells (ac (.ref rfl) (ac .imm (ac (.own rfl) (ac .sc an))))) (ac (.cells (ac (.mp rfl) (ac .sc (ac .sc (ac .sc (ac .sc an)))))) (ac (.cells (lend_row _)) (ac .map an)))) (journal_Journal_Records_fresh.meets _ (⟨(), x8, x11, x9⟩ : journal_Journal) (⟨x10, x5, x6, (), x7⟩ : vdisk_Disk) r18 er18) (s_move (d := (rf 1 0)) rfl ?_)
     obtain ⟨r19, er19, h⟩ := bnd h
     refine cc [1, 0, 3, 2] [(some (AObj.cells true [(C.mp 2), (ci x5), (ci x6), np, (cb x7)])), (o_journal_Journal_02 true (C.ref 0 0) (C.own 3 0 r19.2.l.length 1) r19.2), (om_ e_vdisk_file x10), (some (AObj.cells false (rowC (e_sl e_u8) r19.2.l))), (some (AObj.cells true (rowC (e_sl e_u8) r18.1))), (ow_ e_u8 r19.1)] (D.one (C.own 5 0 r19.1.length 1)) F.ca_9 rfl rfl (ac (.one (.ref rfl)) an) (ac (.cells (ac (.ref rfl) (ac .imm (ac (.own rfl) (ac .sc an))))) (ac (.cells (ac (.mp rfl) (ac .sc (ac .sc (ac .sc (ac .sc an)))))) (ac (.cells (lend_row _)) (ac .map an)))) (journal_Journal_Snapshot_fresh.meets _ (⟨(), r18.2.snap, r18.2.l, r18.2.stopped⟩ : journal_Journal) (⟨x10, x5, x6, (), x7⟩ : vdisk_Disk) r19 er19) (s_assign (d := (D.one (C.own 4 0 r18.1.length 1))) rfl (s_assign (d := (D.one (C.own 5 0 r19.1.length 1))) rfl (AWops.nil (AW.seq (AW.region (s_move (d := (rf 0 0)) rfl (s_move (d := (si a3)) rfl (s_convI F.u_3 F.u_46 rfl ?_))))))))
     refine s_binI (v := (.int .u64 (Int.tmod (IntKind.u64.wrap a3) 6))) rfl rfl rfl (s_convI F.u_46 F.u_3 rfl ?_)
     obtain ⟨r20, er20, h⟩ := bnd h
     refine cc [0, 2] [(o_vdisk_Disk_03 true (C.mp 2) (C.ref 6 0) r20.2.1), (o_journal_Journal_02 true (C.ref 0 0) (C.own 3 0 r19.2.l.length 1) r19.2), (om_ e_vdisk_file r20.2.1.files), (some (AObj.cells false (rowC (e_sl e_u8) r19.2.l))), (some (AObj.cells true (rowC (e_sl e_u8) r18.1))), (ow_ e_u8 r19.1), (bx r20.2.2)] (si r20.1) F.ca_15 rfl rfl (ac (.one (.ref rfl)) (ac (.one .sc) an)) (ac (.cells (ac (.mp rfl) (ac .sc (ac .sc (ac .sc (ac .sc an)))))) (ac .map an)) (vdisk_Disk_Fuse.meets _ (⟨x10, x5, x6, (), x7⟩ : vdisk_Disk) (IntKind.i64.wrap (Int.tmod (IntKind.u64.wrap a3) 6)) r20 er20) (AWops.nil (AW.seq (AW.region ?_)))
     refine s_move (d := (ds_ e_u8 a1)) rfl (s_move (d := (ds_ e_u8 a1)) rfl (s_len (n := a1.length) F.u_22 rfl (.inr ⟨(fun _ _ h => by cases h), ⟨_, rfl⟩⟩) (s_min2 (r := (if 700 < (a1.length : Int) then 700 else (a1.length : Int))) rfl rfl rfl ?_)))
     obtain ⟨c21, h⟩ := gdH h
     have dc21 := of_decide_eq_true c21
     refine t_sliceImm (a := 0) (b := (if 700 < (a1.length : Int) then 700 else (a1.length : Int))) F.u_22 F.sz_5 e_u8_len rfl (by omega) (by omega) (by omega) .no (.yes rfl (by omega) rfl) (s_assign (d := (D.one (C.p false (.sl (sub a1 0 (if 700 < (a1.length : Int) then 700 else (a1.length : Int))).length ((sub a1 0 (if 700 < (a1.length : Int) then 700 else (a1.length : Int))).flatMap e_u8))))) rfl (AWops.nil (AW.seq (AW.region (s_buildSlice (n := 0) (ps := []) (cs := rowC (e_sl e_u8) ([] : List (List Int))) F.u_25 F.sz_22 F.z_22 rfl rfl (by decide) (by decide) rfl rfl (s_move (d := (D.one (C.own 4 0 r18.1.length 1))) rfl ?_))))))
     obtain ⟨c22, h⟩ := gdH h
     have dc22 := of_decide_eq_true c22
     refine t_append (xs := ([] : List (List Int))) (ys := r18.1) (zs := r18.1) (H' := [(o_vdisk_Disk_03 true (C.mp 2) (C.ref 6 0) r20.2.1), (o_journal_Journal_02 true (C.ref 0 0) (C.own 3 0 r19.2.l.length 1) r19.2), (om_ e_vdisk_file r20.2.1.files), (some (AObj.cells false (rowC (e_sl e_u8) r19.2.l))), (some (AObj.cells true (rowC (e_sl e_u8) r18.1))), (ow_ e_u8 r19.1), (bx r20.2.2), none, (some (AObj.cells true (rowC (e_sl e_u8) r18.1)))]) F.u_25 F.in_22 rfl (e_sl_len _) (.own rfl rfl) (.own rfl rfl) F.u_25 (by omega) (by omega) rfl rfl (s_move (d := (D.one (C.p false (.sl (sub a1 0 (if 700 < (a1.length : Int) then 700 else (a1.length : Int))).length ((sub a1 0 (if 700 < (a1.length : Int) then 700 else (a1.length : Int))).flatMap e_u8))))) rfl (s_buildSlice (n := 1) (ps := [(0, (D.one (C.p false (.sl (sub a1 0 (if 700 < (a1.length : Int) then 700 else (a1.length : Int))).length ((sub a1 0 (if 700 < (a1.length : Int) then 700 else (a1.length : Int))).flatMap e_u8)))))]) (cs := rowC (e_sl e_u8) ([sub a1 0 (if 700 < (a1.length : Int) then 700 else (a1.length : Int))] : List (List Int))) F.u_25 F.sz_22 F.z_22 rfl rfl (by decide) (by decide) rfl rfl ?_))
     obtain ⟨c23, h⟩ := gdH h
     have dc23 := of_decide_eq_true c23
     refine t_append (xs := r18.1) (ys := ([sub a1 0 (if 700 < (a1.length : Int) then 700 else (a1.length : Int))] : List (List Int))) (zs := r18.1 ++ ([sub a1 0 (if 700 < (a1.length : Int) then 700 else (a1.length : Int))] : List (List Int))) (H' := [(o_vdisk_Disk_03 true (C.mp 2) (C.ref 6 0) r20.2.1), (o_journal_Journal_02 true (C.ref 0 0) (C.own 3 0 r19.2.l.length 1) r19.2), (om_ e_vdisk_file r20.2.1.files), (some (AObj.cells false (rowC (e_sl e_u8) r19.2.l))), (some (AObj.cells true (rowC (e_sl e_u8) r18.1))), (ow_ e_u8 r19.1), (bx r20.2.2), none, none, (some (AObj.cells true (rowC (e_sl e_u8) ([sub a1 0 (if 700 < (a1.length : Int) then 700 else (a1.length : Int))] : List (List Int))))), (some (AObj.cells true (rowC (e_sl e_u8) (r18.1 ++ ([sub a1 0 (if 700 < (a1.length : Int) then 700 else (a1.length : Int))] : List (List Int))))))]) F.u_25 F.in_22 rfl (e_sl_len _) (.own rfl rfl) (.own rfl rfl) F.u_25 (by omega) (by omega) rfl rfl (s_move (d := (D.one (C.own 5 0 r19.1.length 1))) rfl (s_assign (d := (si 0)) rfl (s_assign (d := (D.one (C.own 10 0 ((r18.1 ++ ([sub a1 0 (if 700 < (a1.length : Int) then 700 else (a1.length : Int))] : List (List Int))).length) 1))) rfl (s_assign (d := (D.one (C.own 5 0 r19.1.length 1))) rfl (AWops.nil ?_)))))
     refine AW.seqJ (fun st => ∃ (x27 : Int) (x28 : Int) (x29 : Bool) (x30 : List (List Int)) (x31 : List (ByteArray × vdisk_file)) (x32 : Int) (x33 : Int) (x34 : List Int), dossierlaw04_JournalCrashes.j1 ql0 x27 x28 x29 x30 x31 x32 x33 x34 a4 a5 a6 r18 r19 = some r ∧ st = ⟨155, (upd 155 (upd 155 (upd 155 (upd 155 (upd 155 (upd 155 (upd 155 (upd 155 (upd 155 topF 4 (ds_ e_i64 a4)) 5 (si a5)) 6 (ds_ e_i64 a6)) 15 (rf 0 0)) 20 (D.one (C.own 1 0 r18.1.length 1))) 21 (ds_ e_u8 r19.1)) 22 (si x33)) 23 (D.one (C.own 2 0 x30.length 1))) 24 (ds_ e_u8 x34)), [(some (AObj.cells true [(C.mp 3), (ci x27), (ci x28), (C.ref 4 0), (cb x29)])), (some (AObj.cells true (rowC (e_sl e_u8) r18.1))), (some (AObj.cells true (rowC (e_sl e_u8) x30))), (om_ e_vdisk_file x31), (bx x32)]⟩) ?_ ?_
     ·refine AW.seq (AW.region ?_)
      refine s_move (d := (sb a2)) rfl (AWops.nil ?_)
      rcases itH h with ⟨c24, h⟩ | ⟨c24, h⟩
      ·refine AW.cond_yes rfl c24 (AW.region ?_)
       refine s_move (d := (rf 1 0)) rfl (s_move (d := (D.one (C.p false (.sl (sub a1 0 (if 700 < (a1.length : Int) then 700 else (a1.length : Int))).length ((sub a1 0 (if 700 < (a1.length : Int) then 700 else (a1.length : Int))).flatMap e_u8))))) rfl ?_)
       obtain ⟨r25, er25, h⟩ := bnd h
       refine cc [1, 0, 2, 3, 6] [(o_vdisk_Disk_03 true (C.mp 2) (C.ref 12 0) r25.2.2.1), (o_journal_Journal_02 true (C.ref 0 0) (C.own 11 0 r25.2.1.l.length 1) r25.2.1), (om_ e_vdisk_file r25.2.2.1.files), none, (some (AObj.cells true (rowC (e_sl e_u8) r18.1))), (ow_ e_u8 r19.1), none, none, none, (some (AObj.cells true (rowC (e_sl e_u8) ([sub a1 0 (if 700 < (a1.length : Int) then 700 else (a1.length : Int))] : List (List Int))))), (some (AObj.cells true (rowC (e_sl e_u8) (r18.1 ++ ([sub a1 0 (if 700 < (a1.length : Int) then 700 else (a1.length : Int))] : List (List Int)))))), (some (AObj.cells false (rowC (e_sl e_u8) r25.2.1.l))), (bx r25.2.2.2)] (si r25.1) F.ca_8 rfl rfl (ac (.one (.ref rfl)) (ac (.one .imm) an)) (ac (.cells (ac (.ref rfl) (ac .imm (ac (.own rfl) (ac .sc an))))) (ac (.cells (ac (.mp rfl) (ac .sc (ac .sc (ac (.ref rfl) (ac .sc an)))))) (ac .map (ac (.cells (lend_row _)) (ac (.cells (ac .sc an)) an))))) (journal_Journal_Compact_fresh_8.meets _ (⟨(), r19.2.snap, r19.2.l, r19.2.stopped⟩ : journal_Journal) (sub a1 0 (if 700 < (a1.length : Int) then 700 else (a1.length : Int))) r20.2.1 r20.2.2 r25 er25) (s_move (d := (D.one (C.p false (.sl (sub a1 0 (if 700 < (a1.length : Int) then 700 else (a1.length : Int))).length ((sub a1 0 (if 700 < (a1.length : Int) then 700 else (a1.length : Int))).flatMap e_u8))))) rfl (s_assign (d := (si r25.1)) rfl (s_assign (d := (sc (.slice none 0 0))) rfl (s_assign (d := (D.one (C.p false (.sl (sub a1 0 (if 700 < (a1.length : Int) then 700 else (a1.length : Int))).length ((sub a1 0 (if 700 < (a1.length : Int) then 700 else (a1.length : Int))).flatMap e_u8))))) rfl (AWops.nil ?_)))))
       exact ⟨⟨155, (upd 155 (upd 155 (upd 155 (upd 155 (upd 155 (upd 155 (upd 155 (upd 155 (upd 155 topF 4 (ds_ e_i64 a4)) 5 (si a5)) 6 (ds_ e_i64 a6)) 15 (rf 0 0)) 20 (D.one (C.own 1 0 r18.1.length 1))) 21 (ds_ e_u8 r19.1)) 22 (si r25.1)) 23 (D.one (C.own 2 0 ([] : List (List Int)).length 1))) 24 (D.one (C.p false (.sl (sub a1 0 (if 700 < (a1.length : Int) then 700 else (a1.length : Int))).length ((sub a1 0 (if 700 < (a1.length : Int) then 700 else (a1.length : Int))).flatMap e_u8))))), [(some (AObj.cells true [(C.mp 3), (ci r25.2.2.1.room), (ci r25.2.2.1.used), (C.ref 4 0), (cb r25.2.2.1.dead)])), (some (AObj.cells true (rowC (e_sl e_u8) r18.1))), (some (AObj.cells true (rowC (e_sl e_u8) ([] : List (List Int))))), (om_ e_vdisk_file r25.2.2.1.files), (bx r25.2.2.2)]⟩, (Weak.trans (Weak.nil (sz := 1) (i := 23) rfl) (wg 0 [0, 4, 13, 2, 12] [5] hx (le_upd (le_upd (le_upd (le_upd (le_upd (le_upd (le_upd (le_upd (le_upd (le_top _) (o1 .same)) (o1 .sc)) (o1 .same)) (o1 (.ref rfl))) (o1 (.own rfl))) (o1 (CLe.frz e_u8_len rfl rfl rfl))) (o1 .sc)) (o1 (.own rfl))) (o1 .same)) (ac (.cells (fun _ => rfl) (ac (.mp rfl) (ac .sc (ac .sc (ac (.ref rfl) (ac .sc an)))))) (ac (.cells (fun _ => rfl) (all2_row _)) (ac (.cells (fun _ => rfl) an) (ac .map (ac qb an))))))), r25.2.2.1.room, r25.2.2.1.used, r25.2.2.1.dead, ([] : List (List Int)), r25.2.2.1.files, r25.2.2.2, r25.1, sub a1 0 (if 700 < (a1.length : Int) then 700 else (a1.length : Int)), h, rfl⟩
      ·refine AW.cond_no rfl c24 (AW.region ?_)
       refine s_move (d := (rf 1 0)) rfl (s_move (d := (D.one (C.p false (.sl (sub a1 0 (if 700 < (a1.length : Int) then 700 else (a1.length : Int))).length ((sub a1 0 (if 700 < (a1.length : Int) then 700 else (a1.length : Int))).flatMap e_u8))))) rfl ?_)
       obtain ⟨r26, er26, h⟩ := bnd h
       refine cc [1, 0, 2, 3, 6] [(o_vdisk_Disk_03 true (C.mp 2) (C.ref 12 0) r26.2.2.1), (o_journal_Journal_02 true (C.ref 0 0) (C.own 11 0 r26.2.1.l.length 1) r26.2.1), (om_ e_vdisk_file r26.2.2.1.files), none, (some (AObj.cells true (rowC (e_sl e_u8) r18.1))), (ow_ e_u8 r19.1), none, none, none, (some (AObj.cells true (rowC (e_sl e_u8) ([sub a1 0 (if 700 < (a1.length : Int) then 700 else (a1.length : Int))] : List (List Int))))), (some (AObj.cells true (rowC (e_sl e_u8) (r18.1 ++ ([sub a1 0 (if 700 < (a1.length : Int) then 700 else (a1.length : Int))] : List (List Int)))))), (some (AObj.cells false (rowC (e_sl e_u8) r26.2.1.l))), (bx r26.2.2.2)] (si r26.1) F.ca_7 rfl rfl (ac (.one (.ref rfl)) (ac (.one .imm) an)) (ac (.cells (ac (.ref rfl) (ac .imm (ac (.own rfl) (ac .sc an))))) (ac (.cells (ac (.mp rfl) (ac .sc (ac .sc (ac (.ref rfl) (ac .sc an)))))) (ac .map (ac (.cells (lend_row _)) (ac (.cells (ac .sc an)) an))))) (journal_Journal_Append_fresh_7xx.meets _ (⟨(), r19.2.snap, r19.2.l, r19.2.stopped⟩ : journal_Journal) (sub a1 0 (if 700 < (a1.length : Int) then 700 else (a1.length : Int))) r20.2.1 r20.2.2 r26 er26) (s_assign (d := (si r26.1)) rfl (AWops.nil ?_))
       exact ⟨⟨155, (upd 155 (upd 155 (upd 155 (upd 155 (upd 155 (upd 155 (upd 155 (upd 155 (upd 155 topF 4 (ds_ e_i64 a4)) 5 (si a5)) 6 (ds_ e_i64 a6)) 15 (rf 0 0)) 20 (D.one (C.own 1 0 r18.1.length 1))) 21 (ds_ e_u8 r19.1)) 22 (si r26.1)) 23 (D.one (C.own 2 0 (r18.1 ++ ([sub a1 0 (if 700 < (a1.length : Int) then 700 else (a1.length : Int))] : List (List Int))).length 1))) 24 (ds_ e_u8 r19.1)), [(some (AObj.cells true [(C.mp 3), (ci r26.2.2.1.room), (ci r26.2.2.1.used), (C.ref 4 0), (cb r26.2.2.1.dead)])), (some (AObj.cells true (rowC (e_sl e_u8) r18.1))), (some (AObj.cells true (rowC (e_sl e_u8) (r18.1 ++ ([sub a1 0 (if 700 < (a1.length : Int) then 700 else (a1.length : Int))] : List (List Int)))))), (om_ e_vdisk_file r26.2.2.1.files), (bx r26.2.2.2)]⟩, (wg 0 [0, 4, 10, 2, 12] [5] hx (le_upd (le_upd (le_upd (le_upd (le_upd (le_upd (le_upd (le_upd (le_upd (le_top _) (o1 .same)) (o1 .sc)) (o1 .same)) (o1 (.ref rfl))) (o1 (.own rfl))) (o1 (CLe.frz e_u8_len rfl rfl rfl))) (o1 .sc)) (o1 (.own rfl))) (o1 (CLe.frz e_u8_len rfl rfl rfl))) (ac (.cells (fun _ => rfl) (ac (.mp rfl) (ac .sc (ac .sc (ac (.ref rfl) (ac .sc an)))))) (ac (.cells (fun _ => rfl) (all2_row _)) (ac (.cells (fun _ => rfl) (all2_row _)) (ac .map (ac qb an)))))), r26.2.2.1.room, r26.2.2.1.used, r26.2.2.1.dead, r18.1 ++ ([sub a1 0 (if 700 < (a1.length : Int) then 700 else (a1.length : Int))] : List (List Int)), r26.2.2.1.files, r26.2.2.2, r26.1, r19.1, h, rfl⟩
     ·rintro st ⟨x27, x28, x29, x30, x31, x32, x33, x34, h, rfl⟩
      cases ql0 with
      | zero => exact absurd h (by simp [dossierlaw04_JournalCrashes.j1])
      | succ qj1 =>
       replace h := (dossierlaw04_JournalCrashes.j1.eq_2 _ _ _ _ _ _ _ _ _ _ _ _ _ _).symm.trans h
       refine AW.seq (AW.region ?_)
       refine s_move (d := (rf 0 0)) rfl (s_move (d := (ds_ e_i64 a4)) rfl ?_)
       obtain ⟨r35, er35, h⟩ := bnd h
       refine cc [0, 3, 4] [(o_vdisk_Disk_03 true (C.mp 3) np r35.2), (some (AObj.cells true (rowC (e_sl e_u8) r18.1))), (some (AObj.cells true (rowC (e_sl e_u8) x30))), (om_ e_vdisk_file r35.2.files), none] (si r35.1) F.ca_16 rfl rfl (ac (.one (.ref rfl)) (ac (.one .imm) an)) (ac (.cells (ac (.mp rfl) (ac .sc (ac .sc (ac (.ref rfl) (ac .sc an)))))) (ac .map (ac (.cells (ac .sc an)) an))) (vdisk_Disk_Crash_16.meets _ (⟨x31, x27, x28, (), x29⟩ : vdisk_Disk) x32 a4 r35 er35) (AWops.nil (AW.seq (AW.region ?_)))
       refine s_move (d := (rf 0 0)) rfl (s_move (d := (si a5)) rfl (s_convI F.u_3 F.u_46 rfl (s_binI (v := (.int .u64 (Int.tmod (IntKind.u64.wrap a5) 4))) rfl rfl rfl (s_convI F.u_46 F.u_3 rfl ?_))))
       obtain ⟨r36, er36, h⟩ := bnd h
       refine cc [0, 3] [(o_vdisk_Disk_03 true (C.mp 3) (C.ref 5 0) r36.2.1), (some (AObj.cells true (rowC (e_sl e_u8) r18.1))), (some (AObj.cells true (rowC (e_sl e_u8) x30))), (om_ e_vdisk_file r36.2.1.files), none, (bx r36.2.2)] (si r36.1) F.ca_15 rfl rfl (ac (.one (.ref rfl)) (ac (.one .sc) an)) (ac (.cells (ac (.mp rfl) (ac .sc (ac .sc (ac .sc (ac .sc an)))))) (ac .map an)) (vdisk_Disk_Fuse.meets _ r35.2 (IntKind.i64.wrap (Int.tmod (IntKind.u64.wrap a5) 4)) r36 er36) (AWops.nil (AW.seq (AW.region ?_)))
       refine s_move (d := (rf 0 0)) rfl ?_
       obtain ⟨r37, er37, h⟩ := bnd h
       rcases optH h with ⟨c38, h⟩ | ⟨y39, c38, h⟩
       ·refine cc [0, 3, 5] [(o_vdisk_Disk_03 true (C.mp 3) (C.ref 5 0) r37.2.2.1), (some (AObj.cells true (rowC (e_sl e_u8) r18.1))), (some (AObj.cells true (rowC (e_sl e_u8) x30))), (om_ e_vdisk_file r37.2.2.1.files), none, (bx r37.2.2.2)] (D.tup [(sc (.pointer none)), (si r37.2.1)]) F.ca_12 rfl rfl (ac (.one (.ref rfl)) (ac (.one .nil) an)) (ac (.cells (ac (.mp rfl) (ac .sc (ac .sc (ac (.ref rfl) (ac .sc an)))))) (ac .map (ac (.cells (ac .sc an)) an))) (Meets.eqs (optE_none c38) (optE_none c38) (journal_Open.meets _ r36.2.1 ([] : List Int) r36.2.2 r37 er37)) (AWops.nil (AW.seq (AW.region ?_)))
        refine s_move (d := (rf 0 0)) rfl (s_move (d := (ds_ e_i64 a6)) rfl ?_)
        obtain ⟨r40, er40, h⟩ := bnd h
        refine cc [0, 3, 5] [(o_vdisk_Disk_03 true (C.mp 3) np r40.2), (some (AObj.cells true (rowC (e_sl e_u8) r18.1))), (some (AObj.cells true (rowC (e_sl e_u8) x30))), (om_ e_vdisk_file r40.2.files), none, none] (si r40.1) F.ca_16 rfl rfl (ac (.one (.ref rfl)) (ac (.one .imm) an)) (ac (.cells (ac (.mp rfl) (ac .sc (ac .sc (ac (.ref rfl) (ac .sc an)))))) (ac .map (ac (.cells (ac .sc an)) an))) (vdisk_Disk_Crash_16.meets _ r37.2.2.1 r37.2.2.2 a6 r40 er40) (AWops.nil (AW.seq (AW.region ?_)))
        refine s_move (d := (rf 0 0)) rfl ?_
        obtain ⟨r41, er41, h⟩ := bnd h
        rcases optH h with ⟨c42, h⟩ | ⟨y43, c42, h⟩
        ·refine cc [0, 3] [(o_vdisk_Disk_03 true (C.mp 3) np r41.2.2), (some (AObj.cells true (rowC (e_sl e_u8) r18.1))), (some (AObj.cells true (rowC (e_sl e_u8) x30))), (om_ e_vdisk_file r41.2.2.files), none, none] (D.tup [(sc (.pointer none)), (si r41.2.1)]) F.ca_12 rfl rfl (ac (.one (.ref rfl)) (ac (.one .nil) an)) (ac (.cells (ac (.mp rfl) (ac .sc (ac .sc (ac .sc (ac .sc an)))))) (ac .map an)) (Meets.eqs (optE_none c42) (optE_none c42) (journal_Open_12.meets _ r40.2 ([] : List Int) r41 er41)) (s_move (d := (D.tup [(sc (.pointer none)), (si r41.2.1)])) rfl (s_extract (d := (sc (.pointer none))) rfl rfl (s_extract (d := (si r41.2.1)) rfl rfl (s_assign (d := (sc (.pointer none))) rfl (s_assign (d := (si r41.2.1)) rfl (AWops.nil (AW.seq (AW.seq (AW.region ?_)))))))))
         refine s_move (d := (si r41.2.1)) rfl (s_binI (v := (.bool (r41.2.1 != 0))) rfl rfl rfl (AWops.nil ?_))
         rcases itH h with ⟨c44, h⟩ | ⟨c44, h⟩
         ·refine AW.cond_yes rfl c44 (AW.seq (AW.region ?_))
          refine s_assign (d := (sb false)) rfl (AWops.nil (AW.ret ?_))
          obtain rfl := Option.some.inj h
          exact ⟨_, rfl, (wg 0 [] [] rfl (le_upd (le_top _) (o1 .sc)) an)⟩
         ·refine AW.cond_no rfl c44 (AW.skip (AW.seq (AW.region ?_)))
          refine s_move (d := (sc (.pointer none))) rfl ?_
          obtain ⟨r45, er45, h⟩ := bnd h
          refine cc [] [(o_vdisk_Disk_03 true (C.mp 3) np r41.2.2), (some (AObj.cells true (rowC (e_sl e_u8) r18.1))), (some (AObj.cells true (rowC (e_sl e_u8) x30))), (om_ e_vdisk_file r41.2.2.files), none, none, (ow_ e_u8 r45)] (D.one (C.own 6 0 r45.length 1)) F.ca_9 rfl rfl (ac (.one .sc) an) an (journal_Journal_Snapshot_nil0.meets _  r45 er45) (s_move (d := (ds_ e_u8 r19.1)) rfl ?_)
          obtain ⟨r46, er46, h⟩ := bnd h
          refine s_call2 (ρ := []) (br := true) (H2 := [(o_vdisk_Disk_03 true (C.mp 3) np r41.2.2), (some (AObj.cells true (rowC (e_sl e_u8) r18.1))), (some (AObj.cells true (rowC (e_sl e_u8) x30))), (om_ e_vdisk_file r41.2.2.files), none, none, (ow_ e_u8 r45)]) (d := (sb r46)) F.ca_17 rfl rfl (ac (.one (LendC.bor e_u8_len rfl rfl rfl)) (ac (.one .imm) an)) an (by decide) rfl (bytes_Equal.meets _ r45 r19.1 r46 er46) (.inr ⟨rfl, rfl⟩) rfl rfl (s_move (d := (sb r46)) rfl ?_)
          rcases itH h with ⟨c47, h⟩ | ⟨c47, h⟩
          ·refine AWops.guard_yes rfl (nl rfl) rfl c47 ?_
           refine s_move (d := (sc (.pointer none))) rfl ?_
           refine AWops.guard_yes rfl (nl rfl) rfl c47 ?_
           obtain ⟨r48, er48, h⟩ := bnd h
           refine cc [] [(o_vdisk_Disk_03 true (C.mp 3) np r41.2.2), (some (AObj.cells true (rowC (e_sl e_u8) r18.1))), (some (AObj.cells true (rowC (e_sl e_u8) x30))), (om_ e_vdisk_file r41.2.2.files), none, none, (ow_ e_u8 r45), (some (AObj.cells true (rowC (e_sl e_u8) r48)))] (D.one (C.own 7 0 r48.length 1)) F.ca_10 rfl rfl (ac (.one .sc) an) an (journal_Journal_Records_nil0.meets _  r48 er48) ?_
           refine AWops.guard_yes rfl (nl rfl) rfl c47 ?_
           refine s_move (d := (D.one (C.own 1 0 r18.1.length 1))) rfl ?_
           refine AWops.guard_yes rfl (nl rfl) rfl c47 ?_
           obtain ⟨r49, er49, h⟩ := bnd h
           refine s_call2 (ρ := []) (br := true) (H2 := [(o_vdisk_Disk_03 true (C.mp 3) np r41.2.2), (some (AObj.cells true (rowC (e_sl e_u8) r18.1))), (some (AObj.cells true (rowC (e_sl e_u8) x30))), (om_ e_vdisk_file r41.2.2.files), none, none, (ow_ e_u8 r45), (some (AObj.cells true (rowC (e_sl e_u8) r48)))]) (d := (sb r49)) F.ca_18 rfl rfl (ac (.one (LendC.bor (e_sl_len _) rfl rfl rfl)) (ac (.one (LendC.bor (e_sl_len _) rfl rfl rfl)) an)) an (by decide) rfl (dossierplain_SameTexts.meets _ r48 r18.1 r49 er49) (.inr ⟨rfl, rfl⟩) rfl rfl (s_pick_yes (d := (sb r49)) rfl c47 rfl (s_assign (d := (sb r49)) rfl (AWops.nil (AW.seq (AW.region (s_move (d := (sc (.pointer none))) rfl ?_))))))
           obtain ⟨r50, er50, h⟩ := bnd h
           refine cc [] [(o_vdisk_Disk_03 true (C.mp 3) np r41.2.2), (some (AObj.cells true (rowC (e_sl e_u8) r18.1))), (some (AObj.cells true (rowC (e_sl e_u8) x30))), (om_ e_vdisk_file r41.2.2.files), none, none, (ow_ e_u8 r45), (some (AObj.cells true (rowC (e_sl e_u8) r48))), (ow_ e_u8 r50)] (D.one (C.own 8 0 r50.length 1)) F.ca_9 rfl rfl (ac (.one .sc) an) an (journal_Journal_Snapshot_nil0.meets _  r50 er50) (s_move (d := (ds_ e_u8 x34)) rfl ?_)
           obtain ⟨r51, er51, h⟩ := bnd h
           refine s_call2 (ρ := []) (br := true) (H2 := [(o_vdisk_Disk_03 true (C.mp 3) np r41.2.2), (some (AObj.cells true (rowC (e_sl e_u8) r18.1))), (some (AObj.cells true (rowC (e_sl e_u8) x30))), (om_ e_vdisk_file r41.2.2.files), none, none, (ow_ e_u8 r45), (some (AObj.cells true (rowC (e_sl e_u8) r48))), (ow_ e_u8 r50)]) (d := (sb r51)) F.ca_17 rfl rfl (ac (.one (LendC.bor e_u8_len rfl rfl rfl)) (ac (.one .imm) an)) an (by decide) rfl (bytes_Equal.meets _ r50 x34 r51 er51) (.inr ⟨rfl, rfl⟩) rfl rfl (s_move (d := (sb r51)) rfl ?_)
           rcases itH h with ⟨c52, h⟩ | ⟨c52, h⟩
           ·refine AWops.guard_yes rfl (nl rfl) rfl c52 ?_
            refine s_move (d := (sc (.pointer none))) rfl ?_
            refine AWops.guard_yes rfl (nl rfl) rfl c52 ?_
            obtain ⟨r53, er53, h⟩ := bnd h
            refine cc [] [(o_vdisk_Disk_03 true (C.mp 3) np r41.2.2), (some (AObj.cells true (rowC (e_sl e_u8) r18.1))), (some (AObj.cells true (rowC (e_sl e_u8) x30))), (om_ e_vdisk_file r41.2.2.files), none, none, (ow_ e_u8 r45), (some (AObj.cells true (rowC (e_sl e_u8) r48))), (ow_ e_u8 r50), (some (AObj.cells true (rowC (e_sl e_u8) r53)))] (D.one (C.own 9 0 r53.length 1)) F.ca_10 rfl rfl (ac (.one .sc) an) an (journal_Journal_Records_nil0.meets _  r53 er53) ?_
            refine AWops.guard_yes rfl (nl rfl) rfl c52 ?_
            refine s_move (d := (D.one (C.own 2 0 x30.length 1))) rfl ?_
            refine AWops.guard_yes rfl (nl rfl) rfl c52 ?_
            obtain ⟨r54, er54, h⟩ := bnd h
            refine s_call2 (ρ := []) (br := true) (H2 := [(o_vdisk_Disk_03 true (C.mp 3) np r41.2.2), (some (AObj.cells true (rowC (e_sl e_u8) r18.1))), (some (AObj.cells true (rowC (e_sl e_u8) x30))), (om_ e_vdisk_file r41.2.2.files), none, none, (ow_ e_u8 r45), (some (AObj.cells true (rowC (e_sl e_u8) r48))), (ow_ e_u8 r50), (some (AObj.cells true (rowC (e_sl e_u8) r53)))]) (d := (sb r54)) F.ca_18 rfl rfl (ac (.one (LendC.bor (e_sl_len _) rfl rfl rfl)) (ac (.one (LendC.bor (e_sl_len _) rfl rfl rfl)) an)) an (by decide) rfl (dossierplain_SameTexts.meets _ r53 x30 r54 er54) (.inr ⟨rfl, rfl⟩) rfl rfl (s_pick_yes (d := (sb r54)) rfl c52 rfl (s_assign (d := (sb r54)) rfl (AWops.nil (AW.seq (AW.seq (AW.region (s_move (d := (si x33)) rfl (AWops.nil (AW.block (AW.seq (AW.region (s_binI (v := (.bool (x33 == 0))) rfl rfl rfl (s_assign (d := (sb (x33 == 0))) rfl (AWops.nil ?_))))))))))))))
            rcases itH h with ⟨c55, h⟩ | ⟨c55, h⟩
            ·refine AW.cond_yes rfl c55 (AW.seq (AW.region ?_))
             refine s_move (d := (sb r54)) rfl (s_move (d := (sb r54)) rfl ?_)
             rcases itH h with ⟨c56, h⟩ | ⟨c56, h⟩
             ·refine AWops.guard_yes rfl (nl rfl) rfl c56 ?_
              obtain ⟨r57, er57, h⟩ := bnd h
              refine cc [] [(o_vdisk_Disk_03 true (C.mp 3) np r41.2.2), (some (AObj.cells true (rowC (e_sl e_u8) r18.1))), (some (AObj.cells true (rowC (e_sl e_u8) x30))), (om_ e_vdisk_file r41.2.2.files), none, none, (ow_ e_u8 r45), (some (AObj.cells true (rowC (e_sl e_u8) r48))), (ow_ e_u8 r50), (some (AObj.cells true (rowC (e_sl e_u8) r53)))] (sb r57) F.ca_13 rfl rfl an an (dossierlaw04_awake.meets _  r57 er57) (s_pick_yes (d := (sb r57)) rfl c56 rfl (s_assign (d := (sb r57)) rfl (AWops.nil (AW.ret ?_))))
              obtain rfl := Option.some.inj h
              exact ⟨_, rfl, (wg 0 [] [] rfl (le_upd (le_top _) (o1 .sc)) an)⟩
             ·refine AWops.guard_no rfl (nl rfl) rfl c56 ?_
              refine s_pick_no (d := (sb false)) rfl c56 rfl (s_assign (d := (sb false)) rfl (AWops.nil (AW.ret ?_)))
              obtain rfl := Option.some.inj h
              exact ⟨_, rfl, (wg 0 [] [] rfl (le_upd (le_top _) (o1 .sc)) an)⟩
            ·refine AW.cond_no rfl c55 (AW.seq (AW.region ?_))
             refine s_binI (v := (.bool (x33 == 70))) rfl rfl rfl (s_assign (d := (sb (x33 == 70))) rfl (AWops.nil ?_))
             rcases itH h with ⟨c58, h⟩ | ⟨c58, h⟩
             ·refine AW.cond_yes rfl c58 (AW.seq (AW.region ?_))
              refine s_move (d := (sb r49)) rfl (s_move (d := (sb r49)) rfl ?_)
              rcases itH h with ⟨c59, h⟩ | ⟨c59, h⟩
              ·refine AWops.guard_no rfl (nl rfl) rfl c59 ?_
               refine s_pick_yes (d := (sb true)) rfl c59 rfl (s_move (d := (sb true)) rfl ?_)
               refine AWops.guard_yes rfl (nl rfl) rfl rfl ?_
               obtain ⟨r60, er60, h⟩ := bnd h
               refine cc [] [(o_vdisk_Disk_03 true (C.mp 3) np r41.2.2), (some (AObj.cells true (rowC (e_sl e_u8) r18.1))), (some (AObj.cells true (rowC (e_sl e_u8) x30))), (om_ e_vdisk_file r41.2.2.files), none, none, (ow_ e_u8 r45), (some (AObj.cells true (rowC (e_sl e_u8) r48))), (ow_ e_u8 r50), (some (AObj.cells true (rowC (e_sl e_u8) r53)))] (sb r60) F.ca_13 rfl rfl an an (dossierlaw04_awake.meets _  r60 er60) (s_pick_yes (d := (sb r60)) rfl rfl rfl (s_assign (d := (sb r60)) rfl (AWops.nil (AW.ret ?_))))
               obtain rfl := Option.some.inj h
               exact ⟨_, rfl, (wg 0 [] [] rfl (le_upd (le_top _) (o1 .sc)) an)⟩
              ·refine AWops.guard_yes rfl (nl rfl) rfl c59 ?_
               refine s_move (d := (sb r54)) rfl (s_pick_no (d := (sb r54)) rfl c59 rfl (s_move (d := (sb r54)) rfl ?_))
               rcases itH h with ⟨c61, h⟩ | ⟨c61, h⟩
               ·refine AWops.guard_yes rfl (nl rfl) rfl c61 ?_
                obtain ⟨r62, er62, h⟩ := bnd h
                refine cc [] [(o_vdisk_Disk_03 true (C.mp 3) np r41.2.2), (some (AObj.cells true (rowC (e_sl e_u8) r18.1))), (some (AObj.cells true (rowC (e_sl e_u8) x30))), (om_ e_vdisk_file r41.2.2.files), none, none, (ow_ e_u8 r45), (some (AObj.cells true (rowC (e_sl e_u8) r48))), (ow_ e_u8 r50), (some (AObj.cells true (rowC (e_sl e_u8) r53)))] (sb r62) F.ca_13 rfl rfl an an (dossierlaw04_awake.meets _  r62 er62) (s_pick_yes (d := (sb r62)) rfl c61 rfl (s_assign (d := (sb r62)) rfl (AWops.nil (AW.ret ?_))))
                obtain rfl := Option.some.inj h
                exact ⟨_, rfl, (wg 0 [] [] rfl (le_upd (le_top _) (o1 .sc)) an)⟩
               ·refine AWops.guard_no rfl (nl rfl) rfl c61 ?_
                refine s_pick_no (d := (sb false)) rfl c61 rfl (s_assign (d := (sb false)) rfl (AWops.nil (AW.ret ?_)))
                obtain rfl := Option.some.inj h
                exact ⟨_, rfl, (wg 0 [] [] rfl (le_upd (le_top _) (o1 .sc)) an)⟩
             ·refine AW.cond_no rfl c58 (AW.skip (AW.seq (AW.region ?_)))
              refine s_move (d := (sb r49)) rfl (s_move (d := (sb r49)) rfl ?_)
              rcases itH h with ⟨c63, h⟩ | ⟨c63, h⟩
              ·refine AWops.guard_yes rfl (nl rfl) rfl c63 ?_
               obtain ⟨r64, er64, h⟩ := bnd h
               refine cc [] [(o_vdisk_Disk_03 true (C.mp 3) np r41.2.2), (some (AObj.cells true (rowC (e_sl e_u8) r18.1))), (some (AObj.cells true (rowC (e_sl e_u8) x30))), (om_ e_vdisk_file r41.2.2.files), none, none, (ow_ e_u8 r45), (some (AObj.cells true (rowC (e_sl e_u8) r48))), (ow_ e_u8 r50), (some (AObj.cells true (rowC (e_sl e_u8) r53)))] (sb r64) F.ca_13 rfl rfl an an (dossierlaw04_awake.meets _  r64 er64) (s_pick_yes (d := (sb r64)) rfl c63 rfl (s_assign (d := (sb r64)) rfl (AWops.nil (AW.ret ?_))))
               obtain rfl := Option.some.inj h
               exact ⟨_, rfl, (wg 0 [] [] rfl (le_upd (le_top _) (o1 .sc)) an)⟩
              ·refine AWops.guard_no rfl (nl rfl) rfl c63 ?_
               refine s_pick_no (d := (sb false)) rfl c63 rfl (s_assign (d := (sb false)) rfl (AWops.nil (AW.ret ?_)))
               obtain rfl := Option.some.inj h
               exact ⟨_, rfl, (wg 0 [] [] rfl (le_upd (le_top _) (o1 .sc)) an)⟩
           ·iterate 4 refine AWops.guard_no rfl (nl rfl) rfl c52 ?_
            refine s_pick_no (d := (sb false)) rfl c52 rfl (s_assign (d := (sb false)) rfl (AWops.nil (AW.seq (AW.seq (AW.region (s_move (d := (si x33)) rfl (AWops.nil (AW.block (AW.seq (AW.region (s_binI (v := (.bool (x33 == 0))) rfl rfl rfl (s_assign (d := (sb (x33 == 0))) rfl (AWops.nil ?_)))))))))))))
            rcases itH h with ⟨c65, h⟩ | ⟨c65, h⟩
            ·refine AW.cond_yes rfl c65 (AW.seq (AW.region ?_))
             refine s_move (d := (sb false)) rfl (s_move (d := (sb false)) rfl ?_)
             refine AWops.guard_no rfl (nl rfl) rfl rfl ?_
             refine s_pick_no (d := (sb false)) rfl rfl rfl (s_assign (d := (sb false)) rfl (AWops.nil (AW.ret ?_)))
             obtain rfl := Option.some.inj h
             exact ⟨_, rfl, (wg 0 [] [] rfl (le_upd (le_top _) (o1 .sc)) an)⟩
            ·refine AW.cond_no rfl c65 (AW.seq (AW.region ?_))
             refine s_binI (v := (.bool (x33 == 70))) rfl rfl rfl (s_assign (d := (sb (x33 == 70))) rfl (AWops.nil ?_))
             rcases itH h with ⟨c66, h⟩ | ⟨c66, h⟩
             ·refine AW.cond_yes rfl c66 (AW.seq (AW.region ?_))
              refine s_move (d := (sb r49)) rfl (s_move (d := (sb r49)) rfl ?_)
              rcases itH h with ⟨c67, h⟩ | ⟨c67, h⟩
              ·refine AWops.guard_no rfl (nl rfl) rfl c67 ?_
               refine s_pick_yes (d := (sb true)) rfl c67 rfl (s_move (d := (sb true)) rfl ?_)
               refine AWops.guard_yes rfl (nl rfl) rfl rfl ?_
               obtain ⟨r68, er68, h⟩ := bnd h
               refine cc [] [(o_vdisk_Disk_03 true (C.mp 3) np r41.2.2), (some (AObj.cells true (rowC (e_sl e_u8) r18.1))), (some (AObj.cells true (rowC (e_sl e_u8) x30))), (om_ e_vdisk_file r41.2.2.files), none, none, (ow_ e_u8 r45), (some (AObj.cells true (rowC (e_sl e_u8) r48))), (ow_ e_u8 r50)] (sb r68) F.ca_13 rfl rfl an an (dossierlaw04_awake.meets _  r68 er68) (s_pick_yes (d := (sb r68)) rfl rfl rfl (s_assign (d := (sb r68)) rfl (AWops.nil (AW.ret ?_))))
               obtain rfl := Option.some.inj h
               exact ⟨_, rfl, (wg 0 [] [] rfl (le_upd (le_top _) (o1 .sc)) an)⟩
              ·refine AWops.guard_yes rfl (nl rfl) rfl c67 ?_
               refine s_move (d := (sb false)) rfl (s_pick_no (d := (sb false)) rfl c67 rfl (s_move (d := (sb false)) rfl ?_))
               refine AWops.guard_no rfl (nl rfl) rfl rfl ?_
               refine s_pick_no (d := (sb false)) rfl rfl rfl (s_assign (d := (sb false)) rfl (AWops.nil (AW.ret ?_)))
               obtain rfl := Option.some.inj h
               exact ⟨_, rfl, (wg 0 [] [] rfl (le_upd (le_top _) (o1 .sc)) an)⟩
             ·refine AW.cond_no rfl c66 (AW.skip (AW.seq (AW.region ?_)))
              refine s_move (d := (sb r49)) rfl (s_move (d := (sb r49)) rfl ?_)
              rcases itH h with ⟨c69, h⟩ | ⟨c69, h⟩
              ·refine AWops.guard_yes rfl (nl rfl) rfl c69 ?_
               obtain ⟨r70, er70, h⟩ := bnd h
               refine cc [] [(o_vdisk_Disk_03 true (C.mp 3) np r41.2.2), (some (AObj.cells true (rowC (e_sl e_u8) r18.1))), (some (AObj.cells true (rowC (e_sl e_u8) x30))), (om_ e_vdisk_file r41.2.2.files), none, none, (ow_ e_u8 r45), (some (AObj.cells true (rowC (e_sl e_u8) r48))), (ow_ e_u8 r50)] (sb r70) F.ca_13 rfl rfl an an (dossierlaw04_awake.meets _  r70 er70) (s_pick_yes (d := (sb r70)) rfl c69 rfl (s_assign (d := (sb r70)) rfl (AWops.nil (AW.ret ?_))))
               obtain rfl := Option.some.inj h
               exact ⟨_, rfl, (wg 0 [] [] rfl (le_upd (le_top _) (o1 .sc)) an)⟩
              ·refine AWops.guard_no rfl (nl rfl) rfl c69 ?_
               refine s_pick_no (d := (sb false)) rfl c69 rfl (s_assign (d := (sb false)) rfl (AWops.nil (AW.ret ?_)))
               obtain rfl := Option.some.inj h
               exact ⟨_, rfl, (wg 0 [] [] rfl (le_upd (le_top _) (o1 .sc)) an)⟩
          ·iterate 4 refine AWops.guard_no rfl (nl rfl) rfl c47 ?_
           refine s_pick_no (d := (sb false)) rfl c47 rfl (s_assign (d := (sb false)) rfl (AWops.nil (AW.seq (AW.region (s_move (d := (sc (.pointer none))) rfl ?_)))))
           obtain ⟨r71, er71, h⟩ := bnd h
           refine cc [] [(o_vdisk_Disk_03 true (C.mp 3) np r41.2.2), (some (AObj.cells true (rowC (e_sl e_u8) r18.1))), (some (AObj.cells true (rowC (e_sl e_u8) x30))), (om_ e_vdisk_file r41.2.2.files), none, none, (ow_ e_u8 r45), (ow_ e_u8 r71)] (D.one (C.own 7 0 r71.length 1)) F.ca_9 rfl rfl (ac (.one .sc) an) an (journal_Journal_Snapshot_nil0.meets _  r71 er71) (s_move (d := (ds_ e_u8 x34)) rfl ?_)
           obtain ⟨r72, er72, h⟩ := bnd h
           refine s_call2 (ρ := []) (br := true) (H2 := [(o_vdisk_Disk_03 true (C.mp 3) np r41.2.2), (some (AObj.cells true (rowC (e_sl e_u8) r18.1))), (some (AObj.cells true (rowC (e_sl e_u8) x30))), (om_ e_vdisk_file r41.2.2.files), none, none, (ow_ e_u8 r45), (ow_ e_u8 r71)]) (d := (sb r72)) F.ca_17 rfl rfl (ac (.one (LendC.bor e_u8_len rfl rfl rfl)) (ac (.one .imm) an)) an (by decide) rfl (bytes_Equal.meets _ r71 x34 r72 er72) (.inr ⟨rfl, rfl⟩) rfl rfl (s_move (d := (sb r72)) rfl ?_)
           rcases itH h with ⟨c73, h⟩ | ⟨c73, h⟩
           ·refine AWops.guard_yes rfl (nl rfl) rfl c73 ?_
            refine s_move (d := (sc (.pointer none))) rfl ?_
            refine AWops.guard_yes rfl (nl rfl) rfl c73 ?_
            obtain ⟨r74, er74, h⟩ := bnd h
            refine cc [] [(o_vdisk_Disk_03 true (C.mp 3) np r41.2.2), (some (AObj.cells true (rowC (e_sl e_u8) r18.1))), (some (AObj.cells true (rowC (e_sl e_u8) x30))), (om_ e_vdisk_file r41.2.2.files), none, none, (ow_ e_u8 r45), (ow_ e_u8 r71), (some (AObj.cells true (rowC (e_sl e_u8) r74)))] (D.one (C.own 8 0 r74.length 1)) F.ca_10 rfl rfl (ac (.one .sc) an) an (journal_Journal_Records_nil0.meets _  r74 er74) ?_
            refine AWops.guard_yes rfl (nl rfl) rfl c73 ?_
            refine s_move (d := (D.one (C.own 2 0 x30.length 1))) rfl ?_
            refine AWops.guard_yes rfl (nl rfl) rfl c73 ?_
            obtain ⟨r75, er75, h⟩ := bnd h
            refine s_call2 (ρ := []) (br := true) (H2 := [(o_vdisk_Disk_03 true (C.mp 3) np r41.2.2), (some (AObj.cells true (rowC (e_sl e_u8) r18.1))), (some (AObj.cells true (rowC (e_sl e_u8) x30))), (om_ e_vdisk_file r41.2.2.files), none, none, (ow_ e_u8 r45), (ow_ e_u8 r71), (some (AObj.cells true (rowC (e_sl e_u8) r74)))]) (d := (sb r75)) F.ca_18 rfl rfl (ac (.one (LendC.bor (e_sl_len _) rfl rfl rfl)) (ac (.one (LendC.bor (e_sl_len _) rfl rfl rfl)) an)) an (by decide) rfl (dossierplain_SameTexts.meets _ r74 x30 r75 er75) (.inr ⟨rfl, rfl⟩) rfl rfl (s_pick_yes (d := (sb r75)) rfl c73 rfl (s_assign (d := (sb r75)) rfl (AWops.nil (AW.seq (AW.seq (AW.region (s_move (d := (si x33)) rfl (AWops.nil (AW.block (AW.seq (AW.region (s_binI (v := (.bool (x33 == 0))) rfl rfl rfl (s_assign (d := (sb (x33 == 0))) rfl (AWops.nil ?_))))))))))))))
            rcases itH h with ⟨c76, h⟩ | ⟨c76, h⟩
            ·refine AW.cond_yes rfl c76 (AW.seq (AW.region ?_))
             refine s_move (d := (sb r75)) rfl (s_move (d := (sb r75)) rfl ?_)
             rcases itH h with ⟨c77, h⟩ | ⟨c77, h⟩
             ·refine AWops.guard_yes rfl (nl rfl) rfl c77 ?_
              obtain ⟨r78, er78, h⟩ := bnd h
              refine cc [] [(o_vdisk_Disk_03 true (C.mp 3) np r41.2.2), (some (AObj.cells true (rowC (e_sl e_u8) r18.1))), (some (AObj.cells true (rowC (e_sl e_u8) x30))), (om_ e_vdisk_file r41.2.2.files), none, none, (ow_ e_u8 r45), (ow_ e_u8 r71), (some (AObj.cells true (rowC (e_sl e_u8) r74)))] (sb r78) F.ca_13 rfl rfl an an (dossierlaw04_awake.meets _  r78 er78) (s_pick_yes (d := (sb r78)) rfl c77 rfl (s_assign (d := (sb r78)) rfl (AWops.nil (AW.ret ?_))))
              obtain rfl := Option.some.inj h
              exact ⟨_, rfl, (wg 0 [] [] rfl (le_upd (le_top _) (o1 .sc)) an)⟩
             ·refine AWops.guard_no rfl (nl rfl) rfl c77 ?_
              refine s_pick_no (d := (sb false)) rfl c77 rfl (s_assign (d := (sb false)) rfl (AWops.nil (AW.ret ?_)))
              obtain rfl := Option.some.inj h
              exact ⟨_, rfl, (wg 0 [] [] rfl (le_upd (le_top _) (o1 .sc)) an)⟩
            ·refine AW.cond_no rfl c76 (AW.seq (AW.region ?_))
             refine s_binI (v := (.bool (x33 == 70))) rfl rfl rfl (s_assign (d := (sb (x33 == 70))) rfl (AWops.nil ?_))
             rcases itH h with ⟨c79, h⟩ | ⟨c79, h⟩
             ·refine AW.cond_yes rfl c79 (AW.seq (AW.region ?_))
              refine s_move (d := (sb false)) rfl (s_move (d := (sb false)) rfl ?_)
              refine AWops.guard_yes rfl (nl rfl) rfl rfl ?_
              refine s_move (d := (sb r75)) rfl (s_pick_no (d := (sb r75)) rfl rfl rfl (s_move (d := (sb r75)) rfl ?_))
              rcases itH h with ⟨c80, h⟩ | ⟨c80, h⟩
              ·refine AWops.guard_yes rfl (nl rfl) rfl c80 ?_
               obtain ⟨r81, er81, h⟩ := bnd h
               refine cc [] [(o_vdisk_Disk_03 true (C.mp 3) np r41.2.2), (some (AObj.cells true (rowC (e_sl e_u8) r18.1))), (some (AObj.cells true (rowC (e_sl e_u8) x30))), (om_ e_vdisk_file r41.2.2.files), none, none, (ow_ e_u8 r45), (ow_ e_u8 r71), (some (AObj.cells true (rowC (e_sl e_u8) r74)))] (sb r81) F.ca_13 rfl rfl an an (dossierlaw04_awake.meets _  r81 er81) (s_pick_yes (d := (sb r81)) rfl c80 rfl (s_assign (d := (sb r81)) rfl (AWops.nil (AW.ret ?_))))
               obtain rfl := Option.some.inj h
               exact ⟨_, rfl, (wg 0 [] [] rfl (le_upd (le_top _) (o1 .sc)) an)⟩
              ·refine AWops.guard_no rfl (nl rfl) rfl c80 ?_
               refine s_pick_no (d := (sb false)) rfl c80 rfl (s_assign (d := (sb false)) rfl (AWops.nil (AW.ret ?_)))
               obtain rfl := Option.some.inj h
               exact ⟨_, rfl, (wg 0 [] [] rfl (le_upd (le_top _) (o1 .sc)) an)⟩
             ·refine AW.cond_no rfl c79 (AW.skip (AW.seq (AW.region ?_)))
              refine s_move (d := (sb false)) rfl (s_move (d := (sb false)) rfl ?_)
              refine AWops.guard_no rfl (nl rfl) rfl rfl ?_
              refine s_pick_no (d := (sb false)) rfl rfl rfl (s_assign (d := (sb false)) rfl (AWops.nil (AW.ret ?_)))
              obtain rfl := Option.some.inj h
              exact ⟨_, rfl, (wg 0 [] [] rfl (le_upd (le_top _) (o1 .sc)) an)⟩
           ·iterate 4 refine AWops.guard_no rfl (nl rfl) rfl c73 ?_
            refine s_pick_no (d := (sb false)) rfl c73 rfl (s_assign (d := (sb false)) rfl (AWops.nil (AW.seq (AW.seq (AW.region (s_move (d := (si x33)) rfl (AWops.nil (AW.block (AW.seq (AW.region (s_binI (v := (.bool (x33 == 0))) rfl rfl rfl (s_assign (d := (sb (x33 == 0))) rfl (AWops.nil ?_)))))))))))))
            rcases itH h with ⟨c82, h⟩ | ⟨c82, h⟩
            ·refine AW.cond_yes rfl c82 (AW.seq (AW.region ?_))
             refine s_move (d := (sb false)) rfl (s_move (d := (sb false)) rfl ?_)
             refine AWops.guard_no rfl (nl rfl) rfl rfl ?_
             refine s_pick_no (d := (sb false)) rfl rfl rfl (s_assign (d := (sb false)) rfl (AWops.nil (AW.ret ?_)))
             obtain rfl := Option.some.inj h
             exact ⟨_, rfl, (wg 0 [] [] rfl (le_upd (le_top _) (o1 .sc)) an)⟩
            ·refine AW.cond_no rfl c82 (AW.seq (AW.region ?_))
             refine s_binI (v := (.bool (x33 == 70))) rfl rfl rfl (s_assign (d := (sb (x33 == 70))) rfl (AWops.nil ?_))
             rcases itH h with ⟨c83, h⟩ | ⟨c83, h⟩
             ·refine AW.cond_yes rfl c83 (AW.seq (AW.region ?_))
              refine s_move (d := (sb false)) rfl (s_move (d := (sb false)) rfl ?_)
              refine AWops.guard_yes rfl (nl rfl) rfl rfl ?_
              refine s_move (d := (sb false)) rfl (s_pick_no (d := (sb false)) rfl rfl rfl (s_move (d := (sb false)) rfl ?_))
              refine AWops.guard_no rfl (nl rfl) rfl rfl ?_
              refine s_pick_no (d := (sb false)) rfl rfl rfl (s_assign (d := (sb false)) rfl (AWops.nil (AW.ret ?_)))
              obtain rfl := Option.some.inj h
              exact ⟨_, rfl, (wg 0 [] [] rfl (le_upd (le_top _) (o1 .sc)) an)⟩
             ·refine AW.cond_no rfl c83 (AW.skip (AW.seq (AW.region ?_)))
              refine s_move (d := (sb false)) rfl (s_move (d := (sb false)) rfl ?_)
              refine AWops.guard_no rfl (nl rfl) rfl rfl ?_
              refine s_pick_no (d := (sb false)) rfl rfl rfl (s_assign (d := (sb false)) rfl (AWops.nil (AW.ret ?_)))
              obtain rfl := Option.some.inj h
              exact ⟨_, rfl, (wg 0 [] [] rfl (le_upd (le_top _) (o1 .sc)) an)⟩
        ·refine cc [0, 3] [(o_vdisk_Disk_03 true (C.mp 3) np r41.2.2), (some (AObj.cells true (rowC (e_sl e_u8) r18.1))), (some (AObj.cells true (rowC (e_sl e_u8) x30))), (om_ e_vdisk_file r41.2.2.files), none, none, (o_journal_Journal_0 true (C.ref 0 0) y43)] (D.tup [(rf 6 0), (si r41.2.1)]) F.ca_12 rfl rfl (ac (.one (.ref rfl)) (ac (.one .nil) an)) (ac (.cells (ac (.mp rfl) (ac .sc (ac .sc (ac .sc (ac .sc an)))))) (ac .map an)) (Meets.eqs (optE_some c42) (optE_some c42) (journal_Open_12.meets _ r40.2 ([] : List Int) r41 er41)) (s_move (d := (D.tup [(rf 6 0), (si r41.2.1)])) rfl (s_extract (d := (rf 6 0)) rfl rfl (s_extract (d := (si r41.2.1)) rfl rfl (s_assign (d := (rf 6 0)) rfl (s_assign (d := (si r41.2.1)) rfl (AWops.nil (AW.seq (AW.seq (AW.region ?_)))))))))
         refine s_move (d := (si r41.2.1)) rfl (s_binI (v := (.bool (r41.2.1 != 0))) rfl rfl rfl (AWops.nil ?_))
         rcases itH h with ⟨c84, h⟩ | ⟨c84, h⟩
         ·refine AW.cond_yes rfl c84 (AW.seq (AW.region ?_))
          refine s_assign (d := (sb false)) rfl (AWops.nil (AW.ret ?_))
          obtain rfl := Option.some.inj h
          exact ⟨_, rfl, (wg 0 [] [] rfl (le_upd (le_top _) (o1 .sc)) an)⟩
         ·refine AW.cond_no rfl c84 (AW.skip (AW.seq (AW.region ?_)))
          refine s_move (d := (rf 6 0)) rfl ?_
          obtain ⟨r85, er85, h⟩ := bnd h
          refine cc [6, 0, 3] [(o_vdisk_Disk_03 true (C.mp 3) np r41.2.2), (some (AObj.cells true (rowC (e_sl e_u8) r18.1))), (some (AObj.cells true (rowC (e_sl e_u8) x30))), (om_ e_vdisk_file r41.2.2.files), none, none, (o_journal_Journal_0 true (C.ref 0 0) r85.2), (ow_ e_u8 r85.1)] (D.one (C.own 7 0 r85.1.length 1)) F.ca_9 rfl rfl (ac (.one (.ref rfl)) an) (ac (.cells (ac (.ref rfl) (ac .imm (ac .imm (ac .sc an))))) (ac (.cells (ac (.mp rfl) (ac .sc (ac .sc (ac .sc (ac .sc an)))))) (ac .map an))) (journal_Journal_Snapshot.meets _ (⟨(), y43.snap, y43.l, y43.stopped⟩ : journal_Journal) r41.2.2 r85 er85) (s_move (d := (ds_ e_u8 r19.1)) rfl ?_)
          obtain ⟨r86, er86, h⟩ := bnd h
          refine s_call2 (ρ := []) (br := true) (H2 := [(o_vdisk_Disk_03 true (C.mp 3) np r41.2.2), (some (AObj.cells true (rowC (e_sl e_u8) r18.1))), (some (AObj.cells true (rowC (e_sl e_u8) x30))), (om_ e_vdisk_file r41.2.2.files), none, none, (o_journal_Journal_0 true (C.ref 0 0) r85.2), (ow_ e_u8 r85.1)]) (d := (sb r86)) F.ca_17 rfl rfl (ac (.one (LendC.bor e_u8_len rfl rfl rfl)) (ac (.one .imm) an)) an (by decide) rfl (bytes_Equal.meets _ r85.1 r19.1 r86 er86) (.inr ⟨rfl, rfl⟩) rfl rfl (s_move (d := (sb r86)) rfl ?_)
          rcases itH h with ⟨c87, h⟩ | ⟨c87, h⟩
          ·refine AWops.guard_yes rfl (nl rfl) rfl c87 ?_
           refine s_move (d := (rf 6 0)) rfl ?_
           refine AWops.guard_yes rfl (nl rfl) rfl c87 ?_
           obtain ⟨r88, er88, h⟩ := bnd h
           refine cc [6, 0, 3] [(o_vdisk_Disk_03 true (C.mp 3) np r41.2.2), (some (AObj.cells true (rowC (e_sl e_u8) r18.1))), (some (AObj.cells true (rowC (e_sl e_u8) x30))), (om_ e_vdisk_file r41.2.2.files), none, none, (o_journal_Journal_0 true (C.ref 0 0) r88.2), (ow_ e_u8 r85.1), (some (AObj.cells true (rowC (e_sl e_u8) r88.1)))] (D.one (C.own 8 0 r88.1.length 1)) F.ca_10 rfl rfl (ac (.one (.ref rfl)) an) (ac (.cells (ac (.ref rfl) (ac .imm (ac .imm (ac .sc an))))) (ac (.cells (ac (.mp rfl) (ac .sc (ac .sc (ac .sc (ac .sc an)))))) (ac .map an))) (journal_Journal_Records.meets _ (⟨(), r85.2.snap, r85.2.l, r85.2.stopped⟩ : journal_Journal) r41.2.2 r88 er88) ?_
           refine AWops.guard_yes rfl (nl rfl) rfl c87 ?_
           refine s_move (d := (D.one (C.own 1 0 r18.1.length 1))) rfl ?_
           refine AWops.guard_yes rfl (nl rfl) rfl c87 ?_
           obtain ⟨r89, er89, h⟩ := bnd h
           refine s_call2 (ρ := []) (br := true) (H2 := [(o_vdisk_Disk_03 true (C.mp 3) np r41.2.2), (some (AObj.cells true (rowC (e_sl e_u8) r18.1))), (some (AObj.cells true (rowC (e_sl e_u8) x30))), (om_ e_vdisk_file r41.2.2.files), none, none, (o_journal_Journal_0 true (C.ref 0 0) r88.2), (ow_ e_u8 r85.1), (some (AObj.cells true (rowC (e_sl e_u8) r88.1)))]) (d := (sb r89)) F.ca_18 rfl rfl (ac (.one (LendC.bor (e_sl_len _) rfl rfl rfl)) (ac (.one (LendC.bor (e_sl_len _) rfl rfl rfl)) an)) an (by decide) rfl (dossierplain_SameTexts.meets _ r88.1 r18.1 r89 er89) (.inr ⟨rfl, rfl⟩) rfl rfl (s_pick_yes (d := (sb r89)) rfl c87 rfl (s_assign (d := (sb r89)) rfl (AWops.nil (AW.seq (AW.region (s_move (d := (rf 6 0)) rfl ?_))))))
           obtain ⟨r90, er90, h⟩ := bnd h
           refine cc [6, 0, 3] [(o_vdisk_Disk_03 true (C.mp 3) np r41.2.2), (some (AObj.cells true (rowC (e_sl e_u8) r18.1))), (some (AObj.cells true (rowC (e_sl e_u8) x30))), (om_ e_vdisk_file r41.2.2.files), none, none, (o_journal_Journal_0 true (C.ref 0 0) r90.2), (ow_ e_u8 r85.1), (some (AObj.cells true (rowC (e_sl e_u8) r88.1))), (ow_ e_u8 r90.1)] (D.one (C.own 9 0 r90.1.length 1)) F.ca_9 rfl rfl (ac (.one (.ref rfl)) an) (ac (.cells (ac (.ref rfl) (ac .imm (ac .imm (ac .sc an))))) (ac (.cells (ac (.mp rfl) (ac .sc (ac .sc (ac .sc (ac .sc an)))))) (ac .map an))) (journal_Journal_Snapshot.meets _ (⟨(), r88.2.snap, r88.2.l, r88.2.stopped⟩ : journal_Journal) r41.2.2 r90 er90) (s_move (d := (ds_ e_u8 x34)) rfl ?_)
           obtain ⟨r91, er91, h⟩ := bnd h
           refine s_call2 (ρ := []) (br := true) (H2 := [(o_vdisk_Disk_03 true (C.mp 3) np r41.2.2), (some (AObj.cells true (rowC (e_sl e_u8) r18.1))), (some (AObj.cells true (rowC (e_sl e_u8) x30))), (om_ e_vdisk_file r41.2.2.files), none, none, (o_journal_Journal_0 true (C.ref 0 0) r90.2), (ow_ e_u8 r85.1), (some (AObj.cells true (rowC (e_sl e_u8) r88.1))), (ow_ e_u8 r90.1)]) (d := (sb r91)) F.ca_17 rfl rfl (ac (.one (LendC.bor e_u8_len rfl rfl rfl)) (ac (.one .imm) an)) an (by decide) rfl (bytes_Equal.meets _ r90.1 x34 r91 er91) (.inr ⟨rfl, rfl⟩) rfl rfl (s_move (d := (sb r91)) rfl ?_)
           rcases itH h with ⟨c92, h⟩ | ⟨c92, h⟩
           ·refine AWops.guard_yes rfl (nl rfl) rfl c92 ?_
            refine s_move (d := (rf 6 0)) rfl ?_
            refine AWops.guard_yes rfl (nl rfl) rfl c92 ?_
            obtain ⟨r93, er93, h⟩ := bnd h
            refine cc [6, 0, 3] [(o_vdisk_Disk_03 true (C.mp 3) np r41.2.2), (some (AObj.cells true (rowC (e_sl e_u8) r18.1))), (some (AObj.cells true (rowC (e_sl e_u8) x30))), (om_ e_vdisk_file r41.2.2.files), none, none, (o_journal_Journal_0 true (C.ref 0 0) r93.2), (ow_ e_u8 r85.1), (some (AObj.cells true (rowC (e_sl e_u8) r88.1))), (ow_ e_u8 r90.1), (some (AObj.cells true (rowC (e_sl e_u8) r93.1)))] (D.one (C.own 10 0 r93.1.length 1)) F.ca_10 rfl rfl (ac (.one (.ref rfl)) an) (ac (.cells (ac (.ref rfl) (ac .imm (ac .imm (ac .sc an))))) (ac (.cells (ac (.mp rfl) (ac .sc (ac .sc (ac .sc (ac .sc an)))))) (ac .map an))) (journal_Journal_Records.meets _ (⟨(), r90.2.snap, r90.2.l, r90.2.stopped⟩ : journal_Journal) r41.2.2 r93 er93) ?_
            refine AWops.guard_yes rfl (nl rfl) rfl c92 ?_
            refine s_move (d := (D.one (C.own 2 0 x30.length 1))) rfl ?_
            refine AWops.guard_yes rfl (nl rfl) rfl c92 ?_
            obtain ⟨r94, er94, h⟩ := bnd h
            refine s_call2 (ρ := []) (br := true) (H2 := [(o_vdisk_Disk_03 true (C.mp 3) np r41.2.2), (some (AObj.cells true (rowC (e_sl e_u8) r18.1))), (some (AObj.cells true (rowC (e_sl e_u8) x30))), (om_ e_vdisk_file r41.2.2.files), none, none, (o_journal_Journal_0 true (C.ref 0 0) r93.2), (ow_ e_u8 r85.1), (some (AObj.cells true (rowC (e_sl e_u8) r88.1))), (ow_ e_u8 r90.1), (some (AObj.cells true (rowC (e_sl e_u8) r93.1)))]) (d := (sb r94)) F.ca_18 rfl rfl (ac (.one (LendC.bor (e_sl_len _) rfl rfl rfl)) (ac (.one (LendC.bor (e_sl_len _) rfl rfl rfl)) an)) an (by decide) rfl (dossierplain_SameTexts.meets _ r93.1 x30 r94 er94) (.inr ⟨rfl, rfl⟩) rfl rfl (s_pick_yes (d := (sb r94)) rfl c92 rfl (s_assign (d := (sb r94)) rfl (AWops.nil (AW.seq (AW.seq (AW.region (s_move (d := (si x33)) rfl (AWops.nil (AW.block (AW.seq (AW.region (s_binI (v := (.bool (x33 == 0))) rfl rfl rfl (s_assign (d := (sb (x33 == 0))) rfl (AWops.nil ?_))))))))))))))
            rcases itH h with ⟨c95, h⟩ | ⟨c95, h⟩
            ·refine AW.cond_yes rfl c95 (AW.seq (AW.region ?_))
             refine s_move (d := (sb r94)) rfl (s_move (d := (sb r94)) rfl ?_)
             rcases itH h with ⟨c96, h⟩ | ⟨c96, h⟩
             ·refine AWops.guard_yes rfl (nl rfl) rfl c96 ?_
              obtain ⟨r97, er97, h⟩ := bnd h
              refine cc [] [(o_vdisk_Disk_03 true (C.mp 3) np r41.2.2), (some (AObj.cells true (rowC (e_sl e_u8) r18.1))), (some (AObj.cells true (rowC (e_sl e_u8) x30))), (om_ e_vdisk_file r41.2.2.files), none, none, (o_journal_Journal_0 true (C.ref 0 0) r93.2), (ow_ e_u8 r85.1), (some (AObj.cells true (rowC (e_sl e_u8) r88.1))), (ow_ e_u8 r90.1), (some (AObj.cells true (rowC (e_sl e_u8) r93.1)))] (sb r97) F.ca_13 rfl rfl an an (dossierlaw04_awake.meets _  r97 er97) (s_pick_yes (d := (sb r97)) rfl c96 rfl (s_assign (d := (sb r97)) rfl (AWops.nil (AW.ret ?_))))
              obtain rfl := Option.some.inj h
              exact ⟨_, rfl, (wg 0 [] [] rfl (le_upd (le_top _) (o1 .sc)) an)⟩
             ·refine AWops.guard_no rfl (nl rfl) rfl c96 ?_
              refine s_pick_no (d := (sb false)) rfl c96 rfl (s_assign (d := (sb false)) rfl (AWops.nil (AW.ret ?_)))
              obtain rfl := Option.some.inj h
              exact ⟨_, rfl, (wg 0 [] [] rfl (le_upd (le_top _) (o1 .sc)) an)⟩
            ·refine AW.cond_no rfl c95 (AW.seq (AW.region ?_))
             refine s_binI (v := (.bool (x33 == 70))) rfl rfl rfl (s_assign (d := (sb (x33 == 70))) rfl (AWops.nil ?_))
             rcases itH h with ⟨c98, h⟩ | ⟨c98, h⟩
             ·refine AW.cond_yes rfl c98 (AW.seq (AW.region ?_))
              refine s_move (d := (sb r89)) rfl (s_move (d := (sb r89)) rfl ?_)
              rcases itH h with ⟨c99, h⟩ | ⟨c99, h⟩
              ·refine AWops.guard_no rfl (nl rfl) rfl c99 ?_
               refine s_pick_yes (d := (sb true)) rfl c99 rfl (s_move (d := (sb true)) rfl ?_)
               refine AWops.guard_yes rfl (nl rfl) rfl rfl ?_
               obtain ⟨r100, er100, h⟩ := bnd h
               refine cc [] [(o_vdisk_Disk_03 true (C.mp 3) np r41.2.2), (some (AObj.cells true (rowC (e_sl e_u8) r18.1))), (some (AObj.cells true (rowC (e_sl e_u8) x30))), (om_ e_vdisk_file r41.2.2.files), none, none, (o_journal_Journal_0 true (C.ref 0 0) r93.2), (ow_ e_u8 r85.1), (some (AObj.cells true (rowC (e_sl e_u8) r88.1))), (ow_ e_u8 r90.1), (some (AObj.cells true (rowC (e_sl e_u8) r93.1)))] (sb r100) F.ca_13 rfl rfl an an (dossierlaw04_awake.meets _  r100 er100) (s_pick_yes (d := (sb r100)) rfl rfl rfl (s_assign (d := (sb r100)) rfl (AWops.nil (AW.ret ?_))))
               obtain rfl := Option.some.inj h
               exact ⟨_, rfl, (wg 0 [] [] rfl (le_upd (le_top _) (o1 .sc)) an)⟩
              ·refine AWops.guard_yes rfl (nl rfl) rfl c99 ?_
               refine s_move (d := (sb r94)) rfl (s_pick_no (d := (sb r94)) rfl c99 rfl (s_move (d := (sb r94)) rfl ?_))
               rcases itH h with ⟨c101, h⟩ | ⟨c101, h⟩
               ·refine AWops.guard_yes rfl (nl rfl) rfl c101 ?_
                obtain ⟨r102, er102, h⟩ := bnd h
                refine cc [] [(o_vdisk_Disk_03 true (C.mp 3) np r41.2.2), (some (AObj.cells true (rowC (e_sl e_u8) r18.1))), (some (AObj.cells true (rowC (e_sl e_u8) x30))), (om_ e_vdisk_file r41.2.2.files), none, none, (o_journal_Journal_0 true (C.ref 0 0) r93.2), (ow_ e_u8 r85.1), (some (AObj.cells true (rowC (e_sl e_u8) r88.1))), (ow_ e_u8 r90.1), (some (AObj.cells true (rowC (e_sl e_u8) r93.1)))] (sb r102) F.ca_13 rfl rfl an an (dossierlaw04_awake.meets _  r102 er102) (s_pick_yes (d := (sb r102)) rfl c101 rfl (s_assign (d := (sb r102)) rfl (AWops.nil (AW.ret ?_))))
                obtain rfl := Option.some.inj h
                exact ⟨_, rfl, (wg 0 [] [] rfl (le_upd (le_top _) (o1 .sc)) an)⟩
               ·refine AWops.guard_no rfl (nl rfl) rfl c101 ?_
                refine s_pick_no (d := (sb false)) rfl c101 rfl (s_assign (d := (sb false)) rfl (AWops.nil (AW.ret ?_)))
                obtain rfl := Option.some.inj h
                exact ⟨_, rfl, (wg 0 [] [] rfl (le_upd (le_top _) (o1 .sc)) an)⟩
             ·refine AW.cond_no rfl c98 (AW.skip (AW.seq (AW.region ?_)))
              refine s_move (d := (sb r89)) rfl (s_move (d := (sb r89)) rfl ?_)
              rcases itH h with ⟨c103, h⟩ | ⟨c103, h⟩
              ·refine AWops.guard_yes rfl (nl rfl) rfl c103 ?_
               obtain ⟨r104, er104, h⟩ := bnd h
               refine cc [] [(o_vdisk_Disk_03 true (C.mp 3) np r41.2.2), (some (AObj.cells true (rowC (e_sl e_u8) r18.1))), (some (AObj.cells true (rowC (e_sl e_u8) x30))), (om_ e_vdisk_file r41.2.2.files), none, none, (o_journal_Journal_0 true (C.ref 0 0) r93.2), (ow_ e_u8 r85.1), (some (AObj.cells true (rowC (e_sl e_u8) r88.1))), (ow_ e_u8 r90.1), (some (AObj.cells true (rowC (e_sl e_u8) r93.1)))] (sb r104) F.ca_13 rfl rfl an an (dossierlaw04_awake.meets _  r104 er104) (s_pick_yes (d := (sb r104)) rfl c103 rfl (s_assign (d := (sb r104)) rfl (AWops.nil (AW.ret ?_))))
               obtain rfl := Option.some.inj h
               exact ⟨_, rfl, (wg 0 [] [] rfl (le_upd (le_top _) (o1 .sc)) an)⟩
              ·refine AWops.guard_no rfl (nl rfl) rfl c103 ?_
               refine s_pick_no (d := (sb false)) rfl c103 rfl (s_assign (d := (sb false)) rfl (AWops.nil (AW.ret ?_)))
               obtain rfl := Option.some.inj h
               exact ⟨_, rfl, (wg 0 [] [] rfl (le_upd (le_top _) (o1 .sc)) an)⟩
           ·iterate 4 refine AWops.guard_no rfl (nl rfl) rfl c92 ?_
            refine s_pick_no (d := (sb false)) rfl c92 rfl (s_assign (d := (sb false)) rfl (AWops.nil (AW.seq (AW.seq (AW.region (s_move (d := (si x33)) rfl (AWops.nil (AW.block (AW.seq (AW.region (s_binI (v := (.bool (x33 == 0))) rfl rfl rfl (s_assign (d := (sb (x33 == 0))) rfl (AWops.nil ?_)))))))))))))
            rcases itH h with ⟨c105, h⟩ | ⟨c105, h⟩
            ·refine AW.cond_yes rfl c105 (AW.seq (AW.region ?_))
             refine s_move (d := (sb false)) rfl (s_move (d := (sb false)) rfl ?_)
             refine AWops.guard_no rfl (nl rfl) rfl rfl ?_
             refine s_pick_no (d := (sb false)) rfl rfl rfl (s_assign (d := (sb false)) rfl (AWops.nil (AW.ret ?_)))
             obtain rfl := Option.some.inj h
             exact ⟨_, rfl, (wg 0 [] [] rfl (le_upd (le_top _) (o1 .sc)) an)⟩
            ·refine AW.cond_no rfl c105 (AW.seq (AW.region ?_))
             refine s_binI (v := (.bool (x33 == 70))) rfl rfl rfl (s_assign (d := (sb (x33 == 70))) rfl (AWops.nil ?_))
             rcases itH h with ⟨c106, h⟩ | ⟨c106, h⟩
             ·refine AW.cond_yes rfl c106 (AW.seq (AW.region ?_))
              refine s_move (d := (sb r89)) rfl (s_move (d := (sb r89)) rfl ?_)
              rcases itH h with ⟨c107, h⟩ | ⟨c107, h⟩
              ·refine AWops.guard_no rfl (nl rfl) rfl c107 ?_
               refine s_pick_yes (d := (sb true)) rfl c107 rfl (s_move (d := (sb true)) rfl ?_)
               refine AWops.guard_yes rfl (nl rfl) rfl rfl ?_
               obtain ⟨r108, er108, h⟩ := bnd h
               refine cc [] [(o_vdisk_Disk_03 true (C.mp 3) np r41.2.2), (some (AObj.cells true (rowC (e_sl e_u8) r18.1))), (some (AObj.cells true (rowC (e_sl e_u8) x30))), (om_ e_vdisk_file r41.2.2.files), none, none, (o_journal_Journal_0 true (C.ref 0 0) r90.2), (ow_ e_u8 r85.1), (some (AObj.cells true (rowC (e_sl e_u8) r88.1))), (ow_ e_u8 r90.1)] (sb r108) F.ca_13 rfl rfl an an (dossierlaw04_awake.meets _  r108 er108) (s_pick_yes (d := (sb r108)) rfl rfl rfl (s_assign (d := (sb r108)) rfl (AWops.nil (AW.ret ?_))))
               obtain rfl := Option.some.inj h
               exact ⟨_, rfl, (wg 0 [] [] rfl (le_upd (le_top _) (o1 .sc)) an)⟩
              ·refine AWops.guard_yes rfl (nl rfl) rfl c107 ?_
               refine s_move (d := (sb false)) rfl (s_pick_no (d := (sb false)) rfl c107 rfl (s_move (d := (sb false)) rfl ?_))
               refine AWops.guard_no rfl (nl rfl) rfl rfl ?_
               refine s_pick_no (d := (sb false)) rfl rfl rfl (s_assign (d := (sb false)) rfl (AWops.nil (AW.ret ?_)))
               obtain rfl := Option.some.inj h
               exact ⟨_, rfl, (wg 0 [] [] rfl (le_upd (le_top _) (o1 .sc)) an)⟩
             ·refine AW.cond_no rfl c106 (AW.skip (AW.seq (AW.region ?_)))
              refine s_move (d := (sb r89)) rfl (s_move (d := (sb r89)) rfl ?_)
              rcases itH h with ⟨c109, h⟩ | ⟨c109, h⟩
              ·refine AWops.guard_yes rfl (nl rfl) rfl c109 ?_
               obtain ⟨r110, er110, h⟩ := bnd h
               refine cc [] [(o_vdisk_Disk_03 true (C.mp 3) np r41.2.2), (some (AObj.cells true (rowC (e_sl e_u8) r18.1))), (some (AObj.cells true (rowC (e_sl e_u8) x30))), (om_ e_vdisk_file r41.2.2.files), none, none, (o_journal_Journal_0 true (C.ref 0 0) r90.2), (ow_ e_u8 r85.1), (some (AObj.cells true (rowC (e_sl e_u8) r88.1))), (ow_ e_u8 r90.1)] (sb r110) F.ca_13 rfl rfl an an (dossierlaw04_awake.meets _  r110 er110) (s_pick_yes (d := (sb r110)) rfl c109 rfl (s_assign (d := (sb r110)) rfl (AWops.nil (AW.ret ?_))))
               obtain rfl := Option.some.inj h
               exact ⟨_, rfl, (wg 0 [] [] rfl (le_upd (le_top _) (o1 .sc)) an)⟩
              ·refine AWops.guard_no rfl (nl rfl) rfl c109 ?_
               refine s_pick_no (d := (sb false)) rfl c109 rfl (s_assign (d := (sb false)) rfl (AWops.nil (AW.ret ?_)))
               obtain rfl := Option.some.inj h
               exact ⟨_, rfl, (wg 0 [] [] rfl (le_upd (le_top _) (o1 .sc)) an)⟩
          ·iterate 4 refine AWops.guard_no rfl (nl rfl) rfl c87 ?_
           refine s_pick_no (d := (sb false)) rfl c87 rfl (s_assign (d := (sb false)) rfl (AWops.nil (AW.seq (AW.region (s_move (d := (rf 6 0)) rfl ?_)))))
           obtain ⟨r111, er111, h⟩ := bnd h
           refine cc [6, 0, 3] [(o_vdisk_Disk_03 true (C.mp 3) np r41.2.2), (some (AObj.cells true (rowC (e_sl e_u8) r18.1))), (some (AObj.cells true (rowC (e_sl e_u8) x30))), (om_ e_vdisk_file r41.2.2.files), none, none, (o_journal_Journal_0 true (C.ref 0 0) r111.2), (ow_ e_u8 r85.1), (ow_ e_u8 r111.1)] (D.one (C.own 8 0 r111.1.length 1)) F.ca_9 rfl rfl (ac (.one (.ref rfl)) an) (ac (.cells (ac (.ref rfl) (ac .imm (ac .imm (ac .sc an))))) (ac (.cells (ac (.mp rfl) (ac .sc (ac .sc (ac .sc (ac .sc an)))))) (ac .map an))) (journal_Journal_Snapshot.meets _ (⟨(), r85.2.snap, r85.2.l, r85.2.stopped⟩ : journal_Journal) r41.2.2 r111 er111) (s_move (d := (ds_ e_u8 x34)) rfl ?_)
           obtain ⟨r112, er112, h⟩ := bnd h
           refine s_call2 (ρ := []) (br := true) (H2 := [(o_vdisk_Disk_03 true (C.mp 3) np r41.2.2), (some (AObj.cells true (rowC (e_sl e_u8) r18.1))), (some (AObj.cells true (rowC (e_sl e_u8) x30))), (om_ e_vdisk_file r41.2.2.files), none, none, (o_journal_Journal_0 true (C.ref 0 0) r111.2), (ow_ e_u8 r85.1), (ow_ e_u8 r111.1)]) (d := (sb r112)) F.ca_17 rfl rfl (ac (.one (LendC.bor e_u8_len rfl rfl rfl)) (ac (.one .imm) an)) an (by decide) rfl (bytes_Equal.meets _ r111.1 x34 r112 er112) (.inr ⟨rfl, rfl⟩) rfl rfl (s_move (d := (sb r112)) rfl ?_)
           rcases itH h with ⟨c113, h⟩ | ⟨c113, h⟩
           ·refine AWops.guard_yes rfl (nl rfl) rfl c113 ?_
            refine s_move (d := (rf 6 0)) rfl ?_
            refine AWops.guard_yes rfl (nl rfl) rfl c113 ?_
            obtain ⟨r114, er114, h⟩ := bnd h
            refine cc [6, 0, 3] [(o_vdisk_Disk_03 true (C.mp 3) np r41.2.2), (some (AObj.cells true (rowC (e_sl e_u8) r18.1))), (some (AObj.cells true (rowC (e_sl e_u8) x30))), (om_ e_vdisk_file r41.2.2.files), none, none, (o_journal_Journal_0 true (C.ref 0 0) r114.2), (ow_ e_u8 r85.1), (ow_ e_u8 r111.1), (some (AObj.cells true (rowC (e_sl e_u8) r114.1)))] (D.one (C.own 9 0 r114.1.length 1)) F.ca_10 rfl rfl (ac (.one (.ref rfl)) an) (ac (.cells (ac (.ref rfl) (ac .imm (ac .imm (ac .sc an))))) (ac (.cells (ac (.mp rfl) (ac .sc (ac .sc (ac .sc (ac .sc an)))))) (ac .map an))) (journal_Journal_Records.meets _ (⟨(), r111.2.snap, r111.2.l, r111.2.stopped⟩ : journal_Journal) r41.2.2 r114 er114) ?_
            refine AWops.guard_yes rfl (nl rfl) rfl c113 ?_
            refine s_move (d := (D.one (C.own 2 0 x30.length 1))) rfl ?_
            refine AWops.guard_yes rfl (nl rfl) rfl c113 ?_
            obtain ⟨r115, er115, h⟩ := bnd h
            refine s_call2 (ρ := []) (br := true) (H2 := [(o_vdisk_Disk_03 true (C.mp 3) np r41.2.2), (some (AObj.cells true (rowC (e_sl e_u8) r18.1))), (some (AObj.cells true (rowC (e_sl e_u8) x30))), (om_ e_vdisk_file r41.2.2.files), none, none, (o_journal_Journal_0 true (C.ref 0 0) r114.2), (ow_ e_u8 r85.1), (ow_ e_u8 r111.1), (some (AObj.cells true (rowC (e_sl e_u8) r114.1)))]) (d := (sb r115)) F.ca_18 rfl rfl (ac (.one (LendC.bor (e_sl_len _) rfl rfl rfl)) (ac (.one (LendC.bor (e_sl_len _) rfl rfl rfl)) an)) an (by decide) rfl (dossierplain_SameTexts.meets _ r114.1 x30 r115 er115) (.inr ⟨rfl, rfl⟩) rfl rfl (s_pick_yes (d := (sb r115)) rfl c113 rfl (s_assign (d := (sb r115)) rfl (AWops.nil (AW.seq (AW.seq (AW.region (s_move (d := (si x33)) rfl (AWops.nil (AW.block (AW.seq (AW.region (s_binI (v := (.bool (x33 == 0))) rfl rfl rfl (s_assign (d := (sb (x33 == 0))) rfl (AWops.nil ?_))))))))))))))
            rcases itH h with ⟨c116, h⟩ | ⟨c116, h⟩
            ·refine AW.cond_yes rfl c116 (AW.seq (AW.region ?_))
             refine s_move (d := (sb r115)) rfl (s_move (d := (sb r115)) rfl ?_)
             rcases itH h with ⟨c117, h⟩ | ⟨c117, h⟩
             ·refine AWops.guard_yes rfl (nl rfl) rfl c117 ?_
              obtain ⟨r118, er118, h⟩ := bnd h
              refine cc [] [(o_vdisk_Disk_03 true (C.mp 3) np r41.2.2), (some (AObj.cells true (rowC (e_sl e_u8) r18.1))), (some (AObj.cells true (rowC (e_sl e_u8) x30))), (om_ e_vdisk_file r41.2.2.files), none, none, (o_journal_Journal_0 true (C.ref 0 0) r114.2), (ow_ e_u8 r85.1), (ow_ e_u8 r111.1), (some (AObj.cells true (rowC (e_sl e_u8) r114.1)))] (sb r118) F.ca_13 rfl rfl an an (dossierlaw04_awake.meets _  r118 er118) (s_pick_yes (d := (sb r118)) rfl c117 rfl (s_assign (d := (sb r118)) rfl (AWops.nil (AW.ret ?_))))
              obtain rfl := Option.some.inj h
              exact ⟨_, rfl, (wg 0 [] [] rfl (le_upd (le_top _) (o1 .sc)) an)⟩
             ·refine AWops.guard_no rfl (nl rfl) rfl c117 ?_
              refine s_pick_no (d := (sb false)) rfl c117 rfl (s_assign (d := (sb false)) rfl (AWops.nil (AW.ret ?_)))
              obtain rfl := Option.some.inj h
              exact ⟨_, rfl, (wg 0 [] [] rfl (le_upd (le_top _) (o1 .sc)) an)⟩
            ·refine AW.cond_no rfl c116 (AW.seq (AW.region ?_))
             refine s_binI (v := (.bool (x33 == 70))) rfl rfl rfl (s_assign (d := (sb (x33 == 70))) rfl (AWops.nil ?_))
             rcases itH h with ⟨c119, h⟩ | ⟨c119, h⟩
             ·refine AW.cond_yes rfl c119 (AW.seq (AW.region ?_))
              refine s_move (d := (sb false)) rfl (s_move (d := (sb false)) rfl ?_)
              refine AWops.guard_yes rfl (nl rfl) rfl rfl ?_
              refine s_move (d := (sb r115)) rfl (s_pick_no (d := (sb r115)) rfl rfl rfl (s_move (d := (sb r115)) rfl ?_))
              rcases itH h with ⟨c120, h⟩ | ⟨c120, h⟩
              ·refine AWops.guard_yes rfl (nl rfl) rfl c120 ?_
               obtain ⟨r121, er121, h⟩ := bnd h
               refine cc [] [(o_vdisk_Disk_03 true (C.mp 3) np r41.2.2), (some (AObj.cells true (rowC (e_sl e_u8) r18.1))), (some (AObj.cells true (rowC (e_sl e_u8) x30))), (om_ e_vdisk_file r41.2.2.files), none, none, (o_journal_Journal_0 true (C.ref 0 0) r114.2), (ow_ e_u8 r85.1), (ow_ e_u8 r111.1), (some (AObj.cells true (rowC (e_sl e_u8) r114.1)))] (sb r121) F.ca_13 rfl rfl an an (dossierlaw04_awake.meets _  r121 er121) (s_pick_yes (d := (sb r121)) rfl c120 rfl (s_assign (d := (sb r121)) rfl (AWops.nil (AW.ret ?_))))
               obtain rfl := Option.some.inj h
               exact ⟨_, rfl, (wg 0 [] [] rfl (le_upd (le_top _) (o1 .sc)) an)⟩
              ·refine AWops.guard_no rfl (nl rfl) rfl c120 ?_
               refine s_pick_no (d := (sb false)) rfl c120 rfl (s_assign (d := (sb false)) rfl (AWops.nil (AW.ret ?_)))
               obtain rfl := Option.some.inj h
               exact ⟨_, rfl, (wg 0 [] [] rfl (le_upd (le_top _) (o1 .sc)) an)⟩
             ·refine AW.cond_no rfl c119 (AW.skip (AW.seq (AW.region ?_)))
              refine s_move (d := (sb false)) rfl (s_move (d := (sb false)) rfl ?_)
              refine AWops.guard_no rfl (nl rfl) rfl rfl ?_
              refine s_pick_no (d := (sb false)) rfl rfl rfl (s_assign (d := (sb false)) rfl (AWops.nil (AW.ret ?_)))
              obtain rfl := Option.some.inj h
              exact ⟨_, rfl, (wg 0 [] [] rfl (le_upd (le_top _) (o1 .sc)) an)⟩
           ·iterate 4 refine AWops.guard_no rfl (nl rfl) rfl c113 ?_
            refine s_pick_no (d := (sb false)) rfl c113 rfl (s_assign (d := (sb false)) rfl (AWops.nil (AW.seq (AW.seq (AW.region (s_move (d := (si x33)) rfl (AWops.nil (AW.block (AW.seq (AW.region (s_binI (v := (.bool (x33 == 0))) rfl rfl rfl (s_assign (d := (sb (x33 == 0))) rfl (AWops.nil ?_)))))))))))))
            rcases itH h with ⟨c122, h⟩ | ⟨c122, h⟩
            ·refine AW.cond_yes rfl c122 (AW.seq (AW.region ?_))
             refine s_move (d := (sb false)) rfl (s_move (d := (sb false)) rfl ?_)
             refine AWops.guard_no rfl (nl rfl) rfl rfl ?_
             refine s_pick_no (d := (sb false)) rfl rfl rfl (s_assign (d := (sb false)) rfl (AWops.nil (AW.ret ?_)))
             obtain rfl := Option.some.inj h
             exact ⟨_, rfl, (wg 0 [] [] rfl (le_upd (le_top _) (o1 .sc)) an)⟩
            ·refine AW.cond_no rfl c122 (AW.seq (AW.region ?_))
             refine s_binI (v := (.bool (x33 == 70))) rfl rfl rfl (s_assign (d := (sb (x33 == 70))) rfl (AWops.nil ?_))
             rcases itH h with ⟨c123, h⟩ | ⟨c123, h⟩
             ·refine AW.cond_yes rfl c123 (AW.seq (AW.region ?_))
              refine s_move (d := (sb false)) rfl (s_move (d := (sb false)) rfl ?_)
              refine AWops.guard_yes rfl (nl rfl) rfl rfl ?_
              refine s_move (d := (sb false)) rfl (s_pick_no (d := (sb false)) rfl rfl rfl (s_move (d := (sb false)) rfl ?_))
              refine AWops.guard_no rfl (nl rfl) rfl rfl ?_
              refine s_pick_no (d := (sb false)) rfl rfl rfl (s_assign (d := (sb false)) rfl (AWops.nil (AW.ret ?_)))
              obtain rfl := Option.some.inj h
              exact ⟨_, rfl, (wg 0 [] [] rfl (le_upd (le_top _) (o1 .sc)) an)⟩
             ·refine AW.cond_no rfl c123 (AW.skip (AW.seq (AW.region ?_)))
              refine s_move (d := (sb false)) rfl (s_move (d := (sb false)) rfl ?_)
              refine AWops.guard_no rfl (nl rfl) rfl rfl ?_
              refine s_pick_no (d := (sb false)) rfl rfl rfl (s_assign (d := (sb false)) rfl (AWops.nil (AW.ret ?_)))
              obtain rfl := Option.some.inj h
              exact ⟨_, rfl, (wg 0 [] [] rfl (le_upd (le_top _) (o1 .sc)) an)⟩
       ·refine cc [0, 3, 5] [(o_vdisk_Disk_03 true (C.mp 3) (C.ref 5 0) r37.2.2.1), (some (AObj.cells true (rowC (e_sl e_u8) r18.1))), (some (AObj.cells true (rowC (e_sl e_u8) x30))), (om_ e_vdisk_file r37.2.2.1.files), none, (bx r37.2.2.2), (o_journal_Journal_0 true (C.ref 0 0) y39)] (D.tup [(rf 6 0), (si r37.2.1)]) F.ca_12 rfl rfl (ac (.one (.ref rfl)) (ac (.one .nil) an)) (ac (.cells (ac (.mp rfl) (ac .sc (ac .sc (ac (.ref rfl) (ac .sc an)))))) (ac .map (ac (.cells (ac .sc an)) an))) (Meets.eqs (optE_some c38) (optE_some c38) (journal_Open.meets _ r36.2.1 ([] : List Int) r36.2.2 r37 er37)) (AWops.nil (AW.seq (AW.region ?_)))
        refine s_move (d := (rf 0 0)) rfl (s_move (d := (ds_ e_i64 a6)) rfl ?_)
        obtain ⟨r124, er124, h⟩ := bnd h
        refine cc [0, 3, 5] [(o_vdisk_Disk_03 true (C.mp 3) np r124.2), (some (AObj.cells true (rowC (e_sl e_u8) r18.1))), (some (AObj.cells true (rowC (e_sl e_u8) x30))), (om_ e_vdisk_file r124.2.files), none, none, (o_journal_Journal_0 true (C.ref 0 0) y39)] (si r124.1) F.ca_16 rfl rfl (ac (.one (.ref rfl)) (ac (.one .imm) an)) (ac (.cells (ac (.mp rfl) (ac .sc (ac .sc (ac (.ref rfl) (ac .sc an)))))) (ac .map (ac (.cells (ac .sc an)) an))) (vdisk_Disk_Crash_16.meets _ r37.2.2.1 r37.2.2.2 a6 r124 er124) (AWops.nil (AW.seq (AW.region ?_)))
        refine s_move (d := (rf 0 0)) rfl ?_
        obtain ⟨r125, er125, h⟩ := bnd h
        rcases optH h with ⟨c126, h⟩ | ⟨y127, c126, h⟩
        ·refine cc [0, 3] [(o_vdisk_Disk_03 true (C.mp 3) np r125.2.2), (some (AObj.cells true (rowC (e_sl e_u8) r18.1))), (some (AObj.cells true (rowC (e_sl e_u8) x30))), (om_ e_vdisk_file r125.2.2.files), none, none, (o_journal_Journal_0 true (C.ref 0 0) y39)] (D.tup [(sc (.pointer none)), (si r125.2.1)]) F.ca_12 rfl rfl (ac (.one (.ref rfl)) (ac (.one .nil) an)) (ac (.cells (ac (.mp rfl) (ac .sc (ac .sc (ac .sc (ac .sc an)))))) (ac .map an)) (Meets.eqs (optE_none c126) (optE_none c126) (journal_Open_12.meets _ r124.2 ([] : List Int) r125 er125)) (s_move (d := (D.tup [(sc (.pointer none)), (si r125.2.1)])) rfl (s_extract (d := (sc (.pointer none))) rfl rfl (s_extract (d := (si r125.2.1)) rfl rfl (s_assign (d := (sc (.pointer none))) rfl (s_assign (d := (si r125.2.1)) rfl (AWops.nil (AW.seq (AW.seq (AW.region ?_)))))))))
         refine s_move (d := (si r125.2.1)) rfl (s_binI (v := (.bool (r125.2.1 != 0))) rfl rfl rfl (AWops.nil ?_))
         rcases itH h with ⟨c128, h⟩ | ⟨c128, h⟩
         ·refine AW.cond_yes rfl c128 (AW.seq (AW.region ?_))
          refine s_assign (d := (sb false)) rfl (AWops.nil (AW.ret ?_))
          obtain rfl := Option.some.inj h
          exact ⟨_, rfl, (wg 0 [] [] rfl (le_upd (le_top _) (o1 .sc)) an)⟩
         ·refine AW.cond_no rfl c128 (AW.skip (AW.seq (AW.region ?_)))
          refine s_move (d := (sc (.pointer none))) rfl ?_
          obtain ⟨r129, er129, h⟩ := bnd h
          refine cc [] [(o_vdisk_Disk_03 true (C.mp 3) np r125.2.2), (some (AObj.cells true (rowC (e_sl e_u8) r18.1))), (some (AObj.cells true (rowC (e_sl e_u8) x30))), (om_ e_vdisk_file r125.2.2.files), none, none, (o_journal_Journal_0 true (C.ref 0 0) y39), (ow_ e_u8 r129)] (D.one (C.own 7 0 r129.length 1)) F.ca_9 rfl rfl (ac (.one .sc) an) an (journal_Journal_Snapshot_nil0.meets _  r129 er129) (s_move (d := (ds_ e_u8 r19.1)) rfl ?_)
          obtain ⟨r130, er130, h⟩ := bnd h
          refine s_call2 (ρ := []) (br := true) (H2 := [(o_vdisk_Disk_03 true (C.mp 3) np r125.2.2), (some (AObj.cells true (rowC (e_sl e_u8) r18.1))), (some (AObj.cells true (rowC (e_sl e_u8) x30))), (om_ e_vdisk_file r125.2.2.files), none, none, (o_journal_Journal_0 true (C.ref 0 0) y39), (ow_ e_u8 r129)]) (d := (sb r130)) F.ca_17 rfl rfl (ac (.one (LendC.bor e_u8_len rfl rfl rfl)) (ac (.one .imm) an)) an (by decide) rfl (bytes_Equal.meets _ r129 r19.1 r130 er130) (.inr ⟨rfl, rfl⟩) rfl rfl (s_move (d := (sb r130)) rfl ?_)
          rcases itH h with ⟨c131, h⟩ | ⟨c131, h⟩
          ·refine AWops.guard_yes rfl (nl rfl) rfl c131 ?_
           refine s_move (d := (sc (.pointer none))) rfl ?_
           refine AWops.guard_yes rfl (nl rfl) rfl c131 ?_
           obtain ⟨r132, er132, h⟩ := bnd h
           refine cc [] [(o_vdisk_Disk_03 true (C.mp 3) np r125.2.2), (some (AObj.cells true (rowC (e_sl e_u8) r18.1))), (some (AObj.cells true (rowC (e_sl e_u8) x30))), (om_ e_vdisk_file r125.2.2.files), none, none, (o_journal_Journal_0 true (C.ref 0 0) y39), (ow_ e_u8 r129), (some (AObj.cells true (rowC (e_sl e_u8) r132)))] (D.one (C.own 8 0 r132.length 1)) F.ca_10 rfl rfl (ac (.one .sc) an) an (journal_Journal_Records_nil0.meets _  r132 er132) ?_
           refine AWops.guard_yes rfl (nl rfl) rfl c131 ?_
           refine s_move (d := (D.one (C.own 1 0 r18.1.length 1))) rfl ?_
           refine AWops.guard_yes rfl (nl rfl) rfl c131 ?_
           obtain ⟨r133, er133, h⟩ := bnd h
           refine s_call2 (ρ := []) (br := true) (H2 := [(o_vdisk_Disk_03 true (C.mp 3) np r125.2.2), (some (AObj.cells true (rowC (e_sl e_u8) r18.1))), (some (AObj.cells true (rowC (e_sl e_u8) x30))), (om_ e_vdisk_file r125.2.2.files), none, none, (o_journal_Journal_0 true (C.ref 0 0) y39), (ow_ e_u8 r129), (some (AObj.cells true (rowC (e_sl e_u8) r132)))]) (d := (sb r133)) F.ca_18 rfl rfl (ac (.one (LendC.bor (e_sl_len _) rfl rfl rfl)) (ac (.one (LendC.bor (e_sl_len _) rfl rfl rfl)) an)) an (by decide) rfl (dossierplain_SameTexts.meets _ r132 r18.1 r133 er133) (.inr ⟨rfl, rfl⟩) rfl rfl (s_pick_yes (d := (sb r133)) rfl c131 rfl (s_assign (d := (sb r133)) rfl (AWops.nil (AW.seq (AW.region (s_move (d := (sc (.pointer none))) rfl ?_))))))
           obtain ⟨r134, er134, h⟩ := bnd h
           refine cc [] [(o_vdisk_Disk_03 true (C.mp 3) np r125.2.2), (some (AObj.cells true (rowC (e_sl e_u8) r18.1))), (some (AObj.cells true (rowC (e_sl e_u8) x30))), (om_ e_vdisk_file r125.2.2.files), none, none, (o_journal_Journal_0 true (C.ref 0 0) y39), (ow_ e_u8 r129), (some (AObj.cells true (rowC (e_sl e_u8) r132))), (ow_ e_u8 r134)] (D.one (C.own 9 0 r134.length 1)) F.ca_9 rfl rfl (ac (.one .sc) an) an (journal_Journal_Snapshot_nil0.meets _  r134 er134) (s_move (d := (ds_ e_u8 x34)) rfl ?_)
           obtain ⟨r135, er135, h⟩ := bnd h
           refine s_call2 (ρ := []) (br := true) (H2 := [(o_vdisk_Disk_03 true (C.mp 3) np r125.2.2), (some (AObj.cells true (rowC (e_sl e_u8) r18.1))), (some (AObj.cells true (rowC (e_sl e_u8) x30))), (om_ e_vdisk_file r125.2.2.files), none, none, (o_journal_Journal_0 true (C.ref 0 0) y39), (ow_ e_u8 r129), (some (AObj.cells true (rowC (e_sl e_u8) r132))), (ow_ e_u8 r134)]) (d := (sb r135)) F.ca_17 rfl rfl (ac (.one (LendC.bor e_u8_len rfl rfl rfl)) (ac (.one .imm) an)) an (by decide) rfl (bytes_Equal.meets _ r134 x34 r135 er135) (.inr ⟨rfl, rfl⟩) rfl rfl (s_move (d := (sb r135)) rfl ?_)
           rcases itH h with ⟨c136, h⟩ | ⟨c136, h⟩
           ·refine AWops.guard_yes rfl (nl rfl) rfl c136 ?_
            refine s_move (d := (sc (.pointer none))) rfl ?_
            refine AWops.guard_yes rfl (nl rfl) rfl c136 ?_
            obtain ⟨r137, er137, h⟩ := bnd h
            refine cc [] [(o_vdisk_Disk_03 true (C.mp 3) np r125.2.2), (some (AObj.cells true (rowC (e_sl e_u8) r18.1))), (some (AObj.cells true (rowC (e_sl e_u8) x30))), (om_ e_vdisk_file r125.2.2.files), none, none, (o_journal_Journal_0 true (C.ref 0 0) y39), (ow_ e_u8 r129), (some (AObj.cells true (rowC (e_sl e_u8) r132))), (ow_ e_u8 r134), (some (AObj.cells true (rowC (e_sl e_u8) r137)))] (D.one (C.own 10 0 r137.length 1)) F.ca_10 rfl rfl (ac (.one .sc) an) an (journal_Journal_Records_nil0.meets _  r137 er137) ?_
            refine AWops.guard_yes rfl (nl rfl) rfl c136 ?_
            refine s_move (d := (D.one (C.own 2 0 x30.length 1))) rfl ?_
            refine AWops.guard_yes rfl (nl rfl) rfl c136 ?_
            obtain ⟨r138, er138, h⟩ := bnd h
            refine s_call2 (ρ := []) (br := true) (H2 := [(o_vdisk_Disk_03 true (C.mp 3) np r125.2.2), (some (AObj.cells true (rowC (e_sl e_u8) r18.1))), (some (AObj.cells true (rowC (e_sl e_u8) x30))), (om_ e_vdisk_file r125.2.2.files), none, none, (o_journal_Journal_0 true (C.ref 0 0) y39), (ow_ e_u8 r129), (some (AObj.cells true (rowC (e_sl e_u8) r132))), (ow_ e_u8 r134), (some (AObj.cells true (rowC (e_sl e_u8) r137)))]) (d := (sb r138)) F.ca_18 rfl rfl (ac (.one (LendC.bor (e_sl_len _) rfl rfl rfl)) (ac (.one (LendC.bor (e_sl_len _) rfl rfl rfl)) an)) an (by decide) rfl (dossierplain_SameTexts.meets _ r137 x30 r138 er138) (.inr ⟨rfl, rfl⟩) rfl rfl (s_pick_yes (d := (sb r138)) rfl c136 rfl (s_assign (d := (sb r138)) rfl (AWops.nil (AW.seq (AW.seq (AW.region (s_move (d := (si x33)) rfl (AWops.nil (AW.block (AW.seq (AW.region (s_binI (v := (.bool (x33 == 0))) rfl rfl rfl (s_assign (d := (sb (x33 == 0))) rfl (AWops.nil ?_))))))))))))))
            rcases itH h with ⟨c139, h⟩ | ⟨c139, h⟩
            ·refine AW.cond_yes rfl c139 (AW.seq (AW.region ?_))
             refine s_move (d := (sb r138)) rfl (s_move (d := (sb r138)) rfl ?_)
             rcases itH h with ⟨c140, h⟩ | ⟨c140, h⟩
             ·refine AWops.guard_yes rfl (nl rfl) rfl c140 ?_
              obtain ⟨r141, er141, h⟩ := bnd h
              refine cc [] [(o_vdisk_Disk_03 true (C.mp 3) np r125.2.2), (some (AObj.cells true (rowC (e_sl e_u8) r18.1))), (some (AObj.cells true (rowC (e_sl e_u8) x30))), (om_ e_vdisk_file r125.2.2.files), none, none, (o_journal_Journal_0 true (C.ref 0 0) y39), (ow_ e_u8 r129), (some (AObj.cells true (rowC (e_sl e_u8) r132))), (ow_ e_u8 r134), (some (AObj.cells true (rowC (e_sl e_u8) r137)))] (sb r141) F.ca_13 rfl rfl an an (dossierlaw04_awake.meets _  r141 er141) (s_pick_yes (d := (sb r141)) rfl c140 rfl (s_assign (d := (sb r141)) rfl (AWops.nil (AW.ret ?_))))
              obtain rfl := Option.some.inj h
              exact ⟨_, rfl, (wg 0 [] [] rfl (le_upd (le_top _) (o1 .sc)) an)⟩
             ·refine AWops.guard_no rfl (nl rfl) rfl c140 ?_
              refine s_pick_no (d := (sb false)) rfl c140 rfl (s_assign (d := (sb false)) rfl (AWops.nil (AW.ret ?_)))
              obtain rfl := Option.some.inj h
              exact ⟨_, rfl, (wg 0 [] [] rfl (le_upd (le_top _) (o1 .sc)) an)⟩
            ·refine AW.cond_no rfl c139 (AW.seq (AW.region ?_))
             refine s_binI (v := (.bool (x33 == 70))) rfl rfl rfl (s_assign (d := (sb (x33 == 70))) rfl (AWops.nil ?_))
             rcases itH h with ⟨c142, h⟩ | ⟨c142, h⟩
             ·refine AW.cond_yes rfl c142 (AW.seq (AW.region ?_))
              refine s_move (d := (sb r133)) rfl (s_move (d := (sb r133)) rfl ?_)
              rcases itH h with ⟨c143, h⟩ | ⟨c143, h⟩
              ·refine AWops.guard_no rfl (nl rfl) rfl c143 ?_
               refine s_pick_yes (d := (sb true)) rfl c143 rfl (s_move (d := (sb true)) rfl ?_)
               refine AWops.guard_yes rfl (nl rfl) rfl rfl ?_
               obtain ⟨r144, er144, h⟩ := bnd h
               refine cc [] [(o_vdisk_Disk_03 true (C.mp 3) np r125.2.2), (some (AObj.cells true (rowC (e_sl e_u8) r18.1))), (some (AObj.cells true (rowC (e_sl e_u8) x30))), (om_ e_vdisk_file r125.2.2.files), none, none, (o_journal_Journal_0 true (C.ref 0 0) y39), (ow_ e_u8 r129), (some (AObj.cells true (rowC (e_sl e_u8) r132))), (ow_ e_u8 r134), (some (AObj.cells true (rowC (e_sl e_u8) r137)))] (sb r144) F.ca_13 rfl rfl an an (dossierlaw04_awake.meets _  r144 er144) (s_pick_yes (d := (sb r144)) rfl rfl rfl (s_assign (d := (sb r144)) rfl (AWops.nil (AW.ret ?_))))
               obtain rfl := Option.some.inj h
               exact ⟨_, rfl, (wg 0 [] [] rfl (le_upd (le_top _) (o1 .sc)) an)⟩
              ·refine AWops.guard_yes rfl (nl rfl) rfl c143 ?_
               refine s_move (d := (sb r138)) rfl (s_pick_no (d := (sb r138)) rfl c143 rfl (s_move (d := (sb r138)) rfl ?_))
               rcases itH h with ⟨c145, h⟩ | ⟨c145, h⟩
               ·refine AWops.guard_yes rfl (nl rfl) rfl c145 ?_
                obtain ⟨r146, er146, h⟩ := bnd h
                refine cc [] [(o_vdisk_Disk_03 true (C.mp 3) np r125.2.2), (some (AObj.cells true (rowC (e_sl e_u8) r18.1))), (some (AObj.cells true (rowC (e_sl e_u8) x30))), (om_ e_vdisk_file r125.2.2.files), none, none, (o_journal_Journal_0 true (C.ref 0 0) y39), (ow_ e_u8 r129), (some (AObj.cells true (rowC (e_sl e_u8) r132))), (ow_ e_u8 r134), (some (AObj.cells true (rowC (e_sl e_u8) r137)))] (sb r146) F.ca_13 rfl rfl an an (dossierlaw04_awake.meets _  r146 er146) (s_pick_yes (d := (sb r146)) rfl c145 rfl (s_assign (d := (sb r146)) rfl (AWops.nil (AW.ret ?_))))
                obtain rfl := Option.some.inj h
                exact ⟨_, rfl, (wg 0 [] [] rfl (le_upd (le_top _) (o1 .sc)) an)⟩
               ·refine AWops.guard_no rfl (nl rfl) rfl c145 ?_
                refine s_pick_no (d := (sb false)) rfl c145 rfl (s_assign (d := (sb false)) rfl (AWops.nil (AW.ret ?_)))
                obtain rfl := Option.some.inj h
                exact ⟨_, rfl, (wg 0 [] [] rfl (le_upd (le_top _) (o1 .sc)) an)⟩
             ·refine AW.cond_no rfl c142 (AW.skip (AW.seq (AW.region ?_)))
              refine s_move (d := (sb r133)) rfl (s_move (d := (sb r133)) rfl ?_)
              rcases itH h with ⟨c147, h⟩ | ⟨c147, h⟩
              ·refine AWops.guard_yes rfl (nl rfl) rfl c147 ?_
               obtain ⟨r148, er148, h⟩ := bnd h
               refine cc [] [(o_vdisk_Disk_03 true (C.mp 3) np r125.2.2), (some (AObj.cells true (rowC (e_sl e_u8) r18.1))), (some (AObj.cells true (rowC (e_sl e_u8) x30))), (om_ e_vdisk_file r125.2.2.files), none, none, (o_journal_Journal_0 true (C.ref 0 0) y39), (ow_ e_u8 r129), (some (AObj.cells true (rowC (e_sl e_u8) r132))), (ow_ e_u8 r134), (some (AObj.cells true (rowC (e_sl e_u8) r137)))] (sb r148) F.ca_13 rfl rfl an an (dossierlaw04_awake.meets _  r148 er148) (s_pick_yes (d := (sb r148)) rfl c147 rfl (s_assign (d := (sb r148)) rfl (AWops.nil (AW.ret ?_))))
               obtain rfl := Option.some.inj h
               exact ⟨_, rfl, (wg 0 [] [] rfl (le_upd (le_top _) (o1 .sc)) an)⟩
              ·refine AWops.guard_no rfl (nl rfl) rfl c147 ?_
               refine s_pick_no (d := (sb false)) rfl c147 rfl (s_assign (d := (sb false)) rfl (AWops.nil (AW.ret ?_)))
               obtain rfl := Option.some.inj h
               exact ⟨_, rfl, (wg 0 [] [] rfl (le_upd (le_top _) (o1 .sc)) an)⟩
           ·iterate 4 refine AWops.guard_no rfl (nl rfl) rfl c136 ?_
            refine s_pick_no (d := (sb false)) rfl c136 rfl (s_assign (d := (sb false)) rfl (AWops.nil (AW.seq (AW.seq (AW.region (s_move (d := (si x33)) rfl (AWops.nil (AW.block (AW.seq (AW.region (s_binI (v := (.bool (x33 == 0))) rfl rfl rfl (s_assign (d := (sb (x33 == 0))) rfl (AWops.nil ?_)))))))))))))
            rcases itH h with ⟨c149, h⟩ | ⟨c149, h⟩
            ·refine AW.cond_yes rfl c149 (AW.seq (AW.region ?_))
             refine s_move (d := (sb false)) rfl (s_move (d := (sb false)) rfl ?_)
             refine AWops.guard_no rfl (nl rfl) rfl rfl ?_
             refine s_pick_no (d := (sb false)) rfl rfl rfl (s_assign (d := (sb false)) rfl (AWops.nil (AW.ret ?_)))
             obtain rfl := Option.some.inj h
             exact ⟨_, rfl, (wg 0 [] [] rfl (le_upd (le_top _) (o1 .sc)) an)⟩
            ·refine AW.cond_no rfl c149 (AW.seq (AW.region ?_))
             refine s_binI (v := (.bool (x33 == 70))) rfl rfl rfl (s_assign (d := (sb (x33 == 70))) rfl (AWops.nil ?_))
             rcases itH h with ⟨c150, h⟩ | ⟨c150, h⟩
             ·refine AW.cond_yes rfl c150 (AW.seq (AW.region ?_))
              refine s_move (d := (sb r133)) rfl (s_move (d := (sb r133)) rfl ?_)
              rcases itH h with ⟨c151, h⟩ | ⟨c151, h⟩
              ·refine AWops.guard_no rfl (nl rfl) rfl c151 ?_
               refine s_pick_yes (d := (sb true)) rfl c151 rfl (s_move (d := (sb true)) rfl ?_)
               refine AWops.guard_yes rfl (nl rfl) rfl rfl ?_
               obtain ⟨r152, er152, h⟩ := bnd h
               refine cc [] [(o_vdisk_Disk_03 true (C.mp 3) np r125.2.2), (some (AObj.cells true (rowC (e_sl e_u8) r18.1))), (some (AObj.cells true (rowC (e_sl e_u8) x30))), (om_ e_vdisk_file r125.2.2.files), none, none, (o_journal_Journal_0 true (C.ref 0 0) y39), (ow_ e_u8 r129), (some (AObj.cells true (rowC (e_sl e_u8) r132))), (ow_ e_u8 r134)] (sb r152) F.ca_13 rfl rfl an an (dossierlaw04_awake.meets _  r152 er152) (s_pick_yes (d := (sb r152)) rfl rfl rfl (s_assign (d := (sb r152)) rfl (AWops.nil (AW.ret ?_))))
               obtain rfl := Option.some.inj h
               exact ⟨_, rfl, (wg 0 [] [] rfl (le_upd (le_top _) (o1 .sc)) an)⟩
              ·refine AWops.guard_yes rfl (nl rfl) rfl c151 ?_
               refine s_move (d := (sb false)) rfl (s_pick_no (d := (sb false)) rfl c151 rfl (s_move (d := (sb false)) rfl ?_))
               refine AWops.guard_no rfl (nl rfl) rfl rfl ?_
               refine s_pick_no (d := (sb false)) rfl rfl rfl (s_assign (d := (sb false)) rfl (AWops.nil (AW.ret ?_)))
               obtain rfl := Option.some.inj h
               exact ⟨_, rfl, (wg 0 [] [] rfl (le_upd (le_top _) (o1 .sc)) an)⟩
             ·refine AW.cond_no rfl c150 (AW.skip (AW.seq (AW.region ?_)))
              refine s_move (d := (sb r133)) rfl (s_move (d := (sb r133)) rfl ?_)
              rcases itH h with ⟨c153, h⟩ | ⟨c153, h⟩
              ·refine AWops.guard_yes rfl (nl rfl) rfl c153 ?_
               obtain ⟨r154, er154, h⟩ := bnd h
               refine cc [] [(o_vdisk_Disk_03 true (C.mp 3) np r125.2.2), (some (AObj.cells true (rowC (e_sl e_u8) r18.1))), (some (AObj.cells true (rowC (e_sl e_u8) x30))), (om_ e_vdisk_file r125.2.2.files), none, none, (o_journal_Journal_0 true (C.ref 0 0) y39), (ow_ e_u8 r129), (some (AObj.cells true (rowC (e_sl e_u8) r132))), (ow_ e_u8 r134)] (sb r154) F.ca_13 rfl rfl an an (dossierlaw04_awake.meets _  r154 er154) (s_pick_yes (d := (sb r154)) rfl c153 rfl (s_assign (d := (sb r154)) rfl (AWops.nil (AW.ret ?_))))
               obtain rfl := Option.some.inj h
               exact ⟨_, rfl, (wg 0 [] [] rfl (le_upd (le_top _) (o1 .sc)) an)⟩
              ·refine AWops.guard_no rfl (nl rfl) rfl c153 ?_
               refine s_pick_no (d := (sb false)) rfl c153 rfl (s_assign (d := (sb false)) rfl (AWops.nil (AW.ret ?_)))
               obtain rfl := Option.some.inj h
               exact ⟨_, rfl, (wg 0 [] [] rfl (le_upd (le_top _) (o1 .sc)) an)⟩
          ·iterate 4 refine AWops.guard_no rfl (nl rfl) rfl c131 ?_
           refine s_pick_no (d := (sb false)) rfl c131 rfl (s_assign (d := (sb false)) rfl (AWops.nil (AW.seq (AW.region (s_move (d := (sc (.pointer none))) rfl ?_)))))
           obtain ⟨r155, er155, h⟩ := bnd h
           refine cc [] [(o_vdisk_Disk_03 true (C.mp 3) np r125.2.2), (some (AObj.cells true (rowC (e_sl e_u8) r18.1))), (some (AObj.cells true (rowC (e_sl e_u8) x30))), (om_ e_vdisk_file r125.2.2.files), none, none, (o_journal_Journal_0 true (C.ref 0 0) y39), (ow_ e_u8 r129), (ow_ e_u8 r155)] (D.one (C.own 8 0 r155.length 1)) F.ca_9 rfl rfl (ac (.one .sc) an) an (journal_Journal_Snapshot_nil0.meets _  r155 er155) (s_move (d := (ds_ e_u8 x34)) rfl ?_)
           obtain ⟨r156, er156, h⟩ := bnd h
           refine s_call2 (ρ := []) (br := true) (H2 := [(o_vdisk_Disk_03 true (C.mp 3) np r125.2.2), (some (AObj.cells true (rowC (e_sl e_u8) r18.1))), (some (AObj.cells true (rowC (e_sl e_u8) x30))), (om_ e_vdisk_file r125.2.2.files), none, none, (o_journal_Journal_0 true (C.ref 0 0) y39), (ow_ e_u8 r129), (ow_ e_u8 r155)]) (d := (sb r156)) F.ca_17 rfl rfl (ac (.one (LendC.bor e_u8_len rfl rfl rfl)) (ac (.one .imm) an)) an (by decide) rfl (bytes_Equal.meets _ r155 x34 r156 er156) (.inr ⟨rfl, rfl⟩) rfl rfl (s_move (d := (sb r156)) rfl ?_)
           rcases itH h with ⟨c157, h⟩ | ⟨c157, h⟩
           ·refine AWops.guard_yes rfl (nl rfl) rfl c157 ?_
            refine s_move (d := (sc (.pointer none))) rfl ?_
            refine AWops.guard_yes rfl (nl rfl) rfl c157 ?_
            obtain ⟨r158, er158, h⟩ := bnd h
            refine cc [] [(o_vdisk_Disk_03 true (C.mp 3) np r125.2.2), (some (AObj.cells true (rowC (e_sl e_u8) r18.1))), (some (AObj.cells true (rowC (e_sl e_u8) x30))), (om_ e_vdisk_file r125.2.2.files), none, none, (o_journal_Journal_0 true (C.ref 0 0) y39), (ow_ e_u8 r129), (ow_ e_u8 r155), (some (AObj.cells true (rowC (e_sl e_u8) r158)))] (D.one (C.own 9 0 r158.length 1)) F.ca_10 rfl rfl (ac (.one .sc) an) an (journal_Journal_Records_nil0.meets _  r158 er158) ?_
            refine AWops.guard_yes rfl (nl rfl) rfl c157 ?_
            refine s_move (d := (D.one (C.own 2 0 x30.length 1))) rfl ?_
            refine AWops.guard_yes rfl (nl rfl) rfl c157 ?_
            obtain ⟨r159, er159, h⟩ := bnd h
            refine s_call2 (ρ := []) (br := true) (H2 := [(o_vdisk_Disk_03 true (C.mp 3) np r125.2.2), (some (AObj.cells true (rowC (e_sl e_u8) r18.1))), (some (AObj.cells true (rowC (e_sl e_u8) x30))), (om_ e_vdisk_file r125.2.2.files), none, none, (o_journal_Journal_0 true (C.ref 0 0) y39), (ow_ e_u8 r129), (ow_ e_u8 r155), (some (AObj.cells true (rowC (e_sl e_u8) r158)))]) (d := (sb r159)) F.ca_18 rfl rfl (ac (.one (LendC.bor (e_sl_len _) rfl rfl rfl)) (ac (.one (LendC.bor (e_sl_len _) rfl rfl rfl)) an)) an (by decide) rfl (dossierplain_SameTexts.meets _ r158 x30 r159 er159) (.inr ⟨rfl, rfl⟩) rfl rfl (s_pick_yes (d := (sb r159)) rfl c157 rfl (s_assign (d := (sb r159)) rfl (AWops.nil (AW.seq (AW.seq (AW.region (s_move (d := (si x33)) rfl (AWops.nil (AW.block (AW.seq (AW.region (s_binI (v := (.bool (x33 == 0))) rfl rfl rfl (s_assign (d := (sb (x33 == 0))) rfl (AWops.nil ?_))))))))))))))
            rcases itH h with ⟨c160, h⟩ | ⟨c160, h⟩
            ·refine AW.cond_yes rfl c160 (AW.seq (AW.region ?_))
             refine s_move (d := (sb r159)) rfl (s_move (d := (sb r159)) rfl ?_)
             rcases itH h with ⟨c161, h⟩ | ⟨c161, h⟩
             ·refine AWops.guard_yes rfl (nl rfl) rfl c161 ?_
              obtain ⟨r162, er162, h⟩ := bnd h
              refine cc [] [(o_vdisk_Disk_03 true (C.mp 3) np r125.2.2), (some (AObj.cells true (rowC (e_sl e_u8) r18.1))), (some (AObj.cells true (rowC (e_sl e_u8) x30))), (om_ e_vdisk_file r125.2.2.files), none, none, (o_journal_Journal_0 true (C.ref 0 0) y39), (ow_ e_u8 r129), (ow_ e_u8 r155), (some (AObj.cells true (rowC (e_sl e_u8) r158)))] (sb r162) F.ca_13 rfl rfl an an (dossierlaw04_awake.meets _  r162 er162) (s_pick_yes (d := (sb r162)) rfl c161 rfl (s_assign (d := (sb r162)) rfl (AWops.nil (AW.ret ?_))))
              obtain rfl := Option.some.inj h
              exact ⟨_, rfl, (wg 0 [] [] rfl (le_upd (le_top _) (o1 .sc)) an)⟩
             ·refine AWops.guard_no rfl (nl rfl) rfl c161 ?_
              refine s_pick_no (d := (sb false)) rfl c161 rfl (s_assign (d := (sb false)) rfl (AWops.nil (AW.ret ?_)))
              obtain rfl := Option.some.inj h
              exact ⟨_, rfl, (wg 0 [] [] rfl (le_upd (le_top _) (o1 .sc)) an)⟩
            ·refine AW.cond_no rfl c160 (AW.seq (AW.region ?_))
             refine s_binI (v := (.bool (x33 == 70))) rfl rfl rfl (s_assign (d := (sb (x33 == 70))) rfl (AWops.nil ?_))
             rcases itH h with ⟨c163, h⟩ | ⟨c163, h⟩
             ·refine AW.cond_yes rfl c163 (AW.seq (AW.region ?_))
              refine s_move (d := (sb false)) rfl (s_move (d := (sb false)) rfl ?_)
              refine AWops.guard_yes rfl (nl rfl) rfl rfl ?_
              refine s_move (d := (sb r159)) rfl (s_pick_no (d := (sb r159)) rfl rfl rfl (s_move (d := (sb r159)) rfl ?_))
              rcases itH h with ⟨c164, h⟩ | ⟨c164, h⟩
              ·refine AWops.guard_yes rfl (nl rfl) rfl c164 ?_
               obtain ⟨r165, er165, h⟩ := bnd h
               refine cc [] [(o_vdisk_Disk_03 true (C.mp 3) np r125.2.2), (some (AObj.cells true (rowC (e_sl e_u8) r18.1))), (some (AObj.cells true (rowC (e_sl e_u8) x30))), (om_ e_vdisk_file r125.2.2.files), none, none, (o_journal_Journal_0 true (C.ref 0 0) y39), (ow_ e_u8 r129), (ow_ e_u8 r155), (some (AObj.cells true (rowC (e_sl e_u8) r158)))] (sb r165) F.ca_13 rfl rfl an an (dossierlaw04_awake.meets _  r165 er165) (s_pick_yes (d := (sb r165)) rfl c164 rfl (s_assign (d := (sb r165)) rfl (AWops.nil (AW.ret ?_))))
               obtain rfl := Option.some.inj h
               exact ⟨_, rfl, (wg 0 [] [] rfl (le_upd (le_top _) (o1 .sc)) an)⟩
              ·refine AWops.guard_no rfl (nl rfl) rfl c164 ?_
               refine s_pick_no (d := (sb false)) rfl c164 rfl (s_assign (d := (sb false)) rfl (AWops.nil (AW.ret ?_)))
               obtain rfl := Option.some.inj h
               exact ⟨_, rfl, (wg 0 [] [] rfl (le_upd (le_top _) (o1 .sc)) an)⟩
             ·refine AW.cond_no rfl c163 (AW.skip (AW.seq (AW.region ?_)))
              refine s_move (d := (sb false)) rfl (s_move (d := (sb false)) rfl ?_)
              refine AWops.guard_no rfl (nl rfl) rfl rfl ?_
              refine s_pick_no (d := (sb false)) rfl rfl rfl (s_assign (d := (sb false)) rfl (AWops.nil (AW.ret ?_)))
              obtain rfl := Option.some.inj h
              exact ⟨_, rfl, (wg 0 [] [] rfl (le_upd (le_top _) (o1 .sc)) an)⟩
           ·iterate 4 refine AWops.guard_no rfl (nl rfl) rfl c157 ?_
            refine s_pick_no (d := (sb false)) rfl c157 rfl (s_assign (d := (sb false)) rfl (AWops.nil (AW.seq (AW.seq (AW.region (s_move (d := (si x33)) rfl (AWops.nil (AW.block (AW.seq (AW.region (s_binI (v := (.bool (x33 == 0))) rfl rfl rfl (s_assign (d := (sb (x33 == 0))) rfl (AWops.nil ?_)))))))))))))
            rcases itH h with ⟨c166, h⟩ | ⟨c166, h⟩
            ·refine AW.cond_yes rfl c166 (AW.seq (AW.region ?_))
             refine s_move (d := (sb false)) rfl (s_move (d := (sb false)) rfl ?_)
             refine AWops.guard_no rfl (nl rfl) rfl rfl ?_
             refine s_pick_no (d := (sb false)) rfl rfl rfl (s_assign (d := (sb false)) rfl (AWops.nil (AW.ret ?_)))
             obtain rfl := Option.some.inj h
             exact ⟨_, rfl, (wg 0 [] [] rfl (le_upd (le_top _) (o1 .sc)) an)⟩
            ·refine AW.cond_no rfl c166 (AW.seq (AW.region ?_))
             refine s_binI (v := (.bool (x33 == 70))) rfl rfl rfl (s_assign (d := (sb (x33 == 70))) rfl (AWops.nil ?_))
             rcases itH h with ⟨c167, h⟩ | ⟨c167, h⟩
             ·refine AW.cond_yes rfl c167 (AW.seq (AW.region ?_))
              refine s_move (d := (sb false)) rfl (s_move (d := (sb false)) rfl ?_)
              refine AWops.guard_yes rfl (nl rfl) rfl rfl ?_
              refine s_move (d := (sb false)) rfl (s_pick_no (d := (sb false)) rfl rfl rfl (s_move (d := (sb false)) rfl ?_))
              refine AWops.guard_no rfl (nl rfl) rfl rfl ?_
              refine s_pick_no (d := (sb false)) rfl rfl rfl (s_assign (d := (sb false)) rfl (AWops.nil (AW.ret ?_)))
              obtain rfl := Option.some.inj h
              exact ⟨_, rfl, (wg 0 [] [] rfl (le_upd (le_top _) (o1 .sc)) an)⟩
             ·refine AW.cond_no rfl c167 (AW.skip (AW.seq (AW.region ?_)))
              refine s_move (d := (sb false)) rfl (s_move (d := (sb false)) rfl ?_)
              refine AWops.guard_no rfl (nl rfl) rfl rfl ?_
              refine s_pick_no (d := (sb false)) rfl rfl rfl (s_assign (d := (sb false)) rfl (AWops.nil (AW.ret ?_)))
              obtain rfl := Option.some.inj h
              exact ⟨_, rfl, (wg 0 [] [] rfl (le_upd (le_top _) (o1 .sc)) an)⟩
        ·refine cc [0, 3] [(o_vdisk_Disk_03 true (C.mp 3) np r125.2.2), (some (AObj.cells true (rowC (e_sl e_u8) r18.1))), (some (AObj.cells true (rowC (e_sl e_u8) x30))), (om_ e_vdisk_file r125.2.2.files), none, none, (o_journal_Journal_0 true (C.ref 0 0) y39), (o_journal_Journal_0 true (C.ref 0 0) y127)] (D.tup [(rf 7 0), (si r125.2.1)]) F.ca_12 rfl rfl (ac (.one (.ref rfl)) (ac (.one .nil) an)) (ac (.cells (ac (.mp rfl) (ac .sc (ac .sc (ac .sc (ac .sc an)))))) (ac .map an)) (Meets.eqs (optE_some c126) (optE_some c126) (journal_Open_12.meets _ r124.2 ([] : List Int) r125 er125)) (s_move (d := (D.tup [(rf 7 0), (si r125.2.1)])) rfl (s_extract (d := (rf 7 0)) rfl rfl (s_extract (d := (si r125.2.1)) rfl rfl (s_assign (d := (rf 7 0)) rfl (s_assign (d := (si r125.2.1)) rfl (AWops.nil (AW.seq (AW.seq (AW.region ?_)))))))))
         refine s_move (d := (si r125.2.1)) rfl (s_binI (v := (.bool (r125.2.1 != 0))) rfl rfl rfl (AWops.nil ?_))
         rcases itH h with ⟨c168, h⟩ | ⟨c168, h⟩
         ·refine AW.cond_yes rfl c168 (AW.seq (AW.region ?_))
          refine s_assign (d := (sb false)) rfl (AWops.nil (AW.ret ?_))
          obtain rfl := Option.some.inj h
          exact ⟨_, rfl, (wg 0 [] [] rfl (le_upd (le_top _) (o1 .sc)) an)⟩
         ·refine AW.cond_no rfl c168 (AW.skip (AW.seq (AW.region ?_)))
          refine s_move (d := (rf 7 0)) rfl ?_
          obtain ⟨r169, er169, h⟩ := bnd h
          refine cc [7, 0, 3] [(o_vdisk_Disk_03 true (C.mp 3) np r125.2.2), (some (AObj.cells true (rowC (e_sl e_u8) r18.1))), (some (AObj.cells true (rowC (e_sl e_u8) x30))), (om_ e_vdisk_file r125.2.2.files), none, none, (o_journal_Journal_0 true (C.ref 0 0) y39), (o_journal_Journal_0 true (C.ref 0 0) r169.2), (ow_ e_u8 r169.1)] (D.one (C.own 8 0 r169.1.length 1)) F.ca_9 rfl rfl (ac (.one (.ref rfl)) an) (ac (.cells (ac (.ref rfl) (ac .imm (ac .imm (ac .sc an))))) (ac (.cells (ac (.mp rfl) (ac .sc (ac .sc (ac .sc (ac .sc an)))))) (ac .map an))) (journal_Journal_Snapshot.meets _ (⟨(), y127.snap, y127.l, y127.stopped⟩ : journal_Journal) r125.2.2 r169 er169) (s_move (d := (ds_ e_u8 r19.1)) rfl ?_)
          obtain ⟨r170, er170, h⟩ := bnd h
          refine s_call2 (ρ := []) (br := true) (H2 := [(o_vdisk_Disk_03 true (C.mp 3) np r125.2.2), (some (AObj.cells true (rowC (e_sl e_u8) r18.1))), (some (AObj.cells true (rowC (e_sl e_u8) x30))), (om_ e_vdisk_file r125.2.2.files), none, none, (o_journal_Journal_0 true (C.ref 0 0) y39), (o_journal_Journal_0 true (C.ref 0 0) r169.2), (ow_ e_u8 r169.1)]) (d := (sb r170)) F.ca_17 rfl rfl (ac (.one (LendC.bor e_u8_len rfl rfl rfl)) (ac (.one .imm) an)) an (by decide) rfl (bytes_Equal.meets _ r169.1 r19.1 r170 er170) (.inr ⟨rfl, rfl⟩) rfl rfl (s_move (d := (sb r170)) rfl ?_)
          rcases itH h with ⟨c171, h⟩ | ⟨c171, h⟩
          ·refine AWops.guard_yes rfl (nl rfl) rfl c171 ?_
           refine s_move (d := (rf 7 0)) rfl ?_
           refine AWops.guard_yes rfl (nl rfl) rfl c171 ?_
           obtain ⟨r172, er172, h⟩ := bnd h
           refine cc [7, 0, 3] [(o_vdisk_Disk_03 true (C.mp 3) np r125.2.2), (some (AObj.cells true (rowC (e_sl e_u8) r18.1))), (some (AObj.cells true (rowC (e_sl e_u8) x30))), (om_ e_vdisk_file r125.2.2.files), none, none, (o_journal_Journal_0 true (C.ref 0 0) y39), (o_journal_Journal_0 true (C.ref 0 0) r172.2), (ow_ e_u8 r169.1), (some (AObj.cells true (rowC (e_sl e_u8) r172.1)))] (D.one (C.own 9 0 r172.1.length 1)) F.ca_10 rfl rfl (ac (.one (.ref rfl)) an) (ac (.cells (ac (.ref rfl) (ac .imm (ac .imm (ac .sc an))))) (ac (.cells (ac (.mp rfl) (ac .sc (ac .sc (ac .sc (ac .sc an)))))) (ac .map an))) (journal_Journal_Records.meets _ (⟨(), r169.2.snap, r169.2.l, r169.2.stopped⟩ : journal_Journal) r125.2.2 r172 er172) ?_
           refine AWops.guard_yes rfl (nl rfl) rfl c171 ?_
           refine s_move (d := (D.one (C.own 1 0 r18.1.length 1))) rfl ?_
           refine AWops.guard_yes rfl (nl rfl) rfl c171 ?_
           obtain ⟨r173, er173, h⟩ := bnd h
           refine s_call2 (ρ := []) (br := true) (H2 := [(o_vdisk_Disk_03 true (C.mp 3) np r125.2.2), (some (AObj.cells true (rowC (e_sl e_u8) r18.1))), (some (AObj.cells true (rowC (e_sl e_u8) x30))), (om_ e_vdisk_file r125.2.2.files), none, none, (o_journal_Journal_0 true (C.ref 0 0) y39), (o_journal_Journal_0 true (C.ref 0 0) r172.2), (ow_ e_u8 r169.1), (some (AObj.cells true (rowC (e_sl e_u8) r172.1)))]) (d := (sb r173)) F.ca_18 rfl rfl (ac (.one (LendC.bor (e_sl_len _) rfl rfl rfl)) (ac (.one (LendC.bor (e_sl_len _) rfl rfl rfl)) an)) an (by decide) rfl (dossierplain_SameTexts.meets _ r172.1 r18.1 r173 er173) (.inr ⟨rfl, rfl⟩) rfl rfl (s_pick_yes (d := (sb r173)) rfl c171 rfl (s_assign (d := (sb r173)) rfl (AWops.nil (AW.seq (AW.region (s_move (d := (rf 7 0)) rfl ?_))))))
           obtain ⟨r174, er174, h⟩ := bnd h
           refine cc [7, 0, 3] [(o_vdisk_Disk_03 true (C.mp 3) np r125.2.2), (some (AObj.cells true (rowC (e_sl e_u8) r18.1))), (some (AObj.cells true (rowC (e_sl e_u8) x30))), (om_ e_vdisk_file r125.2.2.files), none, none, (o_journal_Journal_0 true (C.ref 0 0) y39), (o_journal_Journal_0 true (C.ref 0 0) r174.2), (ow_ e_u8 r169.1), (some (AObj.cells true (rowC (e_sl e_u8) r172.1))), (ow_ e_u8 r174.1)] (D.one (C.own 10 0 r174.1.length 1)) F.ca_9 rfl rfl (ac (.one (.ref rfl)) an) (ac (.cells (ac (.ref rfl) (ac .imm (ac .imm (ac .sc an))))) (ac (.cells (ac (.mp rfl) (ac .sc (ac .sc (ac .sc (ac .sc an)))))) (ac .map an))) (journal_Journal_Snapshot.meets _ (⟨(), r172.2.snap, r172.2.l, r172.2.stopped⟩ : journal_Journal) r125.2.2 r174 er174) (s_move (d := (ds_ e_u8 x34)) rfl ?_)
           obtain ⟨r175, er175, h⟩ := bnd h
           refine s_call2 (ρ := []) (br := true) (H2 := [(o_vdisk_Disk_03 true (C.mp 3) np r125.2.2), (some (AObj.cells true (rowC (e_sl e_u8) r18.1))), (some (AObj.cells true (rowC (e_sl e_u8) x30))), (om_ e_vdisk_file r125.2.2.files), none, none, (o_journal_Journal_0 true (C.ref 0 0) y39), (o_journal_Journal_0 true (C.ref 0 0) r174.2), (ow_ e_u8 r169.1), (some (AObj.cells true (rowC (e_sl e_u8) r172.1))), (ow_ e_u8 r174.1)]) (d := (sb r175)) F.ca_17 rfl rfl (ac (.one (LendC.bor e_u8_len rfl rfl rfl)) (ac (.one .imm) an)) an (by decide) rfl (bytes_Equal.meets _ r174.1 x34 r175 er175) (.inr ⟨rfl, rfl⟩) rfl rfl (s_move (d := (sb r175)) rfl ?_)
           rcases itH h with ⟨c176, h⟩ | ⟨c176, h⟩
           ·refine AWops.guard_yes rfl (nl rfl) rfl c176 ?_
            refine s_move (d := (rf 7 0)) rfl ?_
            refine AWops.guard_yes rfl (nl rfl) rfl c176 ?_
            obtain ⟨r177, er177, h⟩ := bnd h
            refine cc [7, 0, 3] [(o_vdisk_Disk_03 true (C.mp 3) np r125.2.2), (some (AObj.cells true (rowC (e_sl e_u8) r18.1))), (some (AObj.cells true (rowC (e_sl e_u8) x30))), (om_ e_vdisk_file r125.2.2.files), none, none, (o_journal_Journal_0 true (C.ref 0 0) y39), (o_journal_Journal_0 true (C.ref 0 0) r177.2), (ow_ e_u8 r169.1), (some (AObj.cells true (rowC (e_sl e_u8) r172.1))), (ow_ e_u8 r174.1), (some (AObj.cells true (rowC (e_sl e_u8) r177.1)))] (D.one (C.own 11 0 r177.1.length 1)) F.ca_10 rfl rfl (ac (.one (.ref rfl)) an) (ac (.cells (ac (.ref rfl) (ac .imm (ac .imm (ac .sc an))))) (ac (.cells (ac (.mp rfl) (ac .sc (ac .sc (ac .sc (ac .sc an)))))) (ac .map an))) (journal_Journal_Records.meets _ (⟨(), r174.2.snap, r174.2.l, r174.2.stopped⟩ : journal_Journal) r125.2.2 r177 er177) ?_
            refine AWops.guard_yes rfl (nl rfl) rfl c176 ?_
            refine s_move (d := (D.one (C.own 2 0 x30.length 1))) rfl ?_
            refine AWops.guard_yes rfl (nl rfl) rfl c176 ?_
            obtain ⟨r178, er178, h⟩ := bnd h
            refine s_call2 (ρ := []) (br := true) (H2 := [(o_vdisk_Disk_03 true (C.mp 3) np r125.2.2), (some (AObj.cells true (rowC (e_sl e_u8) r18.1))), (some (AObj.cells true (rowC (e_sl e_u8) x30))), (om_ e_vdisk_file r125.2.2.files), none, none, (o_journal_Journal_0 true (C.ref 0 0) y39), (o_journal_Journal_0 true (C.ref 0 0) r177.2), (ow_ e_u8 r169.1), (some (AObj.cells true (rowC (e_sl e_u8) r172.1))), (ow_ e_u8 r174.1), (some (AObj.cells true (rowC (e_sl e_u8) r177.1)))]) (d := (sb r178)) F.ca_18 rfl rfl (ac (.one (LendC.bor (e_sl_len _) rfl rfl rfl)) (ac (.one (LendC.bor (e_sl_len _) rfl rfl rfl)) an)) an (by decide) rfl (dossierplain_SameTexts.meets _ r177.1 x30 r178 er178) (.inr ⟨rfl, rfl⟩) rfl rfl (s_pick_yes (d := (sb r178)) rfl c176 rfl (s_assign (d := (sb r178)) rfl (AWops.nil (AW.seq (AW.seq (AW.region (s_move (d := (si x33)) rfl (AWops.nil (AW.block (AW.seq (AW.region (s_binI (v := (.bool (x33 == 0))) rfl rfl rfl (s_assign (d := (sb (x33 == 0))) rfl (AWops.nil ?_))))))))))))))
            rcases itH h with ⟨c179, h⟩ | ⟨c179, h⟩
            ·refine AW.cond_yes rfl c179 (AW.seq (AW.region ?_))
             refine s_move (d := (sb r178)) rfl (s_move (d := (sb r178)) rfl ?_)
             rcases itH h with ⟨c180, h⟩ | ⟨c180, h⟩
             ·refine AWops.guard_yes rfl (nl rfl) rfl c180 ?_
              obtain ⟨r181, er181, h⟩ := bnd h
              refine cc [] [(o_vdisk_Disk_03 true (C.mp 3) np r125.2.2), (some (AObj.cells true (rowC (e_sl e_u8) r18.1))), (some (AObj.cells true (rowC (e_sl e_u8) x30))), (om_ e_vdisk_file r125.2.2.files), none, none, (o_journal_Journal_0 true (C.ref 0 0) y39), (o_journal_Journal_0 true (C.ref 0 0) r177.2), (ow_ e_u8 r169.1), (some (AObj.cells true (rowC (e_sl e_u8) r172.1))), (ow_ e_u8 r174.1), (some (AObj.cells true (rowC (e_sl e_u8) r177.1)))] (sb r181) F.ca_13 rfl rfl an an (dossierlaw04_awake.meets _  r181 er181) (s_pick_yes (d := (sb r181)) rfl c180 rfl (s_assign (d := (sb r181)) rfl (AWops.nil (AW.ret ?_))))
              obtain rfl := Option.some.inj h
              exact ⟨_, rfl, (wg 0 [] [] rfl (le_upd (le_top _) (o1 .sc)) an)⟩
             ·refine AWops.guard_no rfl (nl rfl) rfl c180 ?_
              refine s_pick_no (d := (sb false)) rfl c180 rfl (s_assign (d := (sb false)) rfl (AWops.nil (AW.ret ?_)))
              obtain rfl := Option.some.inj h
              exact ⟨_, rfl, (wg 0 [] [] rfl (le_upd (le_top _) (o1 .sc)) an)⟩
            ·refine AW.cond_no rfl c179 (AW.seq (AW.region ?_))
             refine s_binI (v := (.bool (x33 == 70))) rfl rfl rfl (s_assign (d := (sb (x33 == 70))) rfl (AWops.nil ?_))
             rcases itH h with ⟨c182, h⟩ | ⟨c182, h⟩
             ·refine AW.cond_yes rfl c182 (AW.seq (AW.region ?_))
              refine s_move (d := (sb r173)) rfl (s_move (d := (sb r173)) rfl ?_)
              rcases itH h with ⟨c183, h⟩ | ⟨c183, h⟩
              ·refine AWops.guard_no rfl (nl rfl) rfl c183 ?_
               refine s_pick_yes (d := (sb true)) rfl c183 rfl (s_move (d := (sb true)) rfl ?_)
               refine AWops.guard_yes rfl (nl rfl) rfl rfl ?_
               obtain ⟨r184, er184, h⟩ := bnd h
               refine cc [] [(o_vdisk_Disk_03 true (C.mp 3) np r125.2.2), (some (AObj.cells true (rowC (e_sl e_u8) r18.1))), (some (AObj.cells true (rowC (e_sl e_u8) x30))), (om_ e_vdisk_file r125.2.2.files), none, none, (o_journal_Journal_0 true (C.ref 0 0) y39), (o_journal_Journal_0 true (C.ref 0 0) r177.2), (ow_ e_u8 r169.1), (some (AObj.cells true (rowC (e_sl e_u8) r172.1))), (ow_ e_u8 r174.1), (some (AObj.cells true (rowC (e_sl e_u8) r177.1)))] (sb r184) F.ca_13 rfl rfl an an (dossierlaw04_awake.meets _  r184 er184) (s_pick_yes (d := (sb r184)) rfl rfl rfl (s_assign (d := (sb r184)) rfl (AWops.nil (AW.ret ?_))))
               obtain rfl := Option.some.inj h
               exact ⟨_, rfl, (wg 0 [] [] rfl (le_upd (le_top _) (o1 .sc)) an)⟩
              ·refine AWops.guard_yes rfl (nl rfl) rfl c183 ?_
               refine s_move (d := (sb r178)) rfl (s_pick_no (d := (sb r178)) rfl c183 rfl (s_move (d := (sb r178)) rfl ?_))
               rcases itH h with ⟨c185, h⟩ | ⟨c185, h⟩
               ·refine AWops.guard_yes rfl (nl rfl) rfl c185 ?_
                obtain ⟨r186, er186, h⟩ := bnd h
                refine cc [] [(o_vdisk_Disk_03 true (C.mp 3) np r125.2.2), (some (AObj.cells true (rowC (e_sl e_u8) r18.1))), (some (AObj.cells true (rowC (e_sl e_u8) x30))), (om_ e_vdisk_file r125.2.2.files), none, none, (o_journal_Journal_0 true (C.ref 0 0) y39), (o_journal_Journal_0 true (C.ref 0 0) r177.2), (ow_ e_u8 r169.1), (some (AObj.cells true (rowC (e_sl e_u8) r172.1))), (ow_ e_u8 r174.1), (some (AObj.cells true (rowC (e_sl e_u8) r177.1)))] (sb r186) F.ca_13 rfl rfl an an (dossierlaw04_awake.meets _  r186 er186) (s_pick_yes (d := (sb r186)) rfl c185 rfl (s_assign (d := (sb r186)) rfl (AWops.nil (AW.ret ?_))))
                obtain rfl := Option.some.inj h
                exact ⟨_, rfl, (wg 0 [] [] rfl (le_upd (le_top _) (o1 .sc)) an)⟩
               ·refine AWops.guard_no rfl (nl rfl) rfl c185 ?_
                refine s_pick_no (d := (sb false)) rfl c185 rfl (s_assign (d := (sb false)) rfl (AWops.nil (AW.ret ?_)))
                obtain rfl := Option.some.inj h
                exact ⟨_, rfl, (wg 0 [] [] rfl (le_upd (le_top _) (o1 .sc)) an)⟩
             ·refine AW.cond_no rfl c182 (AW.skip (AW.seq (AW.region ?_)))
              refine s_move (d := (sb r173)) rfl (s_move (d := (sb r173)) rfl ?_)
              rcases itH h with ⟨c187, h⟩ | ⟨c187, h⟩
              ·refine AWops.guard_yes rfl (nl rfl) rfl c187 ?_
               obtain ⟨r188, er188, h⟩ := bnd h
               refine cc [] [(o_vdisk_Disk_03 true (C.mp 3) np r125.2.2), (some (AObj.cells true (rowC (e_sl e_u8) r18.1))), (some (AObj.cells true (rowC (e_sl e_u8) x30))), (om_ e_vdisk_file r125.2.2.files), none, none, (o_journal_Journal_0 true (C.ref 0 0) y39), (o_journal_Journal_0 true (C.ref 0 0) r177.2), (ow_ e_u8 r169.1), (some (AObj.cells true (rowC (e_sl e_u8) r172.1))), (ow_ e_u8 r174.1), (some (AObj.cells true (rowC (e_sl e_u8) r177.1)))] (sb r188) F.ca_13 rfl rfl an an (dossierlaw04_awake.meets _  r188 er188) (s_pick_yes (d := (sb r188)) rfl c187 rfl (s_assign (d := (sb r188)) rfl (AWops.nil (AW.ret ?_))))
               obtain rfl := Option.some.inj h
               exact ⟨_, rfl, (wg 0 [] [] rfl (le_upd (le_top _) (o1 .sc)) an)⟩
              ·refine AWops.guard_no rfl (nl rfl) rfl c187 ?_
               refine s_pick_no (d := (sb false)) rfl c187 rfl (s_assign (d := (sb false)) rfl (AWops.nil (AW.ret ?_)))
               obtain rfl := Option.some.inj h
               exact ⟨_, rfl, (wg 0 [] [] rfl (le_upd (le_top _) (o1 .sc)) an)⟩
           ·iterate 4 refine AWops.guard_no rfl (nl rfl) rfl c176 ?_
            refine s_pick_no (d := (sb false)) rfl c176 rfl (s_assign (d := (sb false)) rfl (AWops.nil (AW.seq (AW.seq (AW.region (s_move (d := (si x33)) rfl (AWops.nil (AW.block (AW.seq (AW.region (s_binI (v := (.bool (x33 == 0))) rfl rfl rfl (s_assign (d := (sb (x33 == 0))) rfl (AWops.nil ?_)))))))))))))
            rcases itH h with ⟨c189, h⟩ | ⟨c189, h⟩
            ·refine AW.cond_yes rfl c189 (AW.seq (AW.region ?_))
             refine s_move (d := (sb false)) rfl (s_move (d := (sb false)) rfl ?_)
             refine AWops.guard_no rfl (nl rfl) rfl rfl ?_
             refine s_pick_no (d := (sb false)) rfl rfl rfl (s_assign (d := (sb false)) rfl (AWops.nil (AW.ret ?_)))
             obtain rfl := Option.some.inj h
             exact ⟨_, rfl, (wg 0 [] [] rfl (le_upd (le_top _) (o1 .sc)) an)⟩
            ·refine AW.cond_no rfl c189 (AW.seq (AW.region ?_))
             refine s_binI (v := (.bool (x33 == 70))) rfl rfl rfl (s_assign (d := (sb (x33 == 70))) rfl (AWops.nil ?_))
             rcases itH h with ⟨c190, h⟩ | ⟨c190, h⟩
             ·refine AW.cond_yes rfl c190 (AW.seq (AW.region ?_))
              refine s_move (d := (sb r173)) rfl (s_move (d := (sb r173)) rfl ?_)
              rcases itH h with ⟨c191, h⟩ | ⟨c191, h⟩
              ·refine AWops.guard_no rfl (nl rfl) rfl c191 ?_
               refine s_pick_yes (d := (sb true)) rfl c191 rfl (s_move (d := (sb true)) rfl ?_)
               refine AWops.guard_yes rfl (nl rfl) rfl rfl ?_
               obtain ⟨r192, er192, h⟩ := bnd h
               refine cc [] [(o_vdisk_Disk_03 true (C.mp 3) np r125.2.2), (some (AObj.cells true (rowC (e_sl e_u8) r18.1))), (some (AObj.cells true (rowC (e_sl e_u8) x30))), (om_ e_vdisk_file r125.2.2.files), none, none, (o_journal_Journal_0 true (C.ref 0 0) y39), (o_journal_Journal_0 true (C.ref 0 0) r174.2), (ow_ e_u8 r169.1), (some (AObj.cells true (rowC (e_sl e_u8) r172.1))), (ow_ e_u8 r174.1)] (sb r192) F.ca_13 rfl rfl an an (dossierlaw04_awake.meets _  r192 er192) (s_pick_yes (d := (sb r192)) rfl rfl rfl (s_assign (d := (sb r192)) rfl (AWops.nil (AW.ret ?_))))
               obtain rfl := Option.some.inj h
               exact ⟨_, rfl, (wg 0 [] [] rfl (le_upd (le_top _) (o1 .sc)) an)⟩
              ·refine AWops.guard_yes rfl (nl rfl) rfl c191 ?_
               refine s_move (d := (sb false)) rfl (s_pick_no (d := (sb false)) rfl c191 rfl (s_move (d := (sb false)) rfl ?_))
               refine AWops.guard_no rfl (nl rfl) rfl rfl ?_
               refine s_pick_no (d := (sb false)) rfl rfl rfl (s_assign (d := (sb false)) rfl (AWops.nil (AW.ret ?_)))
               obtain rfl := Option.some.inj h
               exact ⟨_, rfl, (wg 0 [] [] rfl (le_upd (le_top _) (o1 .sc)) an)⟩
             ·refine AW.cond_no rfl c190 (AW.skip (AW.seq (AW.region ?_)))
              refine s_move (d := (sb r173)) rfl (s_move (d := (sb r173)) rfl ?_)
              rcases itH h with ⟨c193, h⟩ | ⟨c193, h⟩
              ·refine AWops.guard_yes rfl (nl rfl) rfl c193 ?_
               obtain ⟨r194, er194, h⟩ := bnd h
               refine cc [] [(o_vdisk_Disk_03 true (C.mp 3) np r125.2.2), (some (AObj.cells true (rowC (e_sl e_u8) r18.1))), (some (AObj.cells true (rowC (e_sl e_u8) x30))), (om_ e_vdisk_file r125.2.2.files), none, none, (o_journal_Journal_0 true (C.ref 0 0) y39), (o_journal_Journal_0 true (C.ref 0 0) r174.2), (ow_ e_u8 r169.1), (some (AObj.cells true (rowC (e_sl e_u8) r172.1))), (ow_ e_u8 r174.1)] (sb r194) F.ca_13 rfl rfl an an (dossierlaw04_awake.meets _  r194 er194) (s_pick_yes (d := (sb r194)) rfl c193 rfl (s_assign (d := (sb r194)) rfl (AWops.nil (AW.ret ?_))))
               obtain rfl := Option.some.inj h
               exact ⟨_, rfl, (wg 0 [] [] rfl (le_upd (le_top _) (o1 .sc)) an)⟩
              ·refine AWops.guard_no rfl (nl rfl) rfl c193 ?_
               refine s_pick_no (d := (sb false)) rfl c193 rfl (s_assign (d := (sb false)) rfl (AWops.nil (AW.ret ?_)))
               obtain rfl := Option.some.inj h
               exact ⟨_, rfl, (wg 0 [] [] rfl (le_upd (le_top _) (o1 .sc)) an)⟩
          ·iterate 4 refine AWops.guard_no rfl (nl rfl) rfl c171 ?_
           refine s_pick_no (d := (sb false)) rfl c171 rfl (s_assign (d := (sb false)) rfl (AWops.nil (AW.seq (AW.region (s_move (d := (rf 7 0)) rfl ?_)))))
           obtain ⟨r195, er195, h⟩ := bnd h
           refine cc [7, 0, 3] [(o_vdisk_Disk_03 true (C.mp 3) np r125.2.2), (some (AObj.cells true (rowC (e_sl e_u8) r18.1))), (some (AObj.cells true (rowC (e_sl e_u8) x30))), (om_ e_vdisk_file r125.2.2.files), none, none, (o_journal_Journal_0 true (C.ref 0 0) y39), (o_journal_Journal_0 true (C.ref 0 0) r195.2), (ow_ e_u8 r169.1), (ow_ e_u8 r195.1)] (D.one (C.own 9 0 r195.1.length 1)) F.ca_9 rfl rfl (ac (.one (.ref rfl)) an) (ac (.cells (ac (.ref rfl) (ac .imm (ac .imm (ac .sc an))))) (ac (.cells (ac (.mp rfl) (ac .sc (ac .sc (ac .sc (ac .sc an)))))) (ac .map an))) (journal_Journal_Snapshot.meets _ (⟨(), r169.2.snap, r169.2.l, r169.2.stopped⟩ : journal_Journal) r125.2.2 r195 er195) (s_move (d := (ds_ e_u8 x34)) rfl ?_)
           obtain ⟨r196, er196, h⟩ := bnd h
           refine s_call2 (ρ := []) (br := true) (H2 := [(o_vdisk_Disk_03 true (C.mp 3) np r125.2.2), (some (AObj.cells true (rowC (e_sl e_u8) r18.1))), (some (AObj.cells true (rowC (e_sl e_u8) x30))), (om_ e_vdisk_file r125.2.2.files), none, none, (o_journal_Journal_0 true (C.ref 0 0) y39), (o_journal_Journal_0 true (C.ref 0 0) r195.2), (ow_ e_u8 r169.1), (ow_ e_u8 r195.1)]) (d := (sb r196)) F.ca_17 rfl rfl (ac (.one (LendC.bor e_u8_len rfl rfl rfl)) (ac (.one .imm) an)) an (by decide) rfl (bytes_Equal.meets _ r195.1 x34 r196 er196) (.inr ⟨rfl, rfl⟩) rfl rfl (s_move (d := (sb r196)) rfl ?_)
           rcases itH h with ⟨c197, h⟩ | ⟨c197, h⟩
           ·refine AWops.guard_yes rfl (nl rfl) rfl c197 ?_
            refine s_move (d := (rf 7 0)) rfl ?_
            refine AWops.guard_yes rfl (nl rfl) rfl c197 ?_
            obtain ⟨r198, er198, h⟩ := bnd h
            refine cc [7, 0, 3] [(o_vdisk_Disk_03 true (C.mp 3) np r125.2.2), (some (AObj.cells true (rowC (e_sl e_u8) r18.1))), (some (AObj.cells true (rowC (e_sl e_u8) x30))), (om_ e_vdisk_file r125.2.2.files), none, none, (o_journal_Journal_0 true (C.ref 0 0) y39), (o_journal_Journal_0 true (C.ref 0 0) r198.2), (ow_ e_u8 r169.1), (ow_ e_u8 r195.1), (some (AObj.cells true (rowC (e_sl e_u8) r198.1)))] (D.one (C.own 10 0 r198.1.length 1)) F.ca_10 rfl rfl (ac (.one (.ref rfl)) an) (ac (.cells (ac (.ref rfl) (ac .imm (ac .imm (ac .sc an))))) (ac (.cells (ac (.mp rfl) (ac .sc (ac .sc (ac .sc (ac .sc an)))))) (ac .map an))) (journal_Journal_Records.meets _ (⟨(), r195.2.snap, r195.2.l, r195.2.stopped⟩ : journal_Journal) r125.2.2 r198 er198) ?_
            refine AWops.guard_yes rfl (nl rfl) rfl c197 ?_
            refine s_move (d := (D.one (C.own 2 0 x30.length 1))) rfl ?_
            refine AWops.guard_yes rfl (nl rfl) rfl c197 ?_
            obtain ⟨r199, er199, h⟩ := bnd h
            refine s_call2 (ρ := []) (br := true) (H2 := [(o_vdisk_Disk_03 true (C.mp 3) np r125.2.2), (some (AObj.cells true (rowC (e_sl e_u8) r18.1))), (some (AObj.cells true (rowC (e_sl e_u8) x30))), (om_ e_vdisk_file r125.2.2.files), none, none, (o_journal_Journal_0 true (C.ref 0 0) y39), (o_journal_Journal_0 true (C.ref 0 0) r198.2), (ow_ e_u8 r169.1), (ow_ e_u8 r195.1), (some (AObj.cells true (rowC (e_sl e_u8) r198.1)))]) (d := (sb r199)) F.ca_18 rfl rfl (ac (.one (LendC.bor (e_sl_len _) rfl rfl rfl)) (ac (.one (LendC.bor (e_sl_len _) rfl rfl rfl)) an)) an (by decide) rfl (dossierplain_SameTexts.meets _ r198.1 x30 r199 er199) (.inr ⟨rfl, rfl⟩) rfl rfl (s_pick_yes (d := (sb r199)) rfl c197 rfl (s_assign (d := (sb r199)) rfl (AWops.nil (AW.seq (AW.seq (AW.region (s_move (d := (si x33)) rfl (AWops.nil (AW.block (AW.seq (AW.region (s_binI (v := (.bool (x33 == 0))) rfl rfl rfl (s_assign (d := (sb (x33 == 0))) rfl (AWops.nil ?_))))))))))))))
            rcases itH h with ⟨c200, h⟩ | ⟨c200, h⟩
            ·refine AW.cond_yes rfl c200 (AW.seq (AW.region ?_))
             refine s_move (d := (sb r199)) rfl (s_move (d := (sb r199)) rfl ?_)
             rcases itH h with ⟨c201, h⟩ | ⟨c201, h⟩
             ·refine AWops.guard_yes rfl (nl rfl) rfl c201 ?_
              obtain ⟨r202, er202, h⟩ := bnd h
              refine cc [] [(o_vdisk_Disk_03 true (C.mp 3) np r125.2.2), (some (AObj.cells true (rowC (e_sl e_u8) r18.1))), (some (AObj.cells true (rowC (e_sl e_u8) x30))), (om_ e_vdisk_file r125.2.2.files), none, none, (o_journal_Journal_0 true (C.ref 0 0) y39), (o_journal_Journal_0 true (C.ref 0 0) r198.2), (ow_ e_u8 r169.1), (ow_ e_u8 r195.1), (some (AObj.cells true (rowC (e_sl e_u8) r198.1)))] (sb r202) F.ca_13 rfl rfl an an (dossierlaw04_awake.meets _  r202 er202) (s_pick_yes (d := (sb r202)) rfl c201 rfl (s_assign (d := (sb r202)) rfl (AWops.nil (AW.ret ?_))))
              obtain rfl := Option.some.inj h
              exact ⟨_, rfl, (wg 0 [] [] rfl (le_upd (le_top _) (o1 .sc)) an)⟩
             ·refine AWops.guard_no rfl (nl rfl) rfl c201 ?_
              refine s_pick_no (d := (sb false)) rfl c201 rfl (s_assign (d := (sb false)) rfl (AWops.nil (AW.ret ?_)))
              obtain rfl := Option.some.inj h
              exact ⟨_, rfl, (wg 0 [] [] rfl (le_upd (le_top _) (o1 .sc)) an)⟩
            ·refine AW.cond_no rfl c200 (AW.seq (AW.region ?_))
             refine s_binI (v := (.bool (x33 == 70))) rfl rfl rfl (s_assign (d := (sb (x33 == 70))) rfl (AWops.nil ?_))
             rcases itH h with ⟨c203, h⟩ | ⟨c203, h⟩
             ·refine AW.cond_yes rfl c203 (AW.seq (AW.region ?_))
              refine s_move (d := (sb false)) rfl (s_move (d := (sb false)) rfl ?_)
              refine AWops.guard_yes rfl (nl rfl) rfl rfl ?_
              refine s_move (d := (sb r199)) rfl (s_pick_no (d := (sb r199)) rfl rfl rfl (s_move (d := (sb r199)) rfl ?_))
              rcases itH h with ⟨c204, h⟩ | ⟨c204, h⟩
              ·refine AWops.guard_yes rfl (nl rfl) rfl c204 ?_
               obtain ⟨r205, er205, h⟩ := bnd h
               refine cc [] [(o_vdisk_Disk_03 true (C.mp 3) np r125.2.2), (some (AObj.cells true (rowC (e_sl e_u8) r18.1))), (some (AObj.cells true (rowC (e_sl e_u8) x30))), (om_ e_vdisk_file r125.2.2.files), none, none, (o_journal_Journal_0 true (C.ref 0 0) y39), (o_journal_Journal_0 true (C.ref 0 0) r198.2), (ow_ e_u8 r169.1), (ow_ e_u8 r195.1), (some (AObj.cells true (rowC (e_sl e_u8) r198.1)))] (sb r205) F.ca_13 rfl rfl an an (dossierlaw04_awake.meets _  r205 er205) (s_pick_yes (d := (sb r205)) rfl c204 rfl (s_assign (d := (sb r205)) rfl (AWops.nil (AW.ret ?_))))
               obtain rfl := Option.some.inj h
               exact ⟨_, rfl, (wg 0 [] [] rfl (le_upd (le_top _) (o1 .sc)) an)⟩
              ·refine AWops.guard_no rfl (nl rfl) rfl c204 ?_
               refine s_pick_no (d := (sb false)) rfl c204 rfl (s_assign (d := (sb false)) rfl (AWops.nil (AW.ret ?_)))
               obtain rfl := Option.some.inj h
               exact ⟨_, rfl, (wg 0 [] [] rfl (le_upd (le_top _) (o1 .sc)) an)⟩
             ·refine AW.cond_no rfl c203 (AW.skip (AW.seq (AW.region ?_)))
              refine s_move (d := (sb false)) rfl (s_move (d := (sb false)) rfl ?_)
              refine AWops.guard_no rfl (nl rfl) rfl rfl ?_
              refine s_pick_no (d := (sb false)) rfl rfl rfl (s_assign (d := (sb false)) rfl (AWops.nil (AW.ret ?_)))
              obtain rfl := Option.some.inj h
              exact ⟨_, rfl, (wg 0 [] [] rfl (le_upd (le_top _) (o1 .sc)) an)⟩
           ·iterate 4 refine AWops.guard_no rfl (nl rfl) rfl c197 ?_
            refine s_pick_no (d := (sb false)) rfl c197 rfl (s_assign (d := (sb false)) rfl (AWops.nil (AW.seq (AW.seq (AW.region (s_move (d := (si x33)) rfl (AWops.nil (AW.block (AW.seq (AW.region (s_binI (v := (.bool (x33 == 0))) rfl rfl rfl (s_assign (d := (sb (x33 == 0))) rfl (AWops.nil ?_)))))))))))))
            rcases itH h with ⟨c206, h⟩ | ⟨c206, h⟩
            ·refine AW.cond_yes rfl c206 (AW.seq (AW.region ?_))
             refine s_move (d := (sb false)) rfl (s_move (d := (sb false)) rfl ?_)
             refine AWops.guard_no rfl (nl rfl) rfl rfl ?_
             refine s_pick_no (d := (sb false)) rfl rfl rfl (s_assign (d := (sb false)) rfl (AWops.nil (AW.ret ?_)))
             obtain rfl := Option.some.inj h
             exact ⟨_, rfl, (wg 0 [] [] rfl (le_upd (le_top _) (o1 .sc)) an)⟩
            ·refine AW.cond_no rfl c206 (AW.seq (AW.region ?_))
             refine s_binI (v := (.bool (x33 == 70))) rfl rfl rfl (s_assign (d := (sb (x33 == 70))) rfl (AWops.nil ?_))
             rcases itH h with ⟨c207, h⟩ | ⟨c207, h⟩
             ·refine AW.cond_yes rfl c207 (AW.seq (AW.region ?_))
              refine s_move (d := (sb false)) rfl (s_move (d := (sb false)) rfl ?_)
              refine AWops.guard_yes rfl (nl rfl) rfl rfl ?_
              refine s_move (d := (sb false)) rfl (s_pick_no (d := (sb false)) rfl rfl rfl (s_move (d := (sb false)) rfl ?_))
              refine AWops.guard_no rfl (nl rfl) rfl rfl ?_
              refine s_pick_no (d := (sb false)) rfl rfl rfl (s_assign (d := (sb false)) rfl (AWops.nil (AW.ret ?_)))
              obtain rfl := Option.some.inj h
              exact ⟨_, rfl, (wg 0 [] [] rfl (le_upd (le_top _) (o1 .sc)) an)⟩
             ·refine AW.cond_no rfl c207 (AW.skip (AW.seq (AW.region ?_)))
              refine s_move (d := (sb false)) rfl (s_move (d := (sb false)) rfl ?_)
              refine AWops.guard_no rfl (nl rfl) rfl rfl ?_
              refine s_pick_no (d := (sb false)) rfl rfl rfl (s_assign (d := (sb false)) rfl (AWops.nil (AW.ret ?_)))
              obtain rfl := Option.some.inj h
              exact ⟨_, rfl, (wg 0 [] [] rfl (le_upd (le_top _) (o1 .sc)) an)⟩
end Go.Abs.GenK
