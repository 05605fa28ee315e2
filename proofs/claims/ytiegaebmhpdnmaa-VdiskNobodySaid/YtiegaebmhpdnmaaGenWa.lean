import Derived.Test.YtiegaebmhpdnmaaAbsZ
import Derived.Test.YtiegaebmhpdnmaaAbsSK
import Derived.Test.YtiegaebmhpdnmaaProg
set_option linter.unusedVariables false
set_option linter.unusedSimpArgs false
set_option maxRecDepth 100000
set_option maxHeartbeats 4000000
namespace Go.Abs.GenW
open Go.Abs Go.Proofs
structure dossierplain_Step where
 Op : Int
 N : Int
 Name : ByteArray
 To : ByteArray
 B : List Int
 Keeps : List Int
abbrev c_dossierplain_Step (x : dossierplain_Step) : List C := [(C.p true (.v (.int .i64 x.Op))), (C.p true (.v (.int .i64 x.N))), (C.p true (.v (.string x.Name))), (C.p true (.v (.string x.To))), (C.p false (.sl x.B.length (x.B.flatMap e_u8))), (C.p false (.sl x.Keeps.length (x.Keeps.flatMap e_i64)))]
abbrev p_dossierplain_Step (x : dossierplain_Step) : List P := [P.v (.int .i64 x.Op), P.v (.int .i64 x.N), P.v (.string x.Name), P.v (.string x.To), P.sl x.B.length (x.B.flatMap e_u8), P.sl x.Keeps.length (x.Keeps.flatMap e_i64)]
def e_dossierplain_Step (x : dossierplain_Step) : List P := e_i64 x.Op ++ e_i64 x.N ++ e_str x.Name ++ e_str x.To ++ (e_sl e_u8) x.B ++ (e_sl e_i64) x.Keeps
theorem e_dossierplain_Step_eq (x : dossierplain_Step) : e_dossierplain_Step x = [P.v (.int .i64 x.Op), P.v (.int .i64 x.N), P.v (.string x.Name), P.v (.string x.To), P.sl x.B.length (x.B.flatMap e_u8), P.sl x.Keeps.length (x.Keeps.flatMap e_i64)] := rfl
theorem e_dossierplain_Step_len (x : dossierplain_Step) : (e_dossierplain_Step x).length = 6 := by rw [e_dossierplain_Step_eq]; rfl
structure vdisk_file where
 b : List Int
 sure : Int
abbrev c_vdisk_file (x : vdisk_file) : List C := [(C.p false (.sl x.b.length (x.b.flatMap e_u8))), (C.p true (.v (.int .i64 x.sure)))]
abbrev p_vdisk_file (x : vdisk_file) : List P := [P.sl x.b.length (x.b.flatMap e_u8), P.v (.int .i64 x.sure)]
def e_vdisk_file (x : vdisk_file) : List P := (e_sl e_u8) x.b ++ e_i64 x.sure
theorem e_vdisk_file_eq (x : vdisk_file) : e_vdisk_file x = [P.sl x.b.length (x.b.flatMap e_u8), P.v (.int .i64 x.sure)] := rfl
theorem e_vdisk_file_len (x : vdisk_file) : (e_vdisk_file x).length = 2 := by rw [e_vdisk_file_eq]; rfl
structure vdisk_Disk where
 files : List (ByteArray × vdisk_file)
 room : Int
 used : Int
 fuse : Unit
 dead : Bool
namespace F
theorem z_50 : zeroOf Try.prog 50 = some (.agg #[(.map none), (.int .i64 0), (.int .i64 0), (.pointer none), (.bool false)]) := by kernel_rfl
theorem so_50 : structOk Try.prog 50 = true := by kernel_rfl
theorem fo_43_2 : fieldOf Try.prog 43 2 = some (2, 1, false) := by kernel_rfl
theorem u_25 : Try.prog.underlying 25 = some (.pointer 50) := by kernel_rfl
theorem ca_35 : callable Try.prog 35 = true := by kernel_rfl
theorem fo_43_4 : fieldOf Try.prog 43 4 = some (4, 1, false) := by kernel_rfl
theorem u_9 : Try.prog.underlying 9 = some (.string) := by kernel_rfl
theorem ca_31 : callable Try.prog 31 = true := by kernel_rfl
theorem u_22 : Try.prog.underlying 22 = some (.slice 5) := by kernel_rfl
theorem ca_32 : callable Try.prog 32 = true := by kernel_rfl
theorem fo_43_3 : fieldOf Try.prog 43 3 = some (3, 1, false) := by kernel_rfl
theorem fo_43_1 : fieldOf Try.prog 43 1 = some (1, 1, false) := by kernel_rfl
theorem fo_43_5 : fieldOf Try.prog 43 5 = some (5, 1, false) := by kernel_rfl
theorem ca_25 : callable Try.prog 25 = true := by kernel_rfl
theorem ca_17 : callable Try.prog 17 = true := by kernel_rfl
theorem u_55 : Try.prog.underlying 55 = some (.slice 9) := by kernel_rfl
theorem ca_24 : callable Try.prog 24 = true := by kernel_rfl
theorem ca_23 : callable Try.prog 23 = true := by kernel_rfl
theorem ca_11 : callable Try.prog 11 = true := by kernel_rfl
theorem ag_24 : aggOf Try.prog 24 = some false := by kernel_rfl
theorem ca_22 : callable Try.prog 22 = true := by kernel_rfl
theorem ag_3 : aggOf Try.prog 3 = some false := by kernel_rfl
theorem ca_21 : callable Try.prog 21 = true := by kernel_rfl
theorem ca_20 : callable Try.prog 20 = true := by kernel_rfl
theorem ag_9 : aggOf Try.prog 9 = some false := by kernel_rfl
theorem ca_19 : callable Try.prog 19 = true := by kernel_rfl
theorem ca_18 : callable Try.prog 18 = true := by kernel_rfl
theorem ca_10 : callable Try.prog 10 = true := by kernel_rfl
theorem ca_9 : callable Try.prog 9 = true := by kernel_rfl
theorem ag_22 : aggOf Try.prog 22 = some false := by kernel_rfl
theorem ca_12 : callable Try.prog 12 = true := by kernel_rfl
theorem ag_25 : aggOf Try.prog 25 = some false := by kernel_rfl
theorem u_51 : Try.prog.underlying 51 = some (.slice 25) := by kernel_rfl
theorem sz_25 : szOf Try.prog 25 = some 1 := by kernel_rfl
theorem fo_50_0 : fieldOf Try.prog 50 0 = some (0, 1, false) := by kernel_rfl
theorem u_47 : Try.prog.underlying 47 = some (.map 9 65) := by kernel_rfl
theorem ag_47 : aggOf Try.prog 47 = some false := by kernel_rfl
theorem fo_50_4 : fieldOf Try.prog 50 4 = some (4, 1, false) := by kernel_rfl
theorem ag_4 : aggOf Try.prog 4 = some false := by kernel_rfl
theorem fo_50_2 : fieldOf Try.prog 50 2 = some (2, 1, false) := by kernel_rfl
theorem ca_46 : callable Try.prog 46 = true := by kernel_rfl
theorem fo_50_3 : fieldOf Try.prog 50 3 = some (3, 1, false) := by kernel_rfl
theorem sz_48 : szOf Try.prog 48 = some 1 := by kernel_rfl
theorem fo_50_1 : fieldOf Try.prog 50 1 = some (1, 1, false) := by kernel_rfl
theorem sz_3 : szOf Try.prog 3 = some 1 := by kernel_rfl
theorem sz_9 : szOf Try.prog 9 = some 1 := by kernel_rfl
theorem sz_4 : szOf Try.prog 4 = some 1 := by kernel_rfl
theorem sz_50 : szOf Try.prog 50 = some 5 := by kernel_rfl
theorem ag_50 : aggOf Try.prog 50 = some true := by kernel_rfl
theorem z_65 : zeroOf Try.prog 65 = some (.agg #[(.slice none 0 0), (.int .i64 0)]) := by kernel_rfl
theorem u_48 : Try.prog.underlying 48 = some (.pointer 3) := by kernel_rfl
theorem ag_48 : aggOf Try.prog 48 = some false := by kernel_rfl
theorem sz_65 : szOf Try.prog 65 = some 2 := by kernel_rfl
theorem fo_65_0 : fieldOf Try.prog 65 0 = some (0, 1, false) := by kernel_rfl
theorem u_23 : Try.prog.underlying 23 = some (.slice 22) := by kernel_rfl
theorem sz_22 : szOf Try.prog 22 = some 1 := by kernel_rfl
theorem z_22 : zeroOf Try.prog 22 = some (.slice none 0 0) := by kernel_rfl
theorem sz_5 : szOf Try.prog 5 = some 1 := by kernel_rfl
theorem u_3 : Try.prog.underlying 3 = some (.int .i64) := by kernel_rfl
theorem in_5 : infoQ Try.prog 5 = some (some (.int .u8 0), 1, 1) := by kernel_rfl
theorem ca_54 : callable Try.prog 54 = true := by kernel_rfl
theorem ca_34 : callable Try.prog 34 = true := by kernel_rfl
theorem fo_65_1 : fieldOf Try.prog 65 1 = some (1, 1, false) := by kernel_rfl
theorem so_65 : structOk Try.prog 65 = true := by kernel_rfl
theorem ag_65 : aggOf Try.prog 65 = some true := by kernel_rfl
theorem ca_33 : callable Try.prog 33 = true := by kernel_rfl
theorem ca_47 : callable Try.prog 47 = true := by kernel_rfl
theorem ca_48 : callable Try.prog 48 = true := by kernel_rfl
theorem u_24 : Try.prog.underlying 24 = some (.slice 3) := by kernel_rfl
theorem z_5 : zeroOf Try.prog 5 = some (.int .u8 0) := by kernel_rfl
theorem ca_36 : callable Try.prog 36 = true := by kernel_rfl
theorem u_5 : Try.prog.underlying 5 = some (.int .u8) := by kernel_rfl
theorem z_3 : zeroOf Try.prog 3 = some (.int .i64 0) := by kernel_rfl
theorem ca_8 : callable Try.prog 8 = true := by kernel_rfl
theorem ca_14 : callable Try.prog 14 = true := by kernel_rfl
theorem z_25 : zeroOf Try.prog 25 = some (.pointer none) := by kernel_rfl
end F
def vdisk_Disk_none_nil0.f (k : Nat) : Option Bool := some true
theorem vdisk_Disk_none_nil0.meets (k : Nat) (r : Bool) (h : vdisk_Disk_none_nil0.f k = some r) : Meets Try.prog 35 [(sc (.pointer none))] [] (sc (.bool r)) [] := by
 unfold vdisk_Disk_none_nil0.f at h
 refine Meets.of_body (n := 12) Try.func35 rfl rfl (nl rfl) fun x hx => ?_
 replace hx : x.k = 0 := hx
 show AW _ x _ _ ⟨12, fr0 [(sc (.pointer none))], []⟩
 refine AW.seq (AW.region ?_)
 refine s_assign (d := (sc (.bool false))) rfl (AWops.nil (AW.seq (AW.region ?_)))
 refine s_move (d := (sc (.pointer none))) rfl ?_
 refine s_ptrNil (b := true) F.u_25 rfl (.inr ⟨⟨_, rfl⟩, rfl⟩) (.inl rfl) ?_
 refine s_move (d := (sc (.bool true))) rfl ?_
 iterate 5 refine AWops.guard_no rfl (nl rfl) rfl rfl ?_
 refine s_pick_yes (d := (sc (.bool true))) rfl rfl rfl ?_
 refine s_assign (d := (sc (.bool true))) rfl (AWops.nil (AW.ret ?_))
 obtain rfl := Option.some.inj h
 exact ⟨_, rfl, (Weak.gen (kk := 0) [] [] rfl rfl (by decide) (by decide) rfl rfl rfl (le_upd (le_top _) (.t (.one .sc))) an)⟩
theorem vdisk_Disk_none_nil0.const {k : Nat} {r : Bool} (h : vdisk_Disk_none_nil0.f k = some r) : r = true := by
 unfold vdisk_Disk_none_nil0.f at h
 exact (Option.some.inj h).symm
def vdisk_Disk_Read_nil0.f (k : Nat) (a1 : ByteArray) : Option ((List Int) × Int) := (vdisk_Disk_none_nil0.f k).bind fun r1 => some (([] : List Int), 2)
theorem vdisk_Disk_Read_nil0.meets (k : Nat) (a1 : ByteArray) (r : (List Int) × Int) (h : vdisk_Disk_Read_nil0.f k a1 = some r) : Meets Try.prog 12 [(sc (.pointer none)), (sc (.string a1))] [] (D.tup [(D.one (C.p false (.sl r.1.length (r.1.flatMap e_u8)))), (sc (.int .i64 r.2))]) [] := by
 unfold vdisk_Disk_Read_nil0.f at h
 refine Meets.of_body (n := 30) Try.func12 rfl rfl (nl rfl) fun x hx => ?_
 replace hx : x.k = 0 := hx
 show AW _ x _ _ ⟨30, fr0 [(sc (.pointer none)), (sc (.string a1))], []⟩
 refine AW.seq (AW.region ?_)
 refine s_assign (d := (sc (.slice none 0 0))) rfl ?_
 refine s_assign (d := (sc (.int .i64 0))) rfl (AWops.nil (AW.seq (AW.block (AW.seq (AW.region ?_)))))
 refine s_move (d := (sc (.pointer none))) rfl ?_
 obtain ⟨r1, er1, h⟩ := bnd h
 have kr1 := vdisk_Disk_none_nil0.const er1
 subst kr1
 refine s_call2 (ρ := []) (br := false) (H2 := []) (d := (sc (.bool true))) F.ca_35 rfl rfl (ac (.one .sc) an) an (by decide) rfl (vdisk_Disk_none_nil0.meets _  true er1) (.inl rfl) rfl rfl ?_
 refine s_assign (d := (sc (.bool true))) rfl (AWops.nil ?_)
 refine AW.cond_yes rfl rfl (AW.seq (AW.region ?_))
 refine s_assign (d := (sc (.slice none 0 0))) rfl ?_
 refine s_assign (d := (sc (.int .i64 2))) rfl (AWops.nil (AW.ret ?_))
 obtain rfl := Option.some.inj h
 exact ⟨_, rfl, (Weak.gen (kk := 0) [] [] rfl rfl (by decide) (by decide) rfl rfl rfl (le_upd (le_top _) (DLe.tup (ac (TLe.one .nil) (ac (TLe.one .sc) an)))) an)⟩
def vdisk_named.f (k : Nat) (a0 : ByteArray) : Option Bool := if (a0.toList == (⟨#[]⟩ : ByteArray).toList) = true then (some false) else (some (decide ((a0.size : Int) ≤ 64)))
theorem vdisk_named.meets (k : Nat) (a0 : ByteArray) (r : Bool) (h : vdisk_named.f k a0 = some r) : Meets Try.prog 32 [(sc (.string a0))] [] (sc (.bool r)) [] := by
 unfold vdisk_named.f at h
 refine Meets.of_body (n := 10) Try.func32 rfl rfl (nl rfl) fun x hx => ?_
 replace hx : x.k = 0 := hx
 show AW _ x _ _ ⟨10, fr0 [(sc (.string a0))], []⟩
 refine AW.seq (AW.region ?_)
 refine s_assign (d := (sc (.bool false))) rfl (AWops.nil (AW.seq (AW.region ?_)))
 refine s_move (d := (sc (.string a0))) rfl ?_
 refine s_binS (v := (.bool (!(a0.toList == (⟨#[]⟩ : ByteArray).toList)))) rfl rfl rfl ?_
 refine s_move (d := (sc (.bool (!(a0.toList == (⟨#[]⟩ : ByteArray).toList))))) rfl ?_
 rcases itH h with ⟨c1, h⟩ | ⟨c1, h⟩
 ·iterate 3 refine AWops.guard_no rfl (nl rfl) rfl (by rw [c1] <;> rfl) ?_
  refine s_pick_no (d := (sc (.bool false))) rfl (by rw [c1] <;> rfl) rfl ?_
  refine s_assign (d := (sc (.bool false))) rfl (AWops.nil (AW.ret ?_))
  obtain rfl := Option.some.inj h
  exact ⟨_, rfl, (Weak.gen (kk := 0) [] [] rfl rfl (by decide) (by decide) rfl rfl rfl (le_upd (le_top _) (.t (.one .sc))) an)⟩
 ·refine AWops.guard_yes rfl (nl rfl) rfl (by rw [c1] <;> rfl) ?_
  refine s_move (d := (sc (.string a0))) rfl ?_
  refine AWops.guard_yes rfl (nl rfl) rfl (by rw [c1] <;> rfl) ?_
  refine s_len (n := a0.size) F.u_9 rfl (.inl ⟨⟨_, _, rfl⟩, rfl⟩) ?_
  refine AWops.guard_yes rfl (nl rfl) rfl (by rw [c1] <;> rfl) ?_
  refine s_binI (v := (.bool (decide ((a0.size : Int) ≤ 64)))) rfl rfl rfl ?_
  refine s_pick_yes (d := (sc (.bool (decide ((a0.size : Int) ≤ 64))))) rfl (by rw [c1] <;> rfl) rfl ?_
  refine s_assign (d := (sc (.bool (decide ((a0.size : Int) ≤ 64))))) rfl (AWops.nil (AW.ret ?_))
  obtain rfl := Option.some.inj h
  exact ⟨_, rfl, (Weak.gen (kk := 0) [] [] rfl rfl (by decide) (by decide) rfl rfl rfl (le_upd (le_top _) (.t (.one .sc))) an)⟩
def vdisk_Disk_change_nil0.f (k : Nat) (a1 : Bool) (a2 : ByteArray) (a3 : Bool) (a4 : Int) : Option Int := (vdisk_Disk_none_nil0.f k).bind fun r1 => some 2
theorem vdisk_Disk_change_nil0.meets (k : Nat) (a1 : Bool) (a2 : ByteArray) (a3 : Bool) (a4 : Int) (r : Int) (h : vdisk_Disk_change_nil0.f k a1 a2 a3 a4 = some r) : Meets Try.prog 31 [(sc (.pointer none)), (sc (.bool a1)), (sc (.string a2)), (sc (.bool a3)), (sc (.int .i64 a4))] [] (sc (.int .i64 r)) [] := by
 unfold vdisk_Disk_change_nil0.f at h
 refine Meets.of_body (n := 77) Try.func31 rfl rfl (nl rfl) fun x hx => ?_
 replace hx : x.k = 0 := hx
 show AW _ x _ _ ⟨77, fr0 [(sc (.pointer none)), (sc (.bool a1)), (sc (.string a2)), (sc (.bool a3)), (sc (.int .i64 a4))], []⟩
 refine AW.seq (AW.region ?_)
 refine s_assign (d := (sc (.int .i64 0))) rfl (AWops.nil (AW.seq (AW.block (AW.seq (AW.region ?_)))))
 refine s_move (d := (sc (.pointer none))) rfl ?_
 obtain ⟨r1, er1, h⟩ := bnd h
 have kr1 := vdisk_Disk_none_nil0.const er1
 subst kr1
 refine s_call2 (ρ := []) (br := false) (H2 := []) (d := (sc (.bool true))) F.ca_35 rfl rfl (ac (.one .sc) an) an (by decide) rfl (vdisk_Disk_none_nil0.meets _  true er1) (.inl rfl) rfl rfl ?_
 refine s_assign (d := (sc (.bool true))) rfl (AWops.nil ?_)
 refine AW.cond_yes rfl rfl (AW.seq (AW.region ?_))
 refine s_assign (d := (sc (.int .i64 2))) rfl (AWops.nil (AW.ret ?_))
 obtain rfl := Option.some.inj h
 exact ⟨_, rfl, (Weak.gen (kk := 0) [] [] rfl rfl (by decide) (by decide) rfl rfl rfl (le_upd (le_top _) (.t (.one .sc))) an)⟩
theorem vdisk_Disk_change_nil0.const {k : Nat} {a1 : Bool} {a2 : ByteArray} {a3 : Bool} {a4 : Int} {r : Int} (h : vdisk_Disk_change_nil0.f k a1 a2 a3 a4 = some r) : r = 2 := by
 unfold vdisk_Disk_change_nil0.f at h
 obtain ⟨_, _, h⟩ := bnd h
 exact (Option.some.inj h).symm
def vdisk_Disk_Append_nil0.f (k : Nat) (a1 : ByteArray) (a2 : List Int) : Option Int := (vdisk_named.f k a1).bind fun r1 => (vdisk_Disk_change_nil0.f k r1 a1 true (a2.length : Int)).bind fun r2 => some 2
theorem vdisk_Disk_Append_nil0.meets (k : Nat) (a1 : ByteArray) (a2 : List Int) (r : Int) (h : vdisk_Disk_Append_nil0.f k a1 a2 = some r) : Meets Try.prog 9 [(sc (.pointer none)), (sc (.string a1)), (D.one (C.p false (.sl a2.length (a2.flatMap e_u8))))] [] (sc (.int .i64 r)) [] := by
 unfold vdisk_Disk_Append_nil0.f at h
 refine Meets.of_body (n := 36) Try.func9 rfl rfl (nl rfl) fun x hx => ?_
 replace hx : x.k = 0 := hx
 show AW _ x _ _ ⟨36, fr0 [(sc (.pointer none)), (sc (.string a1)), (D.one (C.p false (.sl a2.length (a2.flatMap e_u8))))], []⟩
 refine AW.seq (AW.region ?_)
 refine s_assign (d := (sc (.int .i64 0))) rfl (AWops.nil (AW.seq (AW.region ?_)))
 refine s_move (d := (sc (.pointer none))) rfl ?_
 refine s_move (d := (sc (.string a1))) rfl ?_
 obtain ⟨r1, er1, h⟩ := bnd h
 refine s_call2 (ρ := []) (br := false) (H2 := []) (d := (sc (.bool r1))) F.ca_32 rfl rfl (ac (.one .sc) an) an (by decide) rfl (vdisk_named.meets _ a1 r1 er1) (.inl rfl) rfl rfl ?_
 refine s_move (d := (sc (.string a1))) rfl ?_
 refine s_move (d := (D.one (C.p false (.sl a2.length (a2.flatMap e_u8))))) rfl ?_
 refine s_len (n := a2.length) F.u_22 rfl (.inr ⟨(fun _ _ h => by cases h), ⟨_, rfl⟩⟩) ?_
 obtain ⟨r2, er2, h⟩ := bnd h
 have kr2 := vdisk_Disk_change_nil0.const er2
 subst kr2
 refine s_call2 (ρ := []) (br := false) (H2 := []) (d := (sc (.int .i64 2))) F.ca_31 rfl rfl (ac (.one .sc) (ac (.one .sc) (ac (.one .sc) (ac (.one .sc) (ac (.one .sc) an))))) an (by decide) rfl (vdisk_Disk_change_nil0.meets _ r1 a1 true (a2.length : Int) 2 er2) (.inl rfl) rfl rfl ?_
 refine s_assign (d := (sc (.int .i64 2))) rfl (AWops.nil (AW.seq (AW.seq (AW.region ?_))))
 refine s_move (d := (sc (.int .i64 2))) rfl ?_
 refine s_binI (v := (.bool false)) rfl rfl rfl (AWops.nil ?_)
 refine AW.cond_no rfl rfl (AW.skip (AW.seq (AW.region ?_)))
 refine s_move (d := (sc (.int .i64 2))) rfl ?_
 refine s_assign (d := (sc (.int .i64 2))) rfl (AWops.nil (AW.ret ?_))
 obtain rfl := Option.some.inj h
 exact ⟨_, rfl, (Weak.gen (kk := 0) [] [] rfl rfl (by decide) (by decide) rfl rfl rfl (le_upd (le_top _) (.t (.one .sc))) an)⟩
theorem vdisk_Disk_Append_nil0.const {k : Nat} {a1 : ByteArray} {a2 : List Int} {r : Int} (h : vdisk_Disk_Append_nil0.f k a1 a2 = some r) : r = 2 := by
 unfold vdisk_Disk_Append_nil0.f at h
 obtain ⟨_, _, h⟩ := bnd h
 obtain ⟨_, _, h⟩ := bnd h
 exact (Option.some.inj h).symm
def vdisk_Disk_Sync_nil0.f (k : Nat) (a1 : ByteArray) : Option Int := (vdisk_Disk_change_nil0.f k true a1 false 0).bind fun r1 => some 2
theorem vdisk_Disk_Sync_nil0.meets (k : Nat) (a1 : ByteArray) (r : Int) (h : vdisk_Disk_Sync_nil0.f k a1 = some r) : Meets Try.prog 10 [(sc (.pointer none)), (sc (.string a1))] [] (sc (.int .i64 r)) [] := by
 unfold vdisk_Disk_Sync_nil0.f at h
 refine Meets.of_body (n := 27) Try.func10 rfl rfl (nl rfl) fun x hx => ?_
 replace hx : x.k = 0 := hx
 show AW _ x _ _ ⟨27, fr0 [(sc (.pointer none)), (sc (.string a1))], []⟩
 refine AW.seq (AW.region ?_)
 refine s_assign (d := (sc (.int .i64 0))) rfl (AWops.nil (AW.seq (AW.region ?_)))
 refine s_move (d := (sc (.pointer none))) rfl ?_
 refine s_move (d := (sc (.string a1))) rfl ?_
 obtain ⟨r1, er1, h⟩ := bnd h
 have kr1 := vdisk_Disk_change_nil0.const er1
 subst kr1
 refine s_call2 (ρ := []) (br := false) (H2 := []) (d := (sc (.int .i64 2))) F.ca_31 rfl rfl (ac (.one .sc) (ac (.one .sc) (ac (.one .sc) (ac (.one .sc) (ac (.one .sc) an))))) an (by decide) rfl (vdisk_Disk_change_nil0.meets _ true a1 false 0 2 er1) (.inl rfl) rfl rfl ?_
 refine s_assign (d := (sc (.int .i64 2))) rfl (AWops.nil (AW.seq (AW.seq (AW.region ?_))))
 refine s_move (d := (sc (.int .i64 2))) rfl ?_
 refine s_binI (v := (.bool false)) rfl rfl rfl (AWops.nil ?_)
 refine AW.cond_no rfl rfl (AW.skip (AW.seq (AW.region ?_)))
 refine s_move (d := (sc (.int .i64 2))) rfl ?_
 refine s_assign (d := (sc (.int .i64 2))) rfl (AWops.nil (AW.ret ?_))
 obtain rfl := Option.some.inj h
 exact ⟨_, rfl, (Weak.gen (kk := 0) [] [] rfl rfl (by decide) (by decide) rfl rfl rfl (le_upd (le_top _) (.t (.one .sc))) an)⟩
theorem vdisk_Disk_Sync_nil0.const {k : Nat} {a1 : ByteArray} {r : Int} (h : vdisk_Disk_Sync_nil0.f k a1 = some r) : r = 2 := by
 unfold vdisk_Disk_Sync_nil0.f at h
 obtain ⟨_, _, h⟩ := bnd h
 exact (Option.some.inj h).symm
def vdisk_Disk_Rename_nil0.f (k : Nat) (a1 : ByteArray) (a2 : ByteArray) : Option Int := (vdisk_named.f k a2).bind fun r1 => (vdisk_Disk_change_nil0.f k r1 a1 false 0).bind fun r2 => some 2
theorem vdisk_Disk_Rename_nil0.meets (k : Nat) (a1 : ByteArray) (a2 : ByteArray) (r : Int) (h : vdisk_Disk_Rename_nil0.f k a1 a2 = some r) : Meets Try.prog 18 [(sc (.pointer none)), (sc (.string a1)), (sc (.string a2))] [] (sc (.int .i64 r)) [] := by
 unfold vdisk_Disk_Rename_nil0.f at h
 refine Meets.of_body (n := 35) Try.func18 rfl rfl (nl rfl) fun x hx => ?_
 replace hx : x.k = 0 := hx
 show AW _ x _ _ ⟨35, fr0 [(sc (.pointer none)), (sc (.string a1)), (sc (.string a2))], []⟩
 refine AW.seq (AW.region ?_)
 refine s_assign (d := (sc (.int .i64 0))) rfl (AWops.nil (AW.seq (AW.region ?_)))
 refine s_move (d := (sc (.pointer none))) rfl ?_
 refine s_move (d := (sc (.string a2))) rfl ?_
 obtain ⟨r1, er1, h⟩ := bnd h
 refine s_call2 (ρ := []) (br := false) (H2 := []) (d := (sc (.bool r1))) F.ca_32 rfl rfl (ac (.one .sc) an) an (by decide) rfl (vdisk_named.meets _ a2 r1 er1) (.inl rfl) rfl rfl ?_
 refine s_move (d := (sc (.string a1))) rfl ?_
 obtain ⟨r2, er2, h⟩ := bnd h
 have kr2 := vdisk_Disk_change_nil0.const er2
 subst kr2
 refine s_call2 (ρ := []) (br := false) (H2 := []) (d := (sc (.int .i64 2))) F.ca_31 rfl rfl (ac (.one .sc) (ac (.one .sc) (ac (.one .sc) (ac (.one .sc) (ac (.one .sc) an))))) an (by decide) rfl (vdisk_Disk_change_nil0.meets _ r1 a1 false 0 2 er2) (.inl rfl) rfl rfl ?_
 refine s_assign (d := (sc (.int .i64 2))) rfl (AWops.nil (AW.seq (AW.seq (AW.region ?_))))
 refine s_move (d := (sc (.int .i64 2))) rfl ?_
 refine s_binI (v := (.bool false)) rfl rfl rfl ?_
 refine s_move (d := (sc (.bool false))) rfl ?_
 iterate 3 refine AWops.guard_no rfl (nl rfl) rfl rfl ?_
 refine s_pick_no (d := (sc (.bool false))) rfl rfl rfl (AWops.nil ?_)
 refine AW.cond_no rfl rfl (AW.skip (AW.seq (AW.region ?_)))
 refine s_move (d := (sc (.int .i64 2))) rfl ?_
 refine s_assign (d := (sc (.int .i64 2))) rfl (AWops.nil (AW.ret ?_))
 obtain rfl := Option.some.inj h
 exact ⟨_, rfl, (Weak.gen (kk := 0) [] [] rfl rfl (by decide) (by decide) rfl rfl rfl (le_upd (le_top _) (.t (.one .sc))) an)⟩
theorem vdisk_Disk_Rename_nil0.const {k : Nat} {a1 : ByteArray} {a2 : ByteArray} {r : Int} (h : vdisk_Disk_Rename_nil0.f k a1 a2 = some r) : r = 2 := by
 unfold vdisk_Disk_Rename_nil0.f at h
 obtain ⟨_, _, h⟩ := bnd h
 obtain ⟨_, _, h⟩ := bnd h
 exact (Option.some.inj h).symm
def vdisk_Disk_Truncate_nil0.f (k : Nat) (a1 : ByteArray) (a2 : Int) : Option Int := (vdisk_Disk_change_nil0.f k (decide (a2 ≥ 0)) a1 false 0).bind fun r1 => some 2
theorem vdisk_Disk_Truncate_nil0.meets (k : Nat) (a1 : ByteArray) (a2 : Int) (r : Int) (h : vdisk_Disk_Truncate_nil0.f k a1 a2 = some r) : Meets Try.prog 19 [(sc (.pointer none)), (sc (.string a1)), (sc (.int .i64 a2))] [] (sc (.int .i64 r)) [] := by
 unfold vdisk_Disk_Truncate_nil0.f at h
 refine Meets.of_body (n := 41) Try.func19 rfl rfl (nl rfl) fun x hx => ?_
 replace hx : x.k = 0 := hx
 show AW _ x _ _ ⟨41, fr0 [(sc (.pointer none)), (sc (.string a1)), (sc (.int .i64 a2))], []⟩
 refine AW.seq (AW.region ?_)
 refine s_assign (d := (sc (.int .i64 0))) rfl (AWops.nil (AW.seq (AW.region ?_)))
 refine s_move (d := (sc (.pointer none))) rfl ?_
 refine s_move (d := (sc (.int .i64 a2))) rfl ?_
 refine s_binI (v := (.bool (decide (a2 ≥ 0)))) rfl rfl rfl ?_
 refine s_move (d := (sc (.string a1))) rfl ?_
 obtain ⟨r1, er1, h⟩ := bnd h
 have kr1 := vdisk_Disk_change_nil0.const er1
 subst kr1
 refine s_call2 (ρ := []) (br := false) (H2 := []) (d := (sc (.int .i64 2))) F.ca_31 rfl rfl (ac (.one .sc) (ac (.one .sc) (ac (.one .sc) (ac (.one .sc) (ac (.one .sc) an))))) an (by decide) rfl (vdisk_Disk_change_nil0.meets _ (decide (a2 ≥ 0)) a1 false 0 2 er1) (.inl rfl) rfl rfl ?_
 refine s_assign (d := (sc (.int .i64 2))) rfl (AWops.nil (AW.seq (AW.seq (AW.region ?_))))
 refine s_move (d := (sc (.int .i64 2))) rfl ?_
 refine s_binI (v := (.bool false)) rfl rfl rfl (AWops.nil ?_)
 refine AW.cond_no rfl rfl (AW.skip (AW.seq (AW.region ?_)))
 refine s_move (d := (sc (.int .i64 2))) rfl ?_
 refine s_assign (d := (sc (.int .i64 2))) rfl (AWops.nil (AW.ret ?_))
 obtain rfl := Option.some.inj h
 exact ⟨_, rfl, (Weak.gen (kk := 0) [] [] rfl rfl (by decide) (by decide) rfl rfl rfl (le_upd (le_top _) (.t (.one .sc))) an)⟩
theorem vdisk_Disk_Truncate_nil0.const {k : Nat} {a1 : ByteArray} {a2 : Int} {r : Int} (h : vdisk_Disk_Truncate_nil0.f k a1 a2 = some r) : r = 2 := by
 unfold vdisk_Disk_Truncate_nil0.f at h
 obtain ⟨_, _, h⟩ := bnd h
 exact (Option.some.inj h).symm
def vdisk_Disk_Remove_nil0.f (k : Nat) (a1 : ByteArray) : Option Int := (vdisk_Disk_change_nil0.f k true a1 false 0).bind fun r1 => some 2
theorem vdisk_Disk_Remove_nil0.meets (k : Nat) (a1 : ByteArray) (r : Int) (h : vdisk_Disk_Remove_nil0.f k a1 = some r) : Meets Try.prog 20 [(sc (.pointer none)), (sc (.string a1))] [] (sc (.int .i64 r)) [] := by
 unfold vdisk_Disk_Remove_nil0.f at h
 refine Meets.of_body (n := 15) Try.func20 rfl rfl (nl rfl) fun x hx => ?_
 replace hx : x.k = 0 := hx
 show AW _ x _ _ ⟨15, fr0 [(sc (.pointer none)), (sc (.string a1))], []⟩
 refine AW.seq (AW.region ?_)
 refine s_assign (d := (sc (.int .i64 0))) rfl (AWops.nil (AW.seq (AW.region ?_)))
 refine s_move (d := (sc (.pointer none))) rfl ?_
 refine s_move (d := (sc (.string a1))) rfl ?_
 obtain ⟨r1, er1, h⟩ := bnd h
 have kr1 := vdisk_Disk_change_nil0.const er1
 subst kr1
 refine s_call2 (ρ := []) (br := false) (H2 := []) (d := (sc (.int .i64 2))) F.ca_31 rfl rfl (ac (.one .sc) (ac (.one .sc) (ac (.one .sc) (ac (.one .sc) (ac (.one .sc) an))))) an (by decide) rfl (vdisk_Disk_change_nil0.meets _ true a1 false 0 2 er1) (.inl rfl) rfl rfl ?_
 refine s_assign (d := (sc (.int .i64 2))) rfl (AWops.nil (AW.seq (AW.seq (AW.region ?_))))
 refine s_move (d := (sc (.int .i64 2))) rfl ?_
 refine s_binI (v := (.bool false)) rfl rfl rfl (AWops.nil ?_)
 refine AW.cond_no rfl rfl (AW.skip (AW.seq (AW.region ?_)))
 refine s_move (d := (sc (.int .i64 2))) rfl ?_
 refine s_assign (d := (sc (.int .i64 2))) rfl (AWops.nil (AW.ret ?_))
 obtain rfl := Option.some.inj h
 exact ⟨_, rfl, (Weak.gen (kk := 0) [] [] rfl rfl (by decide) (by decide) rfl rfl rfl (le_upd (le_top _) (.t (.one .sc))) an)⟩
theorem vdisk_Disk_Remove_nil0.const {k : Nat} {a1 : ByteArray} {r : Int} (h : vdisk_Disk_Remove_nil0.f k a1 = some r) : r = 2 := by
 unfold vdisk_Disk_Remove_nil0.f at h
 obtain ⟨_, _, h⟩ := bnd h
 exact (Option.some.inj h).symm
def vdisk_Disk_Fuse_nil0.f (k : Nat) (a1 : Int) : Option Int := (vdisk_Disk_none_nil0.f k).bind fun r1 => some 2
theorem vdisk_Disk_Fuse_nil0.meets (k : Nat) (a1 : Int) (r : Int) (h : vdisk_Disk_Fuse_nil0.f k a1 = some r) : Meets Try.prog 21 [(sc (.pointer none)), (sc (.int .i64 a1))] [] (sc (.int .i64 r)) [] := by
 unfold vdisk_Disk_Fuse_nil0.f at h
 refine Meets.of_body (n := 14) Try.func21 rfl rfl (nl rfl) fun x hx => ?_
 replace hx : x.k = 0 := hx
 show AW _ x _ _ ⟨14, fr0 [(sc (.pointer none)), (sc (.int .i64 a1))], []⟩
 refine AW.seq (AW.region ?_)
 refine s_box (cs := [(C.p true (.v (.int .i64 a1)))]) rfl (List.cons_ne_nil _ _) rfl ?_
 refine s_assign (d := (sc (.int .i64 0))) rfl (AWops.nil (AW.seq (AW.block (AW.seq (AW.region ?_)))))
 refine s_move (d := (sc (.pointer none))) rfl ?_
 obtain ⟨r1, er1, h⟩ := bnd h
 have kr1 := vdisk_Disk_none_nil0.const er1
 subst kr1
 refine s_call2 (ρ := []) (br := false) (H2 := [(some (AObj.cells true [(C.p true (.v (.int .i64 a1)))]))]) (d := (sc (.bool true))) F.ca_35 rfl rfl (ac (.one .sc) an) an (by decide) rfl (vdisk_Disk_none_nil0.meets _  true er1) (.inl rfl) rfl rfl ?_
 refine s_assign (d := (sc (.bool true))) rfl (AWops.nil ?_)
 refine AW.cond_yes rfl rfl (AW.seq (AW.region ?_))
 refine s_assign (d := (sc (.int .i64 2))) rfl (AWops.nil (AW.ret ?_))
 obtain rfl := Option.some.inj h
 exact ⟨_, rfl, (Weak.gen (kk := 0) [] [] rfl rfl (by decide) (by decide) rfl rfl rfl (le_upd (le_top _) (.t (.one .sc))) an)⟩
theorem vdisk_Disk_Fuse_nil0.const {k : Nat} {a1 : Int} {r : Int} (h : vdisk_Disk_Fuse_nil0.f k a1 = some r) : r = 2 := by
 unfold vdisk_Disk_Fuse_nil0.f at h
 obtain ⟨_, _, h⟩ := bnd h
 exact (Option.some.inj h).symm
def vdisk_Disk_Room_nil0.f (k : Nat) (a1 : Int) : Option Int := (vdisk_Disk_none_nil0.f k).bind fun r1 => some 2
theorem vdisk_Disk_Room_nil0.meets (k : Nat) (a1 : Int) (r : Int) (h : vdisk_Disk_Room_nil0.f k a1 = some r) : Meets Try.prog 22 [(sc (.pointer none)), (sc (.int .i64 a1))] [] (sc (.int .i64 r)) [] := by
 unfold vdisk_Disk_Room_nil0.f at h
 refine Meets.of_body (n := 19) Try.func22 rfl rfl (nl rfl) fun x hx => ?_
 replace hx : x.k = 0 := hx
 show AW _ x _ _ ⟨19, fr0 [(sc (.pointer none)), (sc (.int .i64 a1))], []⟩
 refine AW.seq (AW.region ?_)
 refine s_assign (d := (sc (.int .i64 0))) rfl (AWops.nil (AW.seq (AW.block (AW.seq (AW.region ?_)))))
 refine s_move (d := (sc (.pointer none))) rfl ?_
 obtain ⟨r1, er1, h⟩ := bnd h
 have kr1 := vdisk_Disk_none_nil0.const er1
 subst kr1
 refine s_call2 (ρ := []) (br := false) (H2 := []) (d := (sc (.bool true))) F.ca_35 rfl rfl (ac (.one .sc) an) an (by decide) rfl (vdisk_Disk_none_nil0.meets _  true er1) (.inl rfl) rfl rfl ?_
 refine s_assign (d := (sc (.bool true))) rfl (AWops.nil ?_)
 refine AW.cond_yes rfl rfl (AW.seq (AW.region ?_))
 refine s_assign (d := (sc (.int .i64 2))) rfl (AWops.nil (AW.ret ?_))
 obtain rfl := Option.some.inj h
 exact ⟨_, rfl, (Weak.gen (kk := 0) [] [] rfl rfl (by decide) (by decide) rfl rfl rfl (le_upd (le_top _) (.t (.one .sc))) an)⟩
theorem vdisk_Disk_Room_nil0.const {k : Nat} {a1 : Int} {r : Int} (h : vdisk_Disk_Room_nil0.f k a1 = some r) : r = 2 := by
 unfold vdisk_Disk_Room_nil0.f at h
 obtain ⟨_, _, h⟩ := bnd h
 exact (Option.some.inj h).symm
def vdisk_Disk_Crash_nil0.f (k : Nat) (a1 : List Int) : Option Int := (vdisk_Disk_none_nil0.f k).bind fun r1 => some 2
theorem vdisk_Disk_Crash_nil0.meets (k : Nat) (a1 : List Int) (r : Int) (h : vdisk_Disk_Crash_nil0.f k a1 = some r) : Meets Try.prog 11 [(sc (.pointer none)), (D.one (C.p false (.sl a1.length (a1.flatMap e_i64))))] [] (sc (.int .i64 r)) [] := by
 unfold vdisk_Disk_Crash_nil0.f at h
 refine Meets.of_body (n := 69) Try.func11 rfl rfl (nl rfl) fun x hx => ?_
 replace hx : x.k = 0 := hx
 show AW _ x _ _ ⟨69, fr0 [(sc (.pointer none)), (D.one (C.p false (.sl a1.length (a1.flatMap e_i64))))], []⟩
 refine AW.seq (AW.region ?_)
 refine s_assign (d := (sc (.int .i64 0))) rfl (AWops.nil (AW.seq (AW.seq (AW.region ?_))))
 refine s_move (d := (sc (.pointer none))) rfl ?_
 obtain ⟨r1, er1, h⟩ := bnd h
 have kr1 := vdisk_Disk_none_nil0.const er1
 subst kr1
 refine s_call2 (ρ := []) (br := false) (H2 := []) (d := (sc (.bool true))) F.ca_35 rfl rfl (ac (.one .sc) an) an (by decide) rfl (vdisk_Disk_none_nil0.meets _  true er1) (.inl rfl) rfl rfl (AWops.nil ?_)
 refine AW.cond_yes rfl rfl (AW.seq (AW.region ?_))
 refine s_assign (d := (sc (.int .i64 2))) rfl (AWops.nil (AW.ret ?_))
 obtain rfl := Option.some.inj h
 exact ⟨_, rfl, (Weak.gen (kk := 0) [] [] rfl rfl (by decide) (by decide) rfl rfl rfl (le_upd (le_top _) (.t (.one .sc))) an)⟩
theorem vdisk_Disk_Crash_nil0.const {k : Nat} {a1 : List Int} {r : Int} (h : vdisk_Disk_Crash_nil0.f k a1 = some r) : r = 2 := by
 unfold vdisk_Disk_Crash_nil0.f at h
 obtain ⟨_, _, h⟩ := bnd h
 exact (Option.some.inj h).symm
def vdisk_Disk_Dead_nil0.f (k : Nat) : Option Bool := (vdisk_Disk_none_nil0.f k).bind fun r1 => some true
theorem vdisk_Disk_Dead_nil0.meets (k : Nat) (r : Bool) (h : vdisk_Disk_Dead_nil0.f k = some r) : Meets Try.prog 23 [(sc (.pointer none))] [] (sc (.bool r)) [] := by
 unfold vdisk_Disk_Dead_nil0.f at h
 refine Meets.of_body (n := 11) Try.func23 rfl rfl (nl rfl) fun x hx => ?_
 replace hx : x.k = 0 := hx
 show AW _ x _ _ ⟨11, fr0 [(sc (.pointer none))], []⟩
 refine AW.seq (AW.region ?_)
 refine s_assign (d := (sc (.bool false))) rfl (AWops.nil (AW.seq (AW.region ?_)))
 refine s_move (d := (sc (.pointer none))) rfl ?_
 obtain ⟨r1, er1, h⟩ := bnd h
 have kr1 := vdisk_Disk_none_nil0.const er1
 subst kr1
 refine s_call2 (ρ := []) (br := false) (H2 := []) (d := (sc (.bool true))) F.ca_35 rfl rfl (ac (.one .sc) an) an (by decide) rfl (vdisk_Disk_none_nil0.meets _  true er1) (.inl rfl) rfl rfl ?_
 refine s_move (d := (sc (.bool true))) rfl ?_
 iterate 4 refine AWops.guard_no rfl (nl rfl) rfl rfl ?_
 refine s_pick_yes (d := (sc (.bool true))) rfl rfl rfl ?_
 refine s_assign (d := (sc (.bool true))) rfl (AWops.nil (AW.ret ?_))
 obtain rfl := Option.some.inj h
 exact ⟨_, rfl, (Weak.gen (kk := 0) [] [] rfl rfl (by decide) (by decide) rfl rfl rfl (le_upd (le_top _) (.t (.one .sc))) an)⟩
theorem vdisk_Disk_Dead_nil0.const {k : Nat} {r : Bool} (h : vdisk_Disk_Dead_nil0.f k = some r) : r = true := by
 unfold vdisk_Disk_Dead_nil0.f at h
 obtain ⟨_, _, h⟩ := bnd h
 exact (Option.some.inj h).symm
def vdisk_Disk_Names_nil0.f (k : Nat) : Option (List ByteArray) := (vdisk_Disk_none_nil0.f k).bind fun r1 => some ([] : List ByteArray)
theorem vdisk_Disk_Names_nil0.meets (k : Nat) (r : (List ByteArray)) (h : vdisk_Disk_Names_nil0.f k = some r) : Meets Try.prog 24 [(sc (.pointer none))] [] (D.one (C.own 0 0 r.length 1)) [(some (AObj.cells true (rowC e_str r)))] := by
 unfold vdisk_Disk_Names_nil0.f at h
 refine Meets.of_body (n := 11) Try.func24 rfl rfl (nl rfl) fun x hx => ?_
 replace hx : x.k = 0 := hx
 show AW _ x _ _ ⟨11, fr0 [(sc (.pointer none))], []⟩
 refine AW.seq (AW.region ?_)
 refine s_assign (d := (sc (.slice none 0 0))) rfl (AWops.nil (AW.seq (AW.seq (AW.region ?_))))
 refine s_move (d := (sc (.pointer none))) rfl ?_
 obtain ⟨r1, er1, h⟩ := bnd h
 have kr1 := vdisk_Disk_none_nil0.const er1
 subst kr1
 refine s_call2 (ρ := []) (br := false) (H2 := []) (d := (sc (.bool true))) F.ca_35 rfl rfl (ac (.one .sc) an) an (by decide) rfl (vdisk_Disk_none_nil0.meets _  true er1) (.inl rfl) rfl rfl (AWops.nil ?_)
 refine AW.cond_yes rfl rfl (AW.seq (AW.region ?_))
 refine s_assign (d := (sc (.slice none 0 0))) rfl (AWops.nil (AW.ret ?_))
 obtain rfl := Option.some.inj h
 exact ⟨_, rfl, (Weak.trans (Weak.nil (sz := 1) (i := 0) rfl) (Weak.gen (kk := 0) [0] [] rfl rfl (by decide) (by decide) rfl rfl rfl (le_upd (le_top _) (.t (.one (CLe.ownN rfl (by simp))))) (ac (.cells (fun h => h) an) an)))⟩
def vdisk_Disk_Used_nil0.f (k : Nat) : Option Int := (vdisk_Disk_none_nil0.f k).bind fun r1 => some 0
theorem vdisk_Disk_Used_nil0.meets (k : Nat) (r : Int) (h : vdisk_Disk_Used_nil0.f k = some r) : Meets Try.prog 17 [(sc (.pointer none))] [] (sc (.int .i64 r)) [] := by
 unfold vdisk_Disk_Used_nil0.f at h
 refine Meets.of_body (n := 9) Try.func17 rfl rfl (nl rfl) fun x hx => ?_
 replace hx : x.k = 0 := hx
 show AW _ x _ _ ⟨9, fr0 [(sc (.pointer none))], []⟩
 refine AW.seq (AW.region ?_)
 refine s_assign (d := (sc (.int .i64 0))) rfl (AWops.nil (AW.seq (AW.seq (AW.region ?_))))
 refine s_move (d := (sc (.pointer none))) rfl ?_
 obtain ⟨r1, er1, h⟩ := bnd h
 have kr1 := vdisk_Disk_none_nil0.const er1
 subst kr1
 refine s_call2 (ρ := []) (br := false) (H2 := []) (d := (sc (.bool true))) F.ca_35 rfl rfl (ac (.one .sc) an) an (by decide) rfl (vdisk_Disk_none_nil0.meets _  true er1) (.inl rfl) rfl rfl (AWops.nil ?_)
 refine AW.cond_yes rfl rfl (AW.seq (AW.region ?_))
 refine s_assign (d := (sc (.int .i64 0))) rfl (AWops.nil (AW.ret ?_))
 obtain rfl := Option.some.inj h
 exact ⟨_, rfl, (Weak.gen (kk := 0) [] [] rfl rfl (by decide) (by decide) rfl rfl rfl (le_upd (le_top _) (.t (.one .sc))) an)⟩
theorem vdisk_Disk_Used_nil0.const {k : Nat} {r : Int} (h : vdisk_Disk_Used_nil0.f k = some r) : r = 0 := by
 unfold vdisk_Disk_Used_nil0.f at h
 obtain ⟨_, _, h⟩ := bnd h
 exact (Option.some.inj h).symm
def vdisk_Disk_Copy_nil0.f (k : Nat) : Option Unit := (vdisk_Disk_none_nil0.f k).bind fun r1 => some ()
theorem vdisk_Disk_Copy_nil0.meets (k : Nat) (r : Unit) (h : vdisk_Disk_Copy_nil0.f k = some r) : Meets Try.prog 25 [(sc (.pointer none))] [] (sc (.pointer none)) [] := by
 unfold vdisk_Disk_Copy_nil0.f at h
 refine Meets.of_body (n := 28) Try.func25 rfl rfl (nl rfl) fun x hx => ?_
 replace hx : x.k = 0 := hx
 show AW _ x _ _ ⟨28, fr0 [(sc (.pointer none))], []⟩
 refine AW.seq (AW.region ?_)
 refine s_assign (d := (sc (.pointer none))) rfl (AWops.nil (AW.seq (AW.seq (AW.region ?_))))
 refine s_move (d := (sc (.pointer none))) rfl ?_
 obtain ⟨r1, er1, h⟩ := bnd h
 have kr1 := vdisk_Disk_none_nil0.const er1
 subst kr1
 refine s_call2 (ρ := []) (br := false) (H2 := []) (d := (sc (.bool true))) F.ca_35 rfl rfl (ac (.one .sc) an) an (by decide) rfl (vdisk_Disk_none_nil0.meets _  true er1) (.inl rfl) rfl rfl (AWops.nil ?_)
 refine AW.cond_yes rfl rfl (AW.seq (AW.region ?_))
 refine s_assign (d := (sc (.pointer none))) rfl (AWops.nil (AW.ret ?_))
 obtain rfl := Option.some.inj h
 exact ⟨_, rfl, (Weak.gen (kk := 0) [] [] rfl rfl (by decide) (by decide) rfl rfl rfl (le_upd (le_top _) (.t (.one .sc))) an)⟩
def vdisk_Disk_none.f (k : Nat) (p0 : vdisk_Disk) : Option (Bool × vdisk_Disk) := some (true, (⟨([] : List (ByteArray × vdisk_file)), p0.room, p0.used, (), p0.dead⟩ : vdisk_Disk))
theorem vdisk_Disk_none.meets (k : Nat) (p0 : vdisk_Disk) (r : Bool × vdisk_Disk) (h : vdisk_Disk_none.f k p0 = some r) : Meets Try.prog 35 [(D.one (C.ref 0 0))] [(some (AObj.cells false [(C.p true (.v (.map none))), (C.p true (.v (.int .i64 p0.room))), (C.p true (.v (.int .i64 p0.used))), (C.p true (.v (.pointer none))), (C.p true (.v (.bool p0.dead)))]))] (sc (.bool r.1)) [(some (AObj.cells false [(C.p true (.v (.map none))), (C.p true (.v (.int .i64 r.2.room))), (C.p true (.v (.int .i64 r.2.used))), (C.p true (.v (.pointer none))), (C.p true (.v (.bool r.2.dead)))]))] := by
 unfold vdisk_Disk_none.f at h
 refine Meets.of_body (n := 12) Try.func35 rfl rfl (nl rfl) fun x hx => ?_
 replace hx : x.k = 1 := hx
 show AW _ x _ _ ⟨12, fr0 [(D.one (C.ref 0 0))], [(some (AObj.cells false [(C.p true (.v (.map none))), (C.p true (.v (.int .i64 p0.room))), (C.p true (.v (.int .i64 p0.used))), (C.p true (.v (.pointer none))), (C.p true (.v (.bool p0.dead)))]))]⟩
 refine AW.seq (AW.region ?_)
 refine s_assign (d := (sc (.bool false))) rfl (AWops.nil (AW.seq (AW.region ?_)))
 refine s_move (d := (D.one (C.ref 0 0))) rfl ?_
 refine s_ptrNil (b := false) F.u_25 rfl (.inl ⟨⟨_, _, rfl⟩, rfl⟩) (.inl rfl) ?_
 refine s_move (d := (sc (.bool false))) rfl ?_
 refine AWops.guard_yes rfl (nl rfl) rfl rfl ?_
 refine s_move (d := (D.one (C.ref 0 0))) rfl ?_
 refine AWops.guard_yes rfl (nl rfl) rfl rfl ?_
 refine s_nilCheck (d := (D.one (C.ref 0 0))) rfl (.inl ⟨_, _, rfl⟩) ?_
 refine AWops.guard_yes rfl (nl rfl) rfl rfl ?_
 refine s_fieldRef F.fo_50_0 (by decide) rfl ?_
 refine AWops.guard_yes rfl (nl rfl) rfl rfl ?_
 refine s_load1 (c' := (C.p true (.v (.map none)))) F.ag_47 rfl rfl ?_
 refine AWops.guard_yes rfl (nl rfl) rfl rfl ?_
 refine s_mapNil (b := true) F.u_47 rfl (.inl ⟨rfl, _, rfl⟩) (.inl ⟨rfl, rfl⟩) ?_
 refine s_pick_no (d := (sc (.bool true))) rfl rfl rfl ?_
 refine s_assign (d := (sc (.bool true))) rfl (AWops.nil (AW.ret ?_))
 obtain rfl := Option.some.inj h
 exact ⟨_, rfl, (Weak.gen (kk := 1) [0] [] rfl rfl (by decide) (by decide) rfl rfl rfl (le_upd (le_top _) (.t (.one .sc))) (ac (.cells (fun h => h) (ac .sc (ac .sc (ac .sc (ac .sc (ac .sc an)))))) an))⟩
def vdisk_Disk_Read.f (k : Nat) (p0 : vdisk_Disk) (a1 : ByteArray) : Option ((List Int) × Int × vdisk_Disk) := (vdisk_Disk_none.f k (⟨([] : List (ByteArray × vdisk_file)), p0.room, p0.used, (), p0.dead⟩ : vdisk_Disk)).bind fun r1 => if r1.1 = true then (some (([] : List Int), 2, (⟨([] : List (ByteArray × vdisk_file)), r1.2.room, r1.2.used, (), r1.2.dead⟩ : vdisk_Disk))) else (if r1.2.dead = true then (some (([] : List Int), 70, (⟨([] : List (ByteArray × vdisk_file)), r1.2.room, r1.2.used, (), r1.2.dead⟩ : vdisk_Disk))) else (none))
theorem vdisk_Disk_Read.meets (k : Nat) (p0 : vdisk_Disk) (a1 : ByteArray) (r : (List Int) × Int × vdisk_Disk) (h : vdisk_Disk_Read.f k p0 a1 = some r) : Meets Try.prog 12 [(D.one (C.ref 0 0)), (sc (.string a1))] [(some (AObj.cells false [(C.p true (.v (.map none))), (C.p true (.v (.int .i64 p0.room))), (C.p true (.v (.int .i64 p0.used))), (C.p true (.v (.pointer none))), (C.p true (.v (.bool p0.dead)))]))] (D.tup [(D.one (C.p false (.sl r.1.length (r.1.flatMap e_u8)))), (sc (.int .i64 r.2.1))]) [(some (AObj.cells false [(C.p true (.v (.map none))), (C.p true (.v (.int .i64 r.2.2.room))), (C.p true (.v (.int .i64 r.2.2.used))), (C.p true (.v (.pointer none))), (C.p true (.v (.bool r.2.2.dead)))]))] := by
 unfold vdisk_Disk_Read.f at h
 refine Meets.of_body (n := 30) Try.func12 rfl rfl (nl rfl) fun x hx => ?_
 replace hx : x.k = 1 := hx
 show AW _ x _ _ ⟨30, fr0 [(D.one (C.ref 0 0)), (sc (.string a1))], [(some (AObj.cells false [(C.p true (.v (.map none))), (C.p true (.v (.int .i64 p0.room))), (C.p true (.v (.int .i64 p0.used))), (C.p true (.v (.pointer none))), (C.p true (.v (.bool p0.dead)))]))]⟩
 refine AW.seq (AW.region ?_)
 refine s_assign (d := (sc (.slice none 0 0))) rfl ?_
 refine s_assign (d := (sc (.int .i64 0))) rfl (AWops.nil (AW.seq (AW.block (AW.seq (AW.region ?_)))))
 refine s_move (d := (D.one (C.ref 0 0))) rfl ?_
 obtain ⟨r1, er1, h⟩ := bnd h
 refine s_call2 (ρ := [0]) (br := false) (H2 := [(some (AObj.cells false [(C.p true (.v (.map none))), (C.p true (.v (.int .i64 r1.2.room))), (C.p true (.v (.int .i64 r1.2.used))), (C.p true (.v (.pointer none))), (C.p true (.v (.bool r1.2.dead)))]))]) (d := (sc (.bool r1.1))) F.ca_35 rfl rfl (ac (.one (.ref rfl)) an) (ac (.cells (ac .sc (ac .sc (ac .sc (ac .sc (ac .sc an)))))) an) (by decide) rfl (vdisk_Disk_none.meets _ (⟨([] : List (ByteArray × vdisk_file)), p0.room, p0.used, (), p0.dead⟩ : vdisk_Disk) r1 er1) (.inl rfl) rfl rfl ?_
 refine s_assign (d := (sc (.bool r1.1))) rfl (AWops.nil ?_)
 rcases itH h with ⟨c2, h⟩ | ⟨c2, h⟩
 ·refine AW.cond_yes rfl c2 (AW.seq (AW.region ?_))
  refine s_assign (d := (sc (.slice none 0 0))) rfl ?_
  refine s_assign (d := (sc (.int .i64 2))) rfl (AWops.nil (AW.ret ?_))
  obtain rfl := Option.some.inj h
  exact ⟨_, rfl, (Weak.gen (kk := 1) [0] [] rfl rfl (by decide) (by decide) rfl rfl rfl (le_upd (le_top _) (DLe.tup (ac (TLe.one .nil) (ac (TLe.one .sc) an)))) (ac (.cells (fun h => h) (ac .sc (ac .sc (ac .sc (ac .sc (ac .sc an)))))) an))⟩
 ·refine AW.cond_no rfl c2 (AW.seq (AW.region ?_))
  refine s_move (d := (D.one (C.ref 0 0))) rfl ?_
  refine s_nilCheck (d := (D.one (C.ref 0 0))) rfl (.inl ⟨_, _, rfl⟩) ?_
  refine s_fieldRef F.fo_50_4 (by decide) rfl ?_
  refine s_load1 (c' := (C.p true (.v (.bool r1.2.dead)))) F.ag_4 rfl rfl ?_
  refine s_assign (d := (sc (.bool r1.2.dead))) rfl (AWops.nil ?_)
  rcases itH h with ⟨c3, h⟩ | ⟨c3, h⟩
  ·refine AW.cond_yes rfl c3 (AW.seq (AW.region ?_))
   refine s_assign (d := (sc (.slice none 0 0))) rfl ?_
   refine s_assign (d := (sc (.int .i64 70))) rfl (AWops.nil (AW.ret ?_))
   obtain rfl := Option.some.inj h
   exact ⟨_, rfl, (Weak.gen (kk := 1) [0] [] rfl rfl (by decide) (by decide) rfl rfl rfl (le_upd (le_top _) (DLe.tup (ac (TLe.one .nil) (ac (TLe.one .sc) an)))) (ac (.cells (fun h => h) (ac .sc (ac .sc (ac .sc (ac .sc (ac .sc an)))))) an))⟩
  ·refine AW.cond_no rfl c3 (AW.skip (AW.seq (AW.region ?_)))
   refine s_move (d := (D.one (C.ref 0 0))) rfl ?_
   refine s_nilCheck (d := (D.one (C.ref 0 0))) rfl (.inl ⟨_, _, rfl⟩) ?_
   refine s_fieldRef F.fo_50_0 (by decide) rfl ?_
   refine s_load1 (c' := (C.p true (.v (.map none)))) F.ag_47 rfl rfl ?_
   refine s_move (d := (sc (.string a1))) rfl ?_
   cases h
def vdisk_Disk_change.f (k : Nat) (p0 : vdisk_Disk) (a1 : Bool) (a2 : ByteArray) (a3 : Bool) (a4 : Int) : Option (Int × vdisk_Disk) := (vdisk_Disk_none.f k (⟨([] : List (ByteArray × vdisk_file)), p0.room, p0.used, (), p0.dead⟩ : vdisk_Disk)).bind fun r1 => if r1.1 = true then (some (2, (⟨([] : List (ByteArray × vdisk_file)), r1.2.room, r1.2.used, (), r1.2.dead⟩ : vdisk_Disk))) else (if a1 = true then (if r1.2.dead = true then (some (70, (⟨([] : List (ByteArray × vdisk_file)), r1.2.room, r1.2.used, (), r1.2.dead⟩ : vdisk_Disk))) else (none)) else (some (1, (⟨([] : List (ByteArray × vdisk_file)), r1.2.room, r1.2.used, (), r1.2.dead⟩ : vdisk_Disk))))
theorem vdisk_Disk_change.meets (k : Nat) (p0 : vdisk_Disk) (a1 : Bool) (a2 : ByteArray) (a3 : Bool) (a4 : Int) (r : Int × vdisk_Disk) (h : vdisk_Disk_change.f k p0 a1 a2 a3 a4 = some r) : Meets Try.prog 31 [(D.one (C.ref 0 0)), (sc (.bool a1)), (sc (.string a2)), (sc (.bool a3)), (sc (.int .i64 a4))] [(some (AObj.cells false [(C.p true (.v (.map none))), (C.p true (.v (.int .i64 p0.room))), (C.p true (.v (.int .i64 p0.used))), (C.p true (.v (.pointer none))), (C.p true (.v (.bool p0.dead)))]))] (sc (.int .i64 r.1)) [(some (AObj.cells false [(C.p true (.v (.map none))), (C.p true (.v (.int .i64 r.2.room))), (C.p true (.v (.int .i64 r.2.used))), (C.p true (.v (.pointer none))), (C.p true (.v (.bool r.2.dead)))]))] := by
 unfold vdisk_Disk_change.f at h
 refine Meets.of_body (n := 77) Try.func31 rfl rfl (nl rfl) fun x hx => ?_
 replace hx : x.k = 1 := hx
 show AW _ x _ _ ⟨77, fr0 [(D.one (C.ref 0 0)), (sc (.bool a1)), (sc (.string a2)), (sc (.bool a3)), (sc (.int .i64 a4))], [(some (AObj.cells false [(C.p true (.v (.map none))), (C.p true (.v (.int .i64 p0.room))), (C.p true (.v (.int .i64 p0.used))), (C.p true (.v (.pointer none))), (C.p true (.v (.bool p0.dead)))]))]⟩
 refine AW.seq (AW.region ?_)
 refine s_assign (d := (sc (.int .i64 0))) rfl (AWops.nil (AW.seq (AW.block (AW.seq (AW.region ?_)))))
 refine s_move (d := (D.one (C.ref 0 0))) rfl ?_
 obtain ⟨r1, er1, h⟩ := bnd h
 refine s_call2 (ρ := [0]) (br := false) (H2 := [(some (AObj.cells false [(C.p true (.v (.map none))), (C.p true (.v (.int .i64 r1.2.room))), (C.p true (.v (.int .i64 r1.2.used))), (C.p true (.v (.pointer none))), (C.p true (.v (.bool r1.2.dead)))]))]) (d := (sc (.bool r1.1))) F.ca_35 rfl rfl (ac (.one (.ref rfl)) an) (ac (.cells (ac .sc (ac .sc (ac .sc (ac .sc (ac .sc an)))))) an) (by decide) rfl (vdisk_Disk_none.meets _ (⟨([] : List (ByteArray × vdisk_file)), p0.room, p0.used, (), p0.dead⟩ : vdisk_Disk) r1 er1) (.inl rfl) rfl rfl ?_
 refine s_assign (d := (sc (.bool r1.1))) rfl (AWops.nil ?_)
 rcases itH h with ⟨c2, h⟩ | ⟨c2, h⟩
 ·refine AW.cond_yes rfl c2 (AW.seq (AW.region ?_))
  refine s_assign (d := (sc (.int .i64 2))) rfl (AWops.nil (AW.ret ?_))
  obtain rfl := Option.some.inj h
  exact ⟨_, rfl, (Weak.gen (kk := 1) [0] [] rfl rfl (by decide) (by decide) rfl rfl rfl (le_upd (le_top _) (.t (.one .sc))) (ac (.cells (fun h => h) (ac .sc (ac .sc (ac .sc (ac .sc (ac .sc an)))))) an))⟩
 ·refine AW.cond_no rfl c2 (AW.seq (AW.region ?_))
  refine s_move (d := (sc (.bool a1))) rfl ?_
  refine s_not rfl ?_
  refine s_assign (d := (sc (.bool (!a1)))) rfl (AWops.nil ?_)
  rcases itH h with ⟨c3, h⟩ | ⟨c3, h⟩
  ·refine AW.cond_no rfl (by rw [c3] <;> rfl) (AW.seq (AW.region ?_))
   refine s_move (d := (D.one (C.ref 0 0))) rfl ?_
   refine s_nilCheck (d := (D.one (C.ref 0 0))) rfl (.inl ⟨_, _, rfl⟩) ?_
   refine s_fieldRef F.fo_50_4 (by decide) rfl ?_
   refine s_load1 (c' := (C.p true (.v (.bool r1.2.dead)))) F.ag_4 rfl rfl ?_
   refine s_assign (d := (sc (.bool r1.2.dead))) rfl (AWops.nil ?_)
   rcases itH h with ⟨c4, h⟩ | ⟨c4, h⟩
   ·refine AW.cond_yes rfl c4 (AW.seq (AW.region ?_))
    refine s_assign (d := (sc (.int .i64 70))) rfl (AWops.nil (AW.ret ?_))
    obtain rfl := Option.some.inj h
    exact ⟨_, rfl, (Weak.gen (kk := 1) [0] [] rfl rfl (by decide) (by decide) rfl rfl rfl (le_upd (le_top _) (.t (.one .sc))) (ac (.cells (fun h => h) (ac .sc (ac .sc (ac .sc (ac .sc (ac .sc an)))))) an))⟩
   ·refine AW.cond_no rfl c4 (AW.skip (AW.seq (AW.seq (AW.region ?_))))
    refine s_move (d := (D.one (C.ref 0 0))) rfl ?_
    refine s_nilCheck (d := (D.one (C.ref 0 0))) rfl (.inl ⟨_, _, rfl⟩) ?_
    refine s_fieldRef F.fo_50_0 (by decide) rfl ?_
    refine s_load1 (c' := (C.p true (.v (.map none)))) F.ag_47 rfl rfl ?_
    refine s_move (d := (sc (.string a2))) rfl ?_
    cases h
  ·refine AW.cond_yes rfl (by rw [c3] <;> rfl) (AW.seq (AW.region ?_))
   refine s_assign (d := (sc (.int .i64 1))) rfl (AWops.nil (AW.ret ?_))
   obtain rfl := Option.some.inj h
   exact ⟨_, rfl, (Weak.gen (kk := 1) [0] [] rfl rfl (by decide) (by decide) rfl rfl rfl (le_upd (le_top _) (.t (.one .sc))) (ac (.cells (fun h => h) (ac .sc (ac .sc (ac .sc (ac .sc (ac .sc an)))))) an))⟩
def vdisk_Disk_Append.f (k : Nat) (p0 : vdisk_Disk) (a1 : ByteArray) (a2 : List Int) : Option (Int × vdisk_Disk) := (vdisk_named.f k a1).bind fun r1 => (vdisk_Disk_change.f k (⟨([] : List (ByteArray × vdisk_file)), p0.room, p0.used, (), p0.dead⟩ : vdisk_Disk) r1 a1 true (a2.length : Int)).bind fun r2 => if (r2.1 == 0) = true then (none) else (some (r2.1, (⟨([] : List (ByteArray × vdisk_file)), r2.2.room, r2.2.used, (), r2.2.dead⟩ : vdisk_Disk)))
theorem vdisk_Disk_Append.meets (k : Nat) (p0 : vdisk_Disk) (a1 : ByteArray) (a2 : List Int) (r : Int × vdisk_Disk) (h : vdisk_Disk_Append.f k p0 a1 a2 = some r) : Meets Try.prog 9 [(D.one (C.ref 0 0)), (sc (.string a1)), (D.one (C.p false (.sl a2.length (a2.flatMap e_u8))))] [(some (AObj.cells false [(C.p true (.v (.map none))), (C.p true (.v (.int .i64 p0.room))), (C.p true (.v (.int .i64 p0.used))), (C.p true (.v (.pointer none))), (C.p true (.v (.bool p0.dead)))]))] (sc (.int .i64 r.1)) [(some (AObj.cells false [(C.p true (.v (.map none))), (C.p true (.v (.int .i64 r.2.room))), (C.p true (.v (.int .i64 r.2.used))), (C.p true (.v (.pointer none))), (C.p true (.v (.bool r.2.dead)))]))] := by
 unfold vdisk_Disk_Append.f at h
 refine Meets.of_body (n := 36) Try.func9 rfl rfl (nl rfl) fun x hx => ?_
 replace hx : x.k = 1 := hx
 show AW _ x _ _ ⟨36, fr0 [(D.one (C.ref 0 0)), (sc (.string a1)), (D.one (C.p false (.sl a2.length (a2.flatMap e_u8))))], [(some (AObj.cells false [(C.p true (.v (.map none))), (C.p true (.v (.int .i64 p0.room))), (C.p true (.v (.int .i64 p0.used))), (C.p true (.v (.pointer none))), (C.p true (.v (.bool p0.dead)))]))]⟩
 refine AW.seq (AW.region ?_)
 refine s_assign (d := (sc (.int .i64 0))) rfl (AWops.nil (AW.seq (AW.region ?_)))
 refine s_move (d := (D.one (C.ref 0 0))) rfl ?_
 refine s_move (d := (sc (.string a1))) rfl ?_
 obtain ⟨r1, er1, h⟩ := bnd h
 refine s_call2 (ρ := []) (br := false) (H2 := [(some (AObj.cells false [(C.p true (.v (.map none))), (C.p true (.v (.int .i64 p0.room))), (C.p true (.v (.int .i64 p0.used))), (C.p true (.v (.pointer none))), (C.p true (.v (.bool p0.dead)))]))]) (d := (sc (.bool r1))) F.ca_32 rfl rfl (ac (.one .sc) an) an (by decide) rfl (vdisk_named.meets _ a1 r1 er1) (.inl rfl) rfl rfl ?_
 refine s_move (d := (sc (.string a1))) rfl ?_
 refine s_move (d := (D.one (C.p false (.sl a2.length (a2.flatMap e_u8))))) rfl ?_
 refine s_len (n := a2.length) F.u_22 rfl (.inr ⟨(fun _ _ h => by cases h), ⟨_, rfl⟩⟩) ?_
 obtain ⟨r2, er2, h⟩ := bnd h
 refine s_call2 (ρ := [0]) (br := false) (H2 := [(some (AObj.cells false [(C.p true (.v (.map none))), (C.p true (.v (.int .i64 r2.2.room))), (C.p true (.v (.int .i64 r2.2.used))), (C.p true (.v (.pointer none))), (C.p true (.v (.bool r2.2.dead)))]))]) (d := (sc (.int .i64 r2.1))) F.ca_31 rfl rfl (ac (.one (.ref rfl)) (ac (.one .sc) (ac (.one .sc) (ac (.one .sc) (ac (.one .sc) an))))) (ac (.cells (ac .sc (ac .sc (ac .sc (ac .sc (ac .sc an)))))) an) (by decide) rfl (vdisk_Disk_change.meets _ (⟨([] : List (ByteArray × vdisk_file)), p0.room, p0.used, (), p0.dead⟩ : vdisk_Disk) r1 a1 true (a2.length : Int) r2 er2) (.inl rfl) rfl rfl ?_
 refine s_assign (d := (sc (.int .i64 r2.1))) rfl (AWops.nil (AW.seq (AW.seq (AW.region ?_))))
 refine s_move (d := (sc (.int .i64 r2.1))) rfl ?_
 refine s_binI (v := (.bool (r2.1 == 0))) rfl rfl rfl (AWops.nil ?_)
 rcases itH h with ⟨c3, h⟩ | ⟨c3, h⟩
 ·refine AW.cond_yes rfl c3 (AW.seq (AW.region ?_))
  refine s_move (d := (D.one (C.ref 0 0))) rfl ?_
  refine s_nilCheck (d := (D.one (C.ref 0 0))) rfl (.inl ⟨_, _, rfl⟩) ?_
  refine s_fieldRef F.fo_50_0 (by decide) rfl ?_
  refine s_load1 (c' := (C.p true (.v (.map none)))) F.ag_47 rfl rfl ?_
  refine s_move (d := (sc (.string a1))) rfl ?_
  cases h
 ·refine AW.cond_no rfl c3 (AW.skip (AW.seq (AW.region ?_)))
  refine s_move (d := (sc (.int .i64 r2.1))) rfl ?_
  refine s_assign (d := (sc (.int .i64 r2.1))) rfl (AWops.nil (AW.ret ?_))
  obtain rfl := Option.some.inj h
  exact ⟨_, rfl, (Weak.gen (kk := 1) [0] [] rfl rfl (by decide) (by decide) rfl rfl rfl (le_upd (le_top _) (.t (.one .sc))) (ac (.cells (fun h => h) (ac .sc (ac .sc (ac .sc (ac .sc (ac .sc an)))))) an))⟩
def vdisk_Disk_Sync.f (k : Nat) (p0 : vdisk_Disk) (a1 : ByteArray) : Option (Int × vdisk_Disk) := (vdisk_Disk_change.f k (⟨([] : List (ByteArray × vdisk_file)), p0.room, p0.used, (), p0.dead⟩ : vdisk_Disk) true a1 false 0).bind fun r1 => if (r1.1 == 0) = true then (none) else (some (r1.1, (⟨([] : List (ByteArray × vdisk_file)), r1.2.room, r1.2.used, (), r1.2.dead⟩ : vdisk_Disk)))
theorem vdisk_Disk_Sync.meets (k : Nat) (p0 : vdisk_Disk) (a1 : ByteArray) (r : Int × vdisk_Disk) (h : vdisk_Disk_Sync.f k p0 a1 = some r) : Meets Try.prog 10 [(D.one (C.ref 0 0)), (sc (.string a1))] [(some (AObj.cells false [(C.p true (.v (.map none))), (C.p true (.v (.int .i64 p0.room))), (C.p true (.v (.int .i64 p0.used))), (C.p true (.v (.pointer none))), (C.p true (.v (.bool p0.dead)))]))] (sc (.int .i64 r.1)) [(some (AObj.cells false [(C.p true (.v (.map none))), (C.p true (.v (.int .i64 r.2.room))), (C.p true (.v (.int .i64 r.2.used))), (C.p true (.v (.pointer none))), (C.p true (.v (.bool r.2.dead)))]))] := by
 unfold vdisk_Disk_Sync.f at h
 refine Meets.of_body (n := 27) Try.func10 rfl rfl (nl rfl) fun x hx => ?_
 replace hx : x.k = 1 := hx
 show AW _ x _ _ ⟨27, fr0 [(D.one (C.ref 0 0)), (sc (.string a1))], [(some (AObj.cells false [(C.p true (.v (.map none))), (C.p true (.v (.int .i64 p0.room))), (C.p true (.v (.int .i64 p0.used))), (C.p true (.v (.pointer none))), (C.p true (.v (.bool p0.dead)))]))]⟩
 refine AW.seq (AW.region ?_)
 refine s_assign (d := (sc (.int .i64 0))) rfl (AWops.nil (AW.seq (AW.region ?_)))
 refine s_move (d := (D.one (C.ref 0 0))) rfl ?_
 refine s_move (d := (sc (.string a1))) rfl ?_
 obtain ⟨r1, er1, h⟩ := bnd h
 refine s_call2 (ρ := [0]) (br := false) (H2 := [(some (AObj.cells false [(C.p true (.v (.map none))), (C.p true (.v (.int .i64 r1.2.room))), (C.p true (.v (.int .i64 r1.2.used))), (C.p true (.v (.pointer none))), (C.p true (.v (.bool r1.2.dead)))]))]) (d := (sc (.int .i64 r1.1))) F.ca_31 rfl rfl (ac (.one (.ref rfl)) (ac (.one .sc) (ac (.one .sc) (ac (.one .sc) (ac (.one .sc) an))))) (ac (.cells (ac .sc (ac .sc (ac .sc (ac .sc (ac .sc an)))))) an) (by decide) rfl (vdisk_Disk_change.meets _ (⟨([] : List (ByteArray × vdisk_file)), p0.room, p0.used, (), p0.dead⟩ : vdisk_Disk) true a1 false 0 r1 er1) (.inl rfl) rfl rfl ?_
 refine s_assign (d := (sc (.int .i64 r1.1))) rfl (AWops.nil (AW.seq (AW.seq (AW.region ?_))))
 refine s_move (d := (sc (.int .i64 r1.1))) rfl ?_
 refine s_binI (v := (.bool (r1.1 == 0))) rfl rfl rfl (AWops.nil ?_)
 rcases itH h with ⟨c2, h⟩ | ⟨c2, h⟩
 ·refine AW.cond_yes rfl c2 (AW.seq (AW.region ?_))
  refine s_move (d := (D.one (C.ref 0 0))) rfl ?_
  refine s_nilCheck (d := (D.one (C.ref 0 0))) rfl (.inl ⟨_, _, rfl⟩) ?_
  refine s_fieldRef F.fo_50_0 (by decide) rfl ?_
  refine s_load1 (c' := (C.p true (.v (.map none)))) F.ag_47 rfl rfl ?_
  refine s_move (d := (sc (.string a1))) rfl ?_
  cases h
 ·refine AW.cond_no rfl c2 (AW.skip (AW.seq (AW.region ?_)))
  refine s_move (d := (sc (.int .i64 r1.1))) rfl ?_
  refine s_assign (d := (sc (.int .i64 r1.1))) rfl (AWops.nil (AW.ret ?_))
  obtain rfl := Option.some.inj h
  exact ⟨_, rfl, (Weak.gen (kk := 1) [0] [] rfl rfl (by decide) (by decide) rfl rfl rfl (le_upd (le_top _) (.t (.one .sc))) (ac (.cells (fun h => h) (ac .sc (ac .sc (ac .sc (ac .sc (ac .sc an)))))) an))⟩
def vdisk_Disk_Rename.f (k : Nat) (p0 : vdisk_Disk) (a1 : ByteArray) (a2 : ByteArray) : Option (Int × vdisk_Disk) := (vdisk_named.f k a2).bind fun r1 => (vdisk_Disk_change.f k (⟨([] : List (ByteArray × vdisk_file)), p0.room, p0.used, (), p0.dead⟩ : vdisk_Disk) r1 a1 false 0).bind fun r2 => if (r2.1 == 0) = true then (if (a1.toList == a2.toList) = true then (some (r2.1, (⟨([] : List (ByteArray × vdisk_file)), r2.2.room, r2.2.used, (), r2.2.dead⟩ : vdisk_Disk))) else (none)) else (some (r2.1, (⟨([] : List (ByteArray × vdisk_file)), r2.2.room, r2.2.used, (), r2.2.dead⟩ : vdisk_Disk)))
theorem vdisk_Disk_Rename.meets (k : Nat) (p0 : vdisk_Disk) (a1 : ByteArray) (a2 : ByteArray) (r : Int × vdisk_Disk) (h : vdisk_Disk_Rename.f k p0 a1 a2 = some r) : Meets Try.prog 18 [(D.one (C.ref 0 0)), (sc (.string a1)), (sc (.string a2))] [(some (AObj.cells false [(C.p true (.v (.map none))), (C.p true (.v (.int .i64 p0.room))), (C.p true (.v (.int .i64 p0.used))), (C.p true (.v (.pointer none))), (C.p true (.v (.bool p0.dead)))]))] (sc (.int .i64 r.1)) [(some (AObj.cells false [(C.p true (.v (.map none))), (C.p true (.v (.int .i64 r.2.room))), (C.p true (.v (.int .i64 r.2.used))), (C.p true (.v (.pointer none))), (C.p true (.v (.bool r.2.dead)))]))] := by
 unfold vdisk_Disk_Rename.f at h
 refine Meets.of_body (n := 35) Try.func18 rfl rfl (nl rfl) fun x hx => ?_
 replace hx : x.k = 1 := hx
 show AW _ x _ _ ⟨35, fr0 [(D.one (C.ref 0 0)), (sc (.string a1)), (sc (.string a2))], [(some (AObj.cells false [(C.p true (.v (.map none))), (C.p true (.v (.int .i64 p0.room))), (C.p true (.v (.int .i64 p0.used))), (C.p true (.v (.pointer none))), (C.p true (.v (.bool p0.dead)))]))]⟩
 refine AW.seq (AW.region ?_)
 refine s_assign (d := (sc (.int .i64 0))) rfl (AWops.nil (AW.seq (AW.region ?_)))
 refine s_move (d := (D.one (C.ref 0 0))) rfl ?_
 refine s_move (d := (sc (.string a2))) rfl ?_
 obtain ⟨r1, er1, h⟩ := bnd h
 refine s_call2 (ρ := []) (br := false) (H2 := [(some (AObj.cells false [(C.p true (.v (.map none))), (C.p true (.v (.int .i64 p0.room))), (C.p true (.v (.int .i64 p0.used))), (C.p true (.v (.pointer none))), (C.p true (.v (.bool p0.dead)))]))]) (d := (sc (.bool r1))) F.ca_32 rfl rfl (ac (.one .sc) an) an (by decide) rfl (vdisk_named.meets _ a2 r1 er1) (.inl rfl) rfl rfl ?_
 refine s_move (d := (sc (.string a1))) rfl ?_
 obtain ⟨r2, er2, h⟩ := bnd h
 refine s_call2 (ρ := [0]) (br := false) (H2 := [(some (AObj.cells false [(C.p true (.v (.map none))), (C.p true (.v (.int .i64 r2.2.room))), (C.p true (.v (.int .i64 r2.2.used))), (C.p true (.v (.pointer none))), (C.p true (.v (.bool r2.2.dead)))]))]) (d := (sc (.int .i64 r2.1))) F.ca_31 rfl rfl (ac (.one (.ref rfl)) (ac (.one .sc) (ac (.one .sc) (ac (.one .sc) (ac (.one .sc) an))))) (ac (.cells (ac .sc (ac .sc (ac .sc (ac .sc (ac .sc an)))))) an) (by decide) rfl (vdisk_Disk_change.meets _ (⟨([] : List (ByteArray × vdisk_file)), p0.room, p0.used, (), p0.dead⟩ : vdisk_Disk) r1 a1 false 0 r2 er2) (.inl rfl) rfl rfl ?_
 refine s_assign (d := (sc (.int .i64 r2.1))) rfl (AWops.nil (AW.seq (AW.seq (AW.region ?_))))
 refine s_move (d := (sc (.int .i64 r2.1))) rfl ?_
 refine s_binI (v := (.bool (r2.1 == 0))) rfl rfl rfl ?_
 refine s_move (d := (sc (.bool (r2.1 == 0)))) rfl ?_
 rcases itH h with ⟨c3, h⟩ | ⟨c3, h⟩
 ·refine AWops.guard_yes rfl (nl rfl) rfl c3 ?_
  refine s_move (d := (sc (.string a1))) rfl ?_
  refine AWops.guard_yes rfl (nl rfl) rfl c3 ?_
  refine s_move (d := (sc (.string a2))) rfl ?_
  refine AWops.guard_yes rfl (nl rfl) rfl c3 ?_
  refine s_binS (v := (.bool (!(a1.toList == a2.toList)))) rfl rfl rfl ?_
  refine s_pick_yes (d := (sc (.bool (!(a1.toList == a2.toList))))) rfl c3 rfl (AWops.nil ?_)
  rcases itH h with ⟨c4, h⟩ | ⟨c4, h⟩
  ·refine AW.cond_no rfl (by rw [c4] <;> rfl) (AW.skip (AW.seq (AW.region ?_)))
   refine s_move (d := (sc (.int .i64 r2.1))) rfl ?_
   refine s_assign (d := (sc (.int .i64 r2.1))) rfl (AWops.nil (AW.ret ?_))
   obtain rfl := Option.some.inj h
   exact ⟨_, rfl, (Weak.gen (kk := 1) [0] [] rfl rfl (by decide) (by decide) rfl rfl rfl (le_upd (le_top _) (.t (.one .sc))) (ac (.cells (fun h => h) (ac .sc (ac .sc (ac .sc (ac .sc (ac .sc an)))))) an))⟩
  ·refine AW.cond_yes rfl (by rw [c4] <;> rfl) (AW.seq (AW.region ?_))
   refine s_move (d := (D.one (C.ref 0 0))) rfl ?_
   refine s_nilCheck (d := (D.one (C.ref 0 0))) rfl (.inl ⟨_, _, rfl⟩) ?_
   refine s_fieldRef F.fo_50_0 (by decide) rfl ?_
   refine s_load1 (c' := (C.p true (.v (.map none)))) F.ag_47 rfl rfl ?_
   refine s_move (d := (sc (.string a1))) rfl ?_
   cases h
 ·iterate 3 refine AWops.guard_no rfl (nl rfl) rfl c3 ?_
  refine s_pick_no (d := (sc (.bool false))) rfl c3 rfl (AWops.nil ?_)
  refine AW.cond_no rfl rfl (AW.skip (AW.seq (AW.region ?_)))
  refine s_move (d := (sc (.int .i64 r2.1))) rfl ?_
  refine s_assign (d := (sc (.int .i64 r2.1))) rfl (AWops.nil (AW.ret ?_))
  obtain rfl := Option.some.inj h
  exact ⟨_, rfl, (Weak.gen (kk := 1) [0] [] rfl rfl (by decide) (by decide) rfl rfl rfl (le_upd (le_top _) (.t (.one .sc))) (ac (.cells (fun h => h) (ac .sc (ac .sc (ac .sc (ac .sc (ac .sc an)))))) an))⟩
def vdisk_Disk_Truncate.f (k : Nat) (p0 : vdisk_Disk) (a1 : ByteArray) (a2 : Int) : Option (Int × vdisk_Disk) := (vdisk_Disk_change.f k (⟨([] : List (ByteArray × vdisk_file)), p0.room, p0.used, (), p0.dead⟩ : vdisk_Disk) (decide (a2 ≥ 0)) a1 false 0).bind fun r1 => if (r1.1 == 0) = true then (none) else (some (r1.1, (⟨([] : List (ByteArray × vdisk_file)), r1.2.room, r1.2.used, (), r1.2.dead⟩ : vdisk_Disk)))
theorem vdisk_Disk_Truncate.meets (k : Nat) (p0 : vdisk_Disk) (a1 : ByteArray) (a2 : Int) (r : Int × vdisk_Disk) (h : vdisk_Disk_Truncate.f k p0 a1 a2 = some r) : Meets Try.prog 19 [(D.one (C.ref 0 0)), (sc (.string a1)), (sc (.int .i64 a2))] [(some (AObj.cells false [(C.p true (.v (.map none))), (C.p true (.v (.int .i64 p0.room))), (C.p true (.v (.int .i64 p0.used))), (C.p true (.v (.pointer none))), (C.p true (.v (.bool p0.dead)))]))] (sc (.int .i64 r.1)) [(some (AObj.cells false [(C.p true (.v (.map none))), (C.p true (.v (.int .i64 r.2.room))), (C.p true (.v (.int .i64 r.2.used))), (C.p true (.v (.pointer none))), (C.p true (.v (.bool r.2.dead)))]))] := by
 unfold vdisk_Disk_Truncate.f at h
 refine Meets.of_body (n := 41) Try.func19 rfl rfl (nl rfl) fun x hx => ?_
 replace hx : x.k = 1 := hx
 show AW _ x _ _ ⟨41, fr0 [(D.one (C.ref 0 0)), (sc (.string a1)), (sc (.int .i64 a2))], [(some (AObj.cells false [(C.p true (.v (.map none))), (C.p true (.v (.int .i64 p0.room))), (C.p true (.v (.int .i64 p0.used))), (C.p true (.v (.pointer none))), (C.p true (.v (.bool p0.dead)))]))]⟩
 refine AW.seq (AW.region ?_)
 refine s_assign (d := (sc (.int .i64 0))) rfl (AWops.nil (AW.seq (AW.region ?_)))
 refine s_move (d := (D.one (C.ref 0 0))) rfl ?_
 refine s_move (d := (sc (.int .i64 a2))) rfl ?_
 refine s_binI (v := (.bool (decide (a2 ≥ 0)))) rfl rfl rfl ?_
 refine s_move (d := (sc (.string a1))) rfl ?_
 obtain ⟨r1, er1, h⟩ := bnd h
 refine s_call2 (ρ := [0]) (br := false) (H2 := [(some (AObj.cells false [(C.p true (.v (.map none))), (C.p true (.v (.int .i64 r1.2.room))), (C.p true (.v (.int .i64 r1.2.used))), (C.p true (.v (.pointer none))), (C.p true (.v (.bool r1.2.dead)))]))]) (d := (sc (.int .i64 r1.1))) F.ca_31 rfl rfl (ac (.one (.ref rfl)) (ac (.one .sc) (ac (.one .sc) (ac (.one .sc) (ac (.one .sc) an))))) (ac (.cells (ac .sc (ac .sc (ac .sc (ac .sc (ac .sc an)))))) an) (by decide) rfl (vdisk_Disk_change.meets _ (⟨([] : List (ByteArray × vdisk_file)), p0.room, p0.used, (), p0.dead⟩ : vdisk_Disk) (decide (a2 ≥ 0)) a1 false 0 r1 er1) (.inl rfl) rfl rfl ?_
 refine s_assign (d := (sc (.int .i64 r1.1))) rfl (AWops.nil (AW.seq (AW.seq (AW.region ?_))))
 refine s_move (d := (sc (.int .i64 r1.1))) rfl ?_
 refine s_binI (v := (.bool (r1.1 == 0))) rfl rfl rfl (AWops.nil ?_)
 rcases itH h with ⟨c2, h⟩ | ⟨c2, h⟩
 ·refine AW.cond_yes rfl c2 (AW.seq (AW.region ?_))
  refine s_move (d := (D.one (C.ref 0 0))) rfl ?_
  refine s_nilCheck (d := (D.one (C.ref 0 0))) rfl (.inl ⟨_, _, rfl⟩) ?_
  refine s_fieldRef F.fo_50_0 (by decide) rfl ?_
  refine s_load1 (c' := (C.p true (.v (.map none)))) F.ag_47 rfl rfl ?_
  refine s_move (d := (sc (.string a1))) rfl ?_
  cases h
 ·refine AW.cond_no rfl c2 (AW.skip (AW.seq (AW.region ?_)))
  refine s_move (d := (sc (.int .i64 r1.1))) rfl ?_
  refine s_assign (d := (sc (.int .i64 r1.1))) rfl (AWops.nil (AW.ret ?_))
  obtain rfl := Option.some.inj h
  exact ⟨_, rfl, (Weak.gen (kk := 1) [0] [] rfl rfl (by decide) (by decide) rfl rfl rfl (le_upd (le_top _) (.t (.one .sc))) (ac (.cells (fun h => h) (ac .sc (ac .sc (ac .sc (ac .sc (ac .sc an)))))) an))⟩
def vdisk_Disk_cut.f (k : Nat) (p0 : vdisk_Disk) (a1 : ByteArray) : Option vdisk_Disk := none
theorem vdisk_Disk_cut.meets (k : Nat) (p0 : vdisk_Disk) (a1 : ByteArray) (r : vdisk_Disk) (h : vdisk_Disk_cut.f k p0 a1 = some r) : Meets Try.prog 46 [(D.one (C.ref 0 0)), (sc (.string a1))] [(some (AObj.cells false [(C.p true (.v (.map none))), (C.p true (.v (.int .i64 p0.room))), (C.p true (.v (.int .i64 p0.used))), (C.p true (.v (.pointer none))), (C.p true (.v (.bool p0.dead)))]))] (D.tup []) [(some (AObj.cells false [(C.p true (.v (.map none))), (C.p true (.v (.int .i64 r.room))), (C.p true (.v (.int .i64 r.used))), (C.p true (.v (.pointer none))), (C.p true (.v (.bool r.dead)))]))] := by
 unfold vdisk_Disk_cut.f at h
 refine Meets.of_body (n := 24) Try.func46 rfl rfl (nl rfl) fun x hx => ?_
 replace hx : x.k = 1 := hx
 show AW _ x _ _ ⟨24, fr0 [(D.one (C.ref 0 0)), (sc (.string a1))], [(some (AObj.cells false [(C.p true (.v (.map none))), (C.p true (.v (.int .i64 p0.room))), (C.p true (.v (.int .i64 p0.used))), (C.p true (.v (.pointer none))), (C.p true (.v (.bool p0.dead)))]))]⟩
 refine AW.seq ?_
 refine AW.weak (st' := ⟨24, (upd 24 (upd 24 topF 0 (D.one (C.ref 0 0))) 1 (sc (.string a1))), [(some (AObj.cells false [(C.p true (.v (.map none))), (C.p true (.v (.int .i64 p0.room))), (C.p true (.v (.int .i64 p0.used))), (C.p true (.v (.pointer none))), (C.p true (.v (.bool p0.dead)))]))]⟩) (Weak.gen (kk := 1) [0] [] hx rfl (by decide) (by decide) rfl rfl rfl (le_upd (le_upd (le_top _) (.t (.one (.ref rfl)))) (.t (.one .sc))) (ac (.cells (fun h => h) (ac .sc (ac .sc (ac .sc (ac .sc (ac .sc an)))))) an)) ?_
 cases h
def vdisk_Disk_Remove.f (k : Nat) (p0 : vdisk_Disk) (a1 : ByteArray) : Option (Int × vdisk_Disk) := (vdisk_Disk_change.f k (⟨([] : List (ByteArray × vdisk_file)), p0.room, p0.used, (), p0.dead⟩ : vdisk_Disk) true a1 false 0).bind fun r1 => if (r1.1 == 0) = true then ((vdisk_Disk_cut.f k (⟨([] : List (ByteArray × vdisk_file)), r1.2.room, r1.2.used, (), r1.2.dead⟩ : vdisk_Disk) a1).bind fun r3 => some (r1.1, (⟨([] : List (ByteArray × vdisk_file)), r3.room, r3.used, (), r3.dead⟩ : vdisk_Disk))) else (some (r1.1, (⟨([] : List (ByteArray × vdisk_file)), r1.2.room, r1.2.used, (), r1.2.dead⟩ : vdisk_Disk)))
theorem vdisk_Disk_Remove.meets (k : Nat) (p0 : vdisk_Disk) (a1 : ByteArray) (r : Int × vdisk_Disk) (h : vdisk_Disk_Remove.f k p0 a1 = some r) : Meets Try.prog 20 [(D.one (C.ref 0 0)), (sc (.string a1))] [(some (AObj.cells false [(C.p true (.v (.map none))), (C.p true (.v (.int .i64 p0.room))), (C.p true (.v (.int .i64 p0.used))), (C.p true (.v (.pointer none))), (C.p true (.v (.bool p0.dead)))]))] (sc (.int .i64 r.1)) [(some (AObj.cells false [(C.p true (.v (.map none))), (C.p true (.v (.int .i64 r.2.room))), (C.p true (.v (.int .i64 r.2.used))), (C.p true (.v (.pointer none))), (C.p true (.v (.bool r.2.dead)))]))] := by
 unfold vdisk_Disk_Remove.f at h
 refine Meets.of_body (n := 15) Try.func20 rfl rfl (nl rfl) fun x hx => ?_
 replace hx : x.k = 1 := hx
 show AW _ x _ _ ⟨15, fr0 [(D.one (C.ref 0 0)), (sc (.string a1))], [(some (AObj.cells false [(C.p true (.v (.map none))), (C.p true (.v (.int .i64 p0.room))), (C.p true (.v (.int .i64 p0.used))), (C.p true (.v (.pointer none))), (C.p true (.v (.bool p0.dead)))]))]⟩
 refine AW.seq (AW.region ?_)
 refine s_assign (d := (sc (.int .i64 0))) rfl (AWops.nil (AW.seq (AW.region ?_)))
 refine s_move (d := (D.one (C.ref 0 0))) rfl ?_
 refine s_move (d := (sc (.string a1))) rfl ?_
 obtain ⟨r1, er1, h⟩ := bnd h
 refine s_call2 (ρ := [0]) (br := false) (H2 := [(some (AObj.cells false [(C.p true (.v (.map none))), (C.p true (.v (.int .i64 r1.2.room))), (C.p true (.v (.int .i64 r1.2.used))), (C.p true (.v (.pointer none))), (C.p true (.v (.bool r1.2.dead)))]))]) (d := (sc (.int .i64 r1.1))) F.ca_31 rfl rfl (ac (.one (.ref rfl)) (ac (.one .sc) (ac (.one .sc) (ac (.one .sc) (ac (.one .sc) an))))) (ac (.cells (ac .sc (ac .sc (ac .sc (ac .sc (ac .sc an)))))) an) (by decide) rfl (vdisk_Disk_change.meets _ (⟨([] : List (ByteArray × vdisk_file)), p0.room, p0.used, (), p0.dead⟩ : vdisk_Disk) true a1 false 0 r1 er1) (.inl rfl) rfl rfl ?_
 refine s_assign (d := (sc (.int .i64 r1.1))) rfl (AWops.nil (AW.seq (AW.seq (AW.region ?_))))
 refine s_move (d := (sc (.int .i64 r1.1))) rfl ?_
 refine s_binI (v := (.bool (r1.1 == 0))) rfl rfl rfl (AWops.nil ?_)
 rcases itH h with ⟨c2, h⟩ | ⟨c2, h⟩
 ·refine AW.cond_yes rfl c2 (AW.region ?_)
  refine s_move (d := (D.one (C.ref 0 0))) rfl ?_
  refine s_move (d := (sc (.string a1))) rfl ?_
  obtain ⟨r3, er3, h⟩ := bnd h
  refine s_call2 (ρ := [0]) (br := false) (H2 := [(some (AObj.cells false [(C.p true (.v (.map none))), (C.p true (.v (.int .i64 r3.room))), (C.p true (.v (.int .i64 r3.used))), (C.p true (.v (.pointer none))), (C.p true (.v (.bool r3.dead)))]))]) (d := (D.tup [])) F.ca_46 rfl rfl (ac (.one (.ref rfl)) (ac (.one .sc) an)) (ac (.cells (ac .sc (ac .sc (ac .sc (ac .sc (ac .sc an)))))) an) (by decide) rfl (vdisk_Disk_cut.meets _ (⟨([] : List (ByteArray × vdisk_file)), r1.2.room, r1.2.used, (), r1.2.dead⟩ : vdisk_Disk) a1 r3 er3) (.inl rfl) rfl rfl (AWops.nil (AW.seq (AW.region ?_)))
  refine s_move (d := (sc (.int .i64 r1.1))) rfl ?_
  refine s_assign (d := (sc (.int .i64 r1.1))) rfl (AWops.nil (AW.ret ?_))
  obtain rfl := Option.some.inj h
  exact ⟨_, rfl, (Weak.gen (kk := 1) [0] [] rfl rfl (by decide) (by decide) rfl rfl rfl (le_upd (le_top _) (.t (.one .sc))) (ac (.cells (fun h => h) (ac .sc (ac .sc (ac .sc (ac .sc (ac .sc an)))))) an))⟩
 ·refine AW.cond_no rfl c2 (AW.skip (AW.seq (AW.region ?_)))
  refine s_move (d := (sc (.int .i64 r1.1))) rfl ?_
  refine s_assign (d := (sc (.int .i64 r1.1))) rfl (AWops.nil (AW.ret ?_))
  obtain rfl := Option.some.inj h
  exact ⟨_, rfl, (Weak.gen (kk := 1) [0] [] rfl rfl (by decide) (by decide) rfl rfl rfl (le_upd (le_top _) (.t (.one .sc))) (ac (.cells (fun h => h) (ac .sc (ac .sc (ac .sc (ac .sc (ac .sc an)))))) an))⟩
def vdisk_Disk_Fuse.f (k : Nat) (p0 : vdisk_Disk) (a1 : Int) : Option (Int × vdisk_Disk) := (vdisk_Disk_none.f k (⟨([] : List (ByteArray × vdisk_file)), p0.room, p0.used, (), p0.dead⟩ : vdisk_Disk)).bind fun r1 => if r1.1 = true then (some (2, (⟨([] : List (ByteArray × vdisk_file)), r1.2.room, r1.2.used, (), r1.2.dead⟩ : vdisk_Disk))) else (if (decide (a1 < 0)) = true then (some (1, (⟨([] : List (ByteArray × vdisk_file)), r1.2.room, r1.2.used, (), r1.2.dead⟩ : vdisk_Disk))) else (none))
theorem vdisk_Disk_Fuse.meets (k : Nat) (p0 : vdisk_Disk) (a1 : Int) (r : Int × vdisk_Disk) (h : vdisk_Disk_Fuse.f k p0 a1 = some r) : Meets Try.prog 21 [(D.one (C.ref 0 0)), (sc (.int .i64 a1))] [(some (AObj.cells false [(C.p true (.v (.map none))), (C.p true (.v (.int .i64 p0.room))), (C.p true (.v (.int .i64 p0.used))), (C.p true (.v (.pointer none))), (C.p true (.v (.bool p0.dead)))]))] (sc (.int .i64 r.1)) [(some (AObj.cells false [(C.p true (.v (.map none))), (C.p true (.v (.int .i64 r.2.room))), (C.p true (.v (.int .i64 r.2.used))), (C.p true (.v (.pointer none))), (C.p true (.v (.bool r.2.dead)))]))] := by
 unfold vdisk_Disk_Fuse.f at h
 refine Meets.of_body (n := 14) Try.func21 rfl rfl (nl rfl) fun x hx => ?_
 replace hx : x.k = 1 := hx
 show AW _ x _ _ ⟨14, fr0 [(D.one (C.ref 0 0)), (sc (.int .i64 a1))], [(some (AObj.cells false [(C.p true (.v (.map none))), (C.p true (.v (.int .i64 p0.room))), (C.p true (.v (.int .i64 p0.used))), (C.p true (.v (.pointer none))), (C.p true (.v (.bool p0.dead)))]))]⟩
 refine AW.seq (AW.region ?_)
 refine s_box (cs := [(C.p true (.v (.int .i64 a1)))]) rfl (List.cons_ne_nil _ _) rfl ?_
 refine s_assign (d := (sc (.int .i64 0))) rfl (AWops.nil (AW.seq (AW.block (AW.seq (AW.region ?_)))))
 refine s_move (d := (D.one (C.ref 0 0))) rfl ?_
 obtain ⟨r1, er1, h⟩ := bnd h
 refine s_call2 (ρ := [0]) (br := false) (H2 := [(some (AObj.cells false [(C.p true (.v (.map none))), (C.p true (.v (.int .i64 r1.2.room))), (C.p true (.v (.int .i64 r1.2.used))), (C.p true (.v (.pointer none))), (C.p true (.v (.bool r1.2.dead)))])), (some (AObj.cells true [(C.p true (.v (.int .i64 a1)))]))]) (d := (sc (.bool r1.1))) F.ca_35 rfl rfl (ac (.one (.ref rfl)) an) (ac (.cells (ac .sc (ac .sc (ac .sc (ac .sc (ac .sc an)))))) an) (by decide) rfl (vdisk_Disk_none.meets _ (⟨([] : List (ByteArray × vdisk_file)), p0.room, p0.used, (), p0.dead⟩ : vdisk_Disk) r1 er1) (.inl rfl) rfl rfl ?_
 refine s_assign (d := (sc (.bool r1.1))) rfl (AWops.nil ?_)
 rcases itH h with ⟨c2, h⟩ | ⟨c2, h⟩
 ·refine AW.cond_yes rfl c2 (AW.seq (AW.region ?_))
  refine s_assign (d := (sc (.int .i64 2))) rfl (AWops.nil (AW.ret ?_))
  obtain rfl := Option.some.inj h
  exact ⟨_, rfl, (Weak.gen (kk := 1) [0] [] rfl rfl (by decide) (by decide) rfl rfl rfl (le_upd (le_top _) (.t (.one .sc))) (ac (.cells (fun h => h) (ac .sc (ac .sc (ac .sc (ac .sc (ac .sc an)))))) an))⟩
 ·refine AW.cond_no rfl c2 (AW.seq (AW.region ?_))
  refine s_load1 (c' := (C.p true (.v (.int .i64 a1)))) F.ag_3 rfl rfl ?_
  refine s_binI (v := (.bool (decide (a1 < 0)))) rfl rfl rfl ?_
  refine s_assign (d := (sc (.bool (decide (a1 < 0))))) rfl (AWops.nil ?_)
  rcases itH h with ⟨c3, h⟩ | ⟨c3, h⟩
  ·refine AW.cond_yes rfl c3 (AW.seq (AW.region ?_))
   refine s_assign (d := (sc (.int .i64 1))) rfl (AWops.nil (AW.ret ?_))
   obtain rfl := Option.some.inj h
   exact ⟨_, rfl, (Weak.gen (kk := 1) [0] [] rfl rfl (by decide) (by decide) rfl rfl rfl (le_upd (le_top _) (.t (.one .sc))) (ac (.cells (fun h => h) (ac .sc (ac .sc (ac .sc (ac .sc (ac .sc an)))))) an))⟩
  ·refine AW.cond_no rfl c3 (AW.skip (AW.seq (AW.region ?_)))
   refine s_move (d := (D.one (C.ref 0 0))) rfl ?_
   refine s_nilCheck (d := (D.one (C.ref 0 0))) rfl (.inl ⟨_, _, rfl⟩) ?_
   refine s_fieldRef F.fo_50_3 (by decide) rfl ?_
   refine s_store (cs' := [(C.p true (.v (.map none))), (C.p true (.v (.int .i64 r1.2.room))), (C.p true (.v (.int .i64 r1.2.used))), (C.ref 1 0), (C.p true (.v (.bool r1.2.dead)))]) rfl rfl rfl (List.cons_ne_nil _ _) rfl F.sz_48 (nl rfl) rfl (AWops.nil (AW.seq (AW.region ?_)))
   refine s_assign (d := (sc (.int .i64 0))) rfl (AWops.nil (AW.ret ?_))
   cases h
def vdisk_Disk_Room.f (k : Nat) (p0 : vdisk_Disk) (a1 : Int) : Option (Int × vdisk_Disk) := (vdisk_Disk_none.f k (⟨([] : List (ByteArray × vdisk_file)), p0.room, p0.used, (), p0.dead⟩ : vdisk_Disk)).bind fun r1 => if r1.1 = true then (some (2, (⟨([] : List (ByteArray × vdisk_file)), r1.2.room, r1.2.used, (), r1.2.dead⟩ : vdisk_Disk))) else (if (decide (a1 < 0)) = true then (some (1, (⟨([] : List (ByteArray × vdisk_file)), r1.2.room, r1.2.used, (), r1.2.dead⟩ : vdisk_Disk))) else (if (decide (a1 > 4194304)) = true then (some (1, (⟨([] : List (ByteArray × vdisk_file)), r1.2.room, r1.2.used, (), r1.2.dead⟩ : vdisk_Disk))) else (some (0, (⟨([] : List (ByteArray × vdisk_file)), a1, r1.2.used, (), r1.2.dead⟩ : vdisk_Disk)))))
theorem vdisk_Disk_Room.meets (k : Nat) (p0 : vdisk_Disk) (a1 : Int) (r : Int × vdisk_Disk) (h : vdisk_Disk_Room.f k p0 a1 = some r) : Meets Try.prog 22 [(D.one (C.ref 0 0)), (sc (.int .i64 a1))] [(some (AObj.cells false [(C.p true (.v (.map none))), (C.p true (.v (.int .i64 p0.room))), (C.p true (.v (.int .i64 p0.used))), (C.p true (.v (.pointer none))), (C.p true (.v (.bool p0.dead)))]))] (sc (.int .i64 r.1)) [(some (AObj.cells false [(C.p true (.v (.map none))), (C.p true (.v (.int .i64 r.2.room))), (C.p true (.v (.int .i64 r.2.used))), (C.p true (.v (.pointer none))), (C.p true (.v (.bool r.2.dead)))]))] := by
 unfold vdisk_Disk_Room.f at h
 refine Meets.of_body (n := 19) Try.func22 rfl rfl (nl rfl) fun x hx => ?_
 replace hx : x.k = 1 := hx
 show AW _ x _ _ ⟨19, fr0 [(D.one (C.ref 0 0)), (sc (.int .i64 a1))], [(some (AObj.cells false [(C.p true (.v (.map none))), (C.p true (.v (.int .i64 p0.room))), (C.p true (.v (.int .i64 p0.used))), (C.p true (.v (.pointer none))), (C.p true (.v (.bool p0.dead)))]))]⟩
 refine AW.seq (AW.region ?_)
 refine s_assign (d := (sc (.int .i64 0))) rfl (AWops.nil (AW.seq (AW.block (AW.seq (AW.region ?_)))))
 refine s_move (d := (D.one (C.ref 0 0))) rfl ?_
 obtain ⟨r1, er1, h⟩ := bnd h
 refine s_call2 (ρ := [0]) (br := false) (H2 := [(some (AObj.cells false [(C.p true (.v (.map none))), (C.p true (.v (.int .i64 r1.2.room))), (C.p true (.v (.int .i64 r1.2.used))), (C.p true (.v (.pointer none))), (C.p true (.v (.bool r1.2.dead)))]))]) (d := (sc (.bool r1.1))) F.ca_35 rfl rfl (ac (.one (.ref rfl)) an) (ac (.cells (ac .sc (ac .sc (ac .sc (ac .sc (ac .sc an)))))) an) (by decide) rfl (vdisk_Disk_none.meets _ (⟨([] : List (ByteArray × vdisk_file)), p0.room, p0.used, (), p0.dead⟩ : vdisk_Disk) r1 er1) (.inl rfl) rfl rfl ?_
 refine s_assign (d := (sc (.bool r1.1))) rfl (AWops.nil ?_)
 rcases itH h with ⟨c2, h⟩ | ⟨c2, h⟩
 ·refine AW.cond_yes rfl c2 (AW.seq (AW.region ?_))
  refine s_assign (d := (sc (.int .i64 2))) rfl (AWops.nil (AW.ret ?_))
  obtain rfl := Option.some.inj h
  exact ⟨_, rfl, (Weak.gen (kk := 1) [0] [] rfl rfl (by decide) (by decide) rfl rfl rfl (le_upd (le_top _) (.t (.one .sc))) (ac (.cells (fun h => h) (ac .sc (ac .sc (ac .sc (ac .sc (ac .sc an)))))) an))⟩
 ·refine AW.cond_no rfl c2 (AW.seq (AW.region ?_))
  refine s_move (d := (sc (.int .i64 a1))) rfl ?_
  refine s_binI (v := (.bool (decide (a1 < 0)))) rfl rfl rfl ?_
  refine s_move (d := (sc (.bool (decide (a1 < 0))))) rfl ?_
  rcases itH h with ⟨c3, h⟩ | ⟨c3, h⟩
  ·refine AWops.guard_no rfl (nl rfl) rfl c3 ?_
   refine AWops.guard_no rfl (nl rfl) rfl c3 ?_
   refine s_pick_yes (d := (sc (.bool true))) rfl c3 rfl ?_
   refine s_assign (d := (sc (.bool true))) rfl (AWops.nil ?_)
   refine AW.cond_yes rfl rfl (AW.seq (AW.region ?_))
   refine s_assign (d := (sc (.int .i64 1))) rfl (AWops.nil (AW.ret ?_))
   obtain rfl := Option.some.inj h
   exact ⟨_, rfl, (Weak.gen (kk := 1) [0] [] rfl rfl (by decide) (by decide) rfl rfl rfl (le_upd (le_top _) (.t (.one .sc))) (ac (.cells (fun h => h) (ac .sc (ac .sc (ac .sc (ac .sc (ac .sc an)))))) an))⟩
  ·refine AWops.guard_yes rfl (nl rfl) rfl c3 ?_
   refine s_move (d := (sc (.int .i64 a1))) rfl ?_
   refine AWops.guard_yes rfl (nl rfl) rfl c3 ?_
   refine s_binI (v := (.bool (decide (a1 > 4194304)))) rfl rfl rfl ?_
   refine s_pick_no (d := (sc (.bool (decide (a1 > 4194304))))) rfl c3 rfl ?_
   refine s_assign (d := (sc (.bool (decide (a1 > 4194304))))) rfl (AWops.nil ?_)
   rcases itH h with ⟨c4, h⟩ | ⟨c4, h⟩
   ·refine AW.cond_yes rfl c4 (AW.seq (AW.region ?_))
    refine s_assign (d := (sc (.int .i64 1))) rfl (AWops.nil (AW.ret ?_))
    obtain rfl := Option.some.inj h
    exact ⟨_, rfl, (Weak.gen (kk := 1) [0] [] rfl rfl (by decide) (by decide) rfl rfl rfl (le_upd (le_top _) (.t (.one .sc))) (ac (.cells (fun h => h) (ac .sc (ac .sc (ac .sc (ac .sc (ac .sc an)))))) an))⟩
   ·refine AW.cond_no rfl c4 (AW.skip (AW.seq (AW.region ?_)))
    refine s_move (d := (D.one (C.ref 0 0))) rfl ?_
    refine s_move (d := (sc (.int .i64 a1))) rfl ?_
    refine s_nilCheck (d := (D.one (C.ref 0 0))) rfl (.inl ⟨_, _, rfl⟩) ?_
    refine s_fieldRef F.fo_50_1 (by decide) rfl ?_
    refine s_store (cs' := [(C.p true (.v (.map none))), (C.p true (.v (.int .i64 a1))), (C.p true (.v (.int .i64 r1.2.used))), (C.p true (.v (.pointer none))), (C.p true (.v (.bool r1.2.dead)))]) rfl rfl rfl (List.cons_ne_nil _ _) rfl F.sz_3 (nl rfl) rfl (AWops.nil (AW.seq (AW.region ?_)))
    refine s_assign (d := (sc (.int .i64 0))) rfl (AWops.nil (AW.ret ?_))
    obtain rfl := Option.some.inj h
    exact ⟨_, rfl, (Weak.gen (kk := 1) [0] [] rfl rfl (by decide) (by decide) rfl rfl rfl (le_upd (le_top _) (.t (.one .sc))) (ac (.cells (fun h => h) (ac .sc (ac .sc (ac .sc (ac .sc (ac .sc an)))))) an))⟩
def vdisk_Disk_Names.f (k : Nat) (p0 : vdisk_Disk) : Option ((List ByteArray) × vdisk_Disk) := (vdisk_Disk_none.f k (⟨([] : List (ByteArray × vdisk_file)), p0.room, p0.used, (), p0.dead⟩ : vdisk_Disk)).bind fun r1 => if r1.1 = true then (some (([] : List ByteArray), (⟨([] : List (ByteArray × vdisk_file)), r1.2.room, r1.2.used, (), r1.2.dead⟩ : vdisk_Disk))) else (none)
theorem vdisk_Disk_Names.meets (k : Nat) (p0 : vdisk_Disk) (r : (List ByteArray) × vdisk_Disk) (h : vdisk_Disk_Names.f k p0 = some r) : Meets Try.prog 24 [(D.one (C.ref 0 0))] [(some (AObj.cells false [(C.p true (.v (.map none))), (C.p true (.v (.int .i64 p0.room))), (C.p true (.v (.int .i64 p0.used))), (C.p true (.v (.pointer none))), (C.p true (.v (.bool p0.dead)))]))] (D.one (C.own 1 0 r.1.length 1)) [(some (AObj.cells false [(C.p true (.v (.map none))), (C.p true (.v (.int .i64 r.2.room))), (C.p true (.v (.int .i64 r.2.used))), (C.p true (.v (.pointer none))), (C.p true (.v (.bool r.2.dead)))])), (some (AObj.cells true (rowC e_str r.1)))] := by
 unfold vdisk_Disk_Names.f at h
 refine Meets.of_body (n := 11) Try.func24 rfl rfl (nl rfl) fun x hx => ?_
 replace hx : x.k = 1 := hx
 show AW _ x _ _ ⟨11, fr0 [(D.one (C.ref 0 0))], [(some (AObj.cells false [(C.p true (.v (.map none))), (C.p true (.v (.int .i64 p0.room))), (C.p true (.v (.int .i64 p0.used))), (C.p true (.v (.pointer none))), (C.p true (.v (.bool p0.dead)))]))]⟩
 refine AW.seq (AW.region ?_)
 refine s_assign (d := (sc (.slice none 0 0))) rfl (AWops.nil (AW.seq (AW.seq (AW.region ?_))))
 refine s_move (d := (D.one (C.ref 0 0))) rfl ?_
 obtain ⟨r1, er1, h⟩ := bnd h
 refine s_call2 (ρ := [0]) (br := false) (H2 := [(some (AObj.cells false [(C.p true (.v (.map none))), (C.p true (.v (.int .i64 r1.2.room))), (C.p true (.v (.int .i64 r1.2.used))), (C.p true (.v (.pointer none))), (C.p true (.v (.bool r1.2.dead)))]))]) (d := (sc (.bool r1.1))) F.ca_35 rfl rfl (ac (.one (.ref rfl)) an) (ac (.cells (ac .sc (ac .sc (ac .sc (ac .sc (ac .sc an)))))) an) (by decide) rfl (vdisk_Disk_none.meets _ (⟨([] : List (ByteArray × vdisk_file)), p0.room, p0.used, (), p0.dead⟩ : vdisk_Disk) r1 er1) (.inl rfl) rfl rfl (AWops.nil ?_)
 rcases itH h with ⟨c2, h⟩ | ⟨c2, h⟩
 ·refine AW.cond_yes rfl c2 (AW.seq (AW.region ?_))
  refine s_assign (d := (sc (.slice none 0 0))) rfl (AWops.nil (AW.ret ?_))
  obtain rfl := Option.some.inj h
  exact ⟨_, rfl, (Weak.trans (Weak.nil (sz := 1) (i := 0) rfl) (Weak.gen (kk := 1) [0, 1] [] rfl rfl (by decide) (by decide) rfl rfl rfl (le_upd (le_top _) (.t (.one (CLe.ownN rfl (by simp))))) (ac (.cells (fun h => h) (ac .sc (ac .sc (ac .sc (ac .sc (ac .sc an)))))) (ac (.cells (fun h => h) an) an))))⟩
 ·refine AW.cond_no rfl c2 (AW.skip (AW.seq (AW.region ?_)))
  refine s_move (d := (D.one (C.ref 0 0))) rfl ?_
  refine s_nilCheck (d := (D.one (C.ref 0 0))) rfl (.inl ⟨_, _, rfl⟩) ?_
  refine s_fieldRef F.fo_50_0 (by decide) rfl ?_
  refine s_load1 (c' := (C.p true (.v (.map none)))) F.ag_47 rfl rfl ?_
  cases h
def vdisk_Disk_Crash.f (k : Nat) (p0 : vdisk_Disk) (a1 : List Int) : Option (Int × vdisk_Disk) := (vdisk_Disk_none.f k (⟨([] : List (ByteArray × vdisk_file)), p0.room, p0.used, (), p0.dead⟩ : vdisk_Disk)).bind fun r1 => if r1.1 = true then (some (2, (⟨([] : List (ByteArray × vdisk_file)), r1.2.room, r1.2.used, (), r1.2.dead⟩ : vdisk_Disk))) else ((vdisk_Disk_Names.f k (⟨([] : List (ByteArray × vdisk_file)), r1.2.room, r1.2.used, (), r1.2.dead⟩ : vdisk_Disk)).bind fun r3 => if (decide (0 < (r3.1.length : Int))) = true then ((rd r3.1 0).bind fun v5 => none) else (some (0, (⟨([] : List (ByteArray × vdisk_file)), r3.2.room, r3.2.used, (), false⟩ : vdisk_Disk))))
theorem vdisk_Disk_Crash.meets (k : Nat) (p0 : vdisk_Disk) (a1 : List Int) (r : Int × vdisk_Disk) (h : vdisk_Disk_Crash.f k p0 a1 = some r) : Meets Try.prog 11 [(D.one (C.ref 0 0)), (D.one (C.p false (.sl a1.length (a1.flatMap e_i64))))] [(some (AObj.cells false [(C.p true (.v (.map none))), (C.p true (.v (.int .i64 p0.room))), (C.p true (.v (.int .i64 p0.used))), (C.p true (.v (.pointer none))), (C.p true (.v (.bool p0.dead)))]))] (sc (.int .i64 r.1)) [(some (AObj.cells false [(C.p true (.v (.map none))), (C.p true (.v (.int .i64 r.2.room))), (C.p true (.v (.int .i64 r.2.used))), (C.p true (.v (.pointer none))), (C.p true (.v (.bool r.2.dead)))]))] := by
 unfold vdisk_Disk_Crash.f at h
 refine Meets.of_body (n := 69) Try.func11 rfl rfl (nl rfl) fun x hx => ?_
 replace hx : x.k = 1 := hx
 show AW _ x _ _ ⟨69, fr0 [(D.one (C.ref 0 0)), (D.one (C.p false (.sl a1.length (a1.flatMap e_i64))))], [(some (AObj.cells false [(C.p true (.v (.map none))), (C.p true (.v (.int .i64 p0.room))), (C.p true (.v (.int .i64 p0.used))), (C.p true (.v (.pointer none))), (C.p true (.v (.bool p0.dead)))]))]⟩
 refine AW.seq (AW.region ?_)
 refine s_assign (d := (sc (.int .i64 0))) rfl (AWops.nil (AW.seq (AW.seq (AW.region ?_))))
 refine s_move (d := (D.one (C.ref 0 0))) rfl ?_
 obtain ⟨r1, er1, h⟩ := bnd h
 refine s_call2 (ρ := [0]) (br := false) (H2 := [(some (AObj.cells false [(C.p true (.v (.map none))), (C.p true (.v (.int .i64 r1.2.room))), (C.p true (.v (.int .i64 r1.2.used))), (C.p true (.v (.pointer none))), (C.p true (.v (.bool r1.2.dead)))]))]) (d := (sc (.bool r1.1))) F.ca_35 rfl rfl (ac (.one (.ref rfl)) an) (ac (.cells (ac .sc (ac .sc (ac .sc (ac .sc (ac .sc an)))))) an) (by decide) rfl (vdisk_Disk_none.meets _ (⟨([] : List (ByteArray × vdisk_file)), p0.room, p0.used, (), p0.dead⟩ : vdisk_Disk) r1 er1) (.inl rfl) rfl rfl (AWops.nil ?_)
 rcases itH h with ⟨c2, h⟩ | ⟨c2, h⟩
 ·refine AW.cond_yes rfl c2 (AW.seq (AW.region ?_))
  refine s_assign (d := (sc (.int .i64 2))) rfl (AWops.nil (AW.ret ?_))
  obtain rfl := Option.some.inj h
  exact ⟨_, rfl, (Weak.gen (kk := 1) [0] [] rfl rfl (by decide) (by decide) rfl rfl rfl (le_upd (le_top _) (.t (.one .sc))) (ac (.cells (fun h => h) (ac .sc (ac .sc (ac .sc (ac .sc (ac .sc an)))))) an))⟩
 ·refine AW.cond_no rfl c2 (AW.skip (AW.seq (AW.seq (AW.region ?_))))
  refine s_move (d := (D.one (C.ref 0 0))) rfl ?_
  obtain ⟨r3, er3, h⟩ := bnd h
  refine s_call2 (ρ := [0]) (br := false) (H2 := [(some (AObj.cells false [(C.p true (.v (.map none))), (C.p true (.v (.int .i64 r3.2.room))), (C.p true (.v (.int .i64 r3.2.used))), (C.p true (.v (.pointer none))), (C.p true (.v (.bool r3.2.dead)))])), (some (AObj.cells true (rowC e_str r3.1)))]) (d := (D.one (C.own 1 0 r3.1.length 1))) F.ca_24 rfl rfl (ac (.one (.ref rfl)) an) (ac (.cells (ac .sc (ac .sc (ac .sc (ac .sc (ac .sc an)))))) an) (by decide) rfl (vdisk_Disk_Names.meets _ (⟨([] : List (ByteArray × vdisk_file)), r1.2.room, r1.2.used, (), r1.2.dead⟩ : vdisk_Disk) r3 er3) (.inl rfl) (by first | rfl | (simp only [mergeH2, orF, Bool.false_or, Bool.or_false, Bool.true_or, Bool.or_true, mergeAt, mergeObj, renO, ren_row, List.drop_succ_cons, List.drop_zero, List.map_cons, List.map_nil, Option.map_some, Option.map_none, List.length_cons, List.length_nil, Nat.zero_add, List.append_assoc, List.cons_append, List.nil_append]; done) | (simp only [mergeH2, orF, Bool.false_or, Bool.or_false, Bool.true_or, Bool.or_true, mergeAt, mergeObj, renO, ren_row, List.drop_succ_cons, List.drop_zero, List.map_cons, List.map_nil, Option.map_some, Option.map_none, List.length_cons, List.length_nil, Nat.zero_add, List.append_assoc, List.cons_append, List.nil_append]; rfl)) rfl ?_
  refine s_len (n := r3.1.length) F.u_55 rfl (.inr ⟨(fun _ _ h => by cases h), ⟨_, rfl⟩⟩) ?_
  refine s_move (d := (sc (.int .i64 0))) rfl (AWops.nil (AW.block ?_))
  refine AW.unroll 9 ?_
  refine U.step (AW.seq (AW.region ?_))
  refine s_binI (v := (.bool (decide (0 < (r3.1.length : Int))))) rfl rfl rfl (AWops.nil (AW.seq ?_))
  rcases itH h with ⟨c4, h⟩ | ⟨c4, h⟩
  ·refine AW.cond_yes rfl c4 (AW.skip (AW.seq (AW.block (AW.seq (AW.region ?_)))))
   refine s_move (d := (sc (.int .i64 0))) rfl ?_
   obtain ⟨v5, ev5, h⟩ := bnd h
   obtain ⟨pv5, qv5, gv5⟩ := rd_some ev5
   refine s_indexOwn (d := (D.one (C.ref 1 (0 + 0 * 1)))) F.u_55 F.sz_9 rfl rfl pv5 qv5 rfl ?_
   obtain ⟨R6, hR6⟩ := row_at (f := e_str) (sz := 1) (o := 0) e_str_len gv5 (e_str_eq v5) (by decide)
   refine s_load1 (c' := (C.p true (.v (.string v5)))) F.ag_9 (congrArg some hR6) rfl ?_
   refine s_assign (d := (sc (.int .i64 0))) rfl ?_
   refine s_assign (d := (sc (.string v5))) rfl (AWops.nil (AW.seq (AW.region ?_)))
   refine s_move (d := (D.one (C.ref 0 0))) rfl ?_
   refine s_nilCheck (d := (D.one (C.ref 0 0))) rfl (.inl ⟨_, _, rfl⟩) ?_
   refine s_fieldRef F.fo_50_0 (by decide) rfl ?_
   refine s_load1 (c' := (C.p true (.v (.map none)))) F.ag_47 rfl rfl ?_
   refine s_move (d := (sc (.string v5))) rfl ?_
   cases h
  ·refine AW.cond_no rfl c4 (AW.exit (AW.seq (AW.region ?_)))
   refine s_move (d := (D.one (C.ref 0 0))) rfl ?_
   refine s_move (d := (D.one (C.ref 0 0))) rfl ?_
   refine s_nilCheck (d := (D.one (C.ref 0 0))) rfl (.inl ⟨_, _, rfl⟩) ?_
   refine s_fieldRef F.fo_50_4 (by decide) rfl ?_
   refine s_store (cs' := [(C.p true (.v (.map none))), (C.p true (.v (.int .i64 r3.2.room))), (C.p true (.v (.int .i64 r3.2.used))), (C.p true (.v (.pointer none))), (C.p true (.v (.bool false)))]) rfl rfl rfl (List.cons_ne_nil _ _) rfl F.sz_4 (nl rfl) rfl ?_
   refine s_nilCheck (d := (D.one (C.ref 0 0))) rfl (.inl ⟨_, _, rfl⟩) ?_
   refine s_fieldRef F.fo_50_3 (by decide) rfl ?_
   refine s_store (cs' := [(C.p true (.v (.map none))), (C.p true (.v (.int .i64 r3.2.room))), (C.p true (.v (.int .i64 r3.2.used))), (C.p true (.v (.pointer none))), (C.p true (.v (.bool false)))]) rfl rfl rfl (List.cons_ne_nil _ _) rfl F.sz_48 (nl rfl) rfl (AWops.nil (AW.seq (AW.region ?_)))
   refine s_assign (d := (sc (.int .i64 0))) rfl (AWops.nil (AW.ret ?_))
   obtain rfl := Option.some.inj h
   exact ⟨_, rfl, (Weak.gen (kk := 1) [0] [] rfl rfl (by decide) (by decide) rfl rfl rfl (le_upd (le_top _) (.t (.one .sc))) (ac (.cells (fun h => h) (ac .sc (ac .sc (ac .sc (ac .sc (ac .sc an)))))) an))⟩
def vdisk_Disk_Dead.f (k : Nat) (p0 : vdisk_Disk) : Option (Bool × vdisk_Disk) := (vdisk_Disk_none.f k (⟨([] : List (ByteArray × vdisk_file)), p0.room, p0.used, (), p0.dead⟩ : vdisk_Disk)).bind fun r1 => if r1.1 = true then (some (true, (⟨([] : List (ByteArray × vdisk_file)), r1.2.room, r1.2.used, (), r1.2.dead⟩ : vdisk_Disk))) else (some (r1.2.dead, (⟨([] : List (ByteArray × vdisk_file)), r1.2.room, r1.2.used, (), r1.2.dead⟩ : vdisk_Disk)))
theorem vdisk_Disk_Dead.meets (k : Nat) (p0 : vdisk_Disk) (r : Bool × vdisk_Disk) (h : vdisk_Disk_Dead.f k p0 = some r) : Meets Try.prog 23 [(D.one (C.ref 0 0))] [(some (AObj.cells false [(C.p true (.v (.map none))), (C.p true (.v (.int .i64 p0.room))), (C.p true (.v (.int .i64 p0.used))), (C.p true (.v (.pointer none))), (C.p true (.v (.bool p0.dead)))]))] (sc (.bool r.1)) [(some (AObj.cells false [(C.p true (.v (.map none))), (C.p true (.v (.int .i64 r.2.room))), (C.p true (.v (.int .i64 r.2.used))), (C.p true (.v (.pointer none))), (C.p true (.v (.bool r.2.dead)))]))] := by
 unfold vdisk_Disk_Dead.f at h
 refine Meets.of_body (n := 11) Try.func23 rfl rfl (nl rfl) fun x hx => ?_
 replace hx : x.k = 1 := hx
 show AW _ x _ _ ⟨11, fr0 [(D.one (C.ref 0 0))], [(some (AObj.cells false [(C.p true (.v (.map none))), (C.p true (.v (.int .i64 p0.room))), (C.p true (.v (.int .i64 p0.used))), (C.p true (.v (.pointer none))), (C.p true (.v (.bool p0.dead)))]))]⟩
 refine AW.seq (AW.region ?_)
 refine s_assign (d := (sc (.bool false))) rfl (AWops.nil (AW.seq (AW.region ?_)))
 refine s_move (d := (D.one (C.ref 0 0))) rfl ?_
 obtain ⟨r1, er1, h⟩ := bnd h
 refine s_call2 (ρ := [0]) (br := false) (H2 := [(some (AObj.cells false [(C.p true (.v (.map none))), (C.p true (.v (.int .i64 r1.2.room))), (C.p true (.v (.int .i64 r1.2.used))), (C.p true (.v (.pointer none))), (C.p true (.v (.bool r1.2.dead)))]))]) (d := (sc (.bool r1.1))) F.ca_35 rfl rfl (ac (.one (.ref rfl)) an) (ac (.cells (ac .sc (ac .sc (ac .sc (ac .sc (ac .sc an)))))) an) (by decide) rfl (vdisk_Disk_none.meets _ (⟨([] : List (ByteArray × vdisk_file)), p0.room, p0.used, (), p0.dead⟩ : vdisk_Disk) r1 er1) (.inl rfl) rfl rfl ?_
 refine s_move (d := (sc (.bool r1.1))) rfl ?_
 rcases itH h with ⟨c2, h⟩ | ⟨c2, h⟩
 ·iterate 4 refine AWops.guard_no rfl (nl rfl) rfl c2 ?_
  refine s_pick_yes (d := (sc (.bool true))) rfl c2 rfl ?_
  refine s_assign (d := (sc (.bool true))) rfl (AWops.nil (AW.ret ?_))
  obtain rfl := Option.some.inj h
  exact ⟨_, rfl, (Weak.gen (kk := 1) [0] [] rfl rfl (by decide) (by decide) rfl rfl rfl (le_upd (le_top _) (.t (.one .sc))) (ac (.cells (fun h => h) (ac .sc (ac .sc (ac .sc (ac .sc (ac .sc an)))))) an))⟩
 ·refine AWops.guard_yes rfl (nl rfl) rfl c2 ?_
  refine s_move (d := (D.one (C.ref 0 0))) rfl ?_
  refine AWops.guard_yes rfl (nl rfl) rfl c2 ?_
  refine s_nilCheck (d := (D.one (C.ref 0 0))) rfl (.inl ⟨_, _, rfl⟩) ?_
  refine AWops.guard_yes rfl (nl rfl) rfl c2 ?_
  refine s_fieldRef F.fo_50_4 (by decide) rfl ?_
  refine AWops.guard_yes rfl (nl rfl) rfl c2 ?_
  refine s_load1 (c' := (C.p true (.v (.bool r1.2.dead)))) F.ag_4 rfl rfl ?_
  refine s_pick_no (d := (sc (.bool r1.2.dead))) rfl c2 rfl ?_
  refine s_assign (d := (sc (.bool r1.2.dead))) rfl (AWops.nil (AW.ret ?_))
  obtain rfl := Option.some.inj h
  exact ⟨_, rfl, (Weak.gen (kk := 1) [0] [] rfl rfl (by decide) (by decide) rfl rfl rfl (le_upd (le_top _) (.t (.one .sc))) (ac (.cells (fun h => h) (ac .sc (ac .sc (ac .sc (ac .sc (ac .sc an)))))) an))⟩
def vdisk_Disk_Used.f (k : Nat) (p0 : vdisk_Disk) : Option (Int × vdisk_Disk) := (vdisk_Disk_none.f k (⟨([] : List (ByteArray × vdisk_file)), p0.room, p0.used, (), p0.dead⟩ : vdisk_Disk)).bind fun r1 => if r1.1 = true then (some (0, (⟨([] : List (ByteArray × vdisk_file)), r1.2.room, r1.2.used, (), r1.2.dead⟩ : vdisk_Disk))) else (some (r1.2.used, (⟨([] : List (ByteArray × vdisk_file)), r1.2.room, r1.2.used, (), r1.2.dead⟩ : vdisk_Disk)))
theorem vdisk_Disk_Used.meets (k : Nat) (p0 : vdisk_Disk) (r : Int × vdisk_Disk) (h : vdisk_Disk_Used.f k p0 = some r) : Meets Try.prog 17 [(D.one (C.ref 0 0))] [(some (AObj.cells false [(C.p true (.v (.map none))), (C.p true (.v (.int .i64 p0.room))), (C.p true (.v (.int .i64 p0.used))), (C.p true (.v (.pointer none))), (C.p true (.v (.bool p0.dead)))]))] (sc (.int .i64 r.1)) [(some (AObj.cells false [(C.p true (.v (.map none))), (C.p true (.v (.int .i64 r.2.room))), (C.p true (.v (.int .i64 r.2.used))), (C.p true (.v (.pointer none))), (C.p true (.v (.bool r.2.dead)))]))] := by
 unfold vdisk_Disk_Used.f at h
 refine Meets.of_body (n := 9) Try.func17 rfl rfl (nl rfl) fun x hx => ?_
 replace hx : x.k = 1 := hx
 show AW _ x _ _ ⟨9, fr0 [(D.one (C.ref 0 0))], [(some (AObj.cells false [(C.p true (.v (.map none))), (C.p true (.v (.int .i64 p0.room))), (C.p true (.v (.int .i64 p0.used))), (C.p true (.v (.pointer none))), (C.p true (.v (.bool p0.dead)))]))]⟩
 refine AW.seq (AW.region ?_)
 refine s_assign (d := (sc (.int .i64 0))) rfl (AWops.nil (AW.seq (AW.seq (AW.region ?_))))
 refine s_move (d := (D.one (C.ref 0 0))) rfl ?_
 obtain ⟨r1, er1, h⟩ := bnd h
 refine s_call2 (ρ := [0]) (br := false) (H2 := [(some (AObj.cells false [(C.p true (.v (.map none))), (C.p true (.v (.int .i64 r1.2.room))), (C.p true (.v (.int .i64 r1.2.used))), (C.p true (.v (.pointer none))), (C.p true (.v (.bool r1.2.dead)))]))]) (d := (sc (.bool r1.1))) F.ca_35 rfl rfl (ac (.one (.ref rfl)) an) (ac (.cells (ac .sc (ac .sc (ac .sc (ac .sc (ac .sc an)))))) an) (by decide) rfl (vdisk_Disk_none.meets _ (⟨([] : List (ByteArray × vdisk_file)), p0.room, p0.used, (), p0.dead⟩ : vdisk_Disk) r1 er1) (.inl rfl) rfl rfl (AWops.nil ?_)
 rcases itH h with ⟨c2, h⟩ | ⟨c2, h⟩
 ·refine AW.cond_yes rfl c2 (AW.seq (AW.region ?_))
  refine s_assign (d := (sc (.int .i64 0))) rfl (AWops.nil (AW.ret ?_))
  obtain rfl := Option.some.inj h
  exact ⟨_, rfl, (Weak.gen (kk := 1) [0] [] rfl rfl (by decide) (by decide) rfl rfl rfl (le_upd (le_top _) (.t (.one .sc))) (ac (.cells (fun h => h) (ac .sc (ac .sc (ac .sc (ac .sc (ac .sc an)))))) an))⟩
 ·refine AW.cond_no rfl c2 (AW.skip (AW.seq (AW.region ?_)))
  refine s_move (d := (D.one (C.ref 0 0))) rfl ?_
  refine s_nilCheck (d := (D.one (C.ref 0 0))) rfl (.inl ⟨_, _, rfl⟩) ?_
  refine s_fieldRef F.fo_50_2 (by decide) rfl ?_
  refine s_load1 (c' := (C.p true (.v (.int .i64 r1.2.used)))) F.ag_3 rfl rfl ?_
  refine s_assign (d := (sc (.int .i64 r1.2.used))) rfl (AWops.nil (AW.ret ?_))
  obtain rfl := Option.some.inj h
  exact ⟨_, rfl, (Weak.gen (kk := 1) [0] [] rfl rfl (by decide) (by decide) rfl rfl rfl (le_upd (le_top _) (.t (.one .sc))) (ac (.cells (fun h => h) (ac .sc (ac .sc (ac .sc (ac .sc (ac .sc an)))))) an))⟩
def vdisk_Disk_Copy.f (k : Nat) (p0 : vdisk_Disk) : Option (Unit × vdisk_Disk) := (vdisk_Disk_none.f k (⟨([] : List (ByteArray × vdisk_file)), p0.room, p0.used, (), p0.dead⟩ : vdisk_Disk)).bind fun r1 => if r1.1 = true then (some ((), (⟨([] : List (ByteArray × vdisk_file)), r1.2.room, r1.2.used, (), r1.2.dead⟩ : vdisk_Disk))) else (none)
theorem vdisk_Disk_Copy.meets (k : Nat) (p0 : vdisk_Disk) (r : Unit × vdisk_Disk) (h : vdisk_Disk_Copy.f k p0 = some r) : Meets Try.prog 25 [(D.one (C.ref 0 0))] [(some (AObj.cells false [(C.p true (.v (.map none))), (C.p true (.v (.int .i64 p0.room))), (C.p true (.v (.int .i64 p0.used))), (C.p true (.v (.pointer none))), (C.p true (.v (.bool p0.dead)))]))] (sc (.pointer none)) [(some (AObj.cells false [(C.p true (.v (.map none))), (C.p true (.v (.int .i64 r.2.room))), (C.p true (.v (.int .i64 r.2.used))), (C.p true (.v (.pointer none))), (C.p true (.v (.bool r.2.dead)))]))] := by
 unfold vdisk_Disk_Copy.f at h
 refine Meets.of_body (n := 28) Try.func25 rfl rfl (nl rfl) fun x hx => ?_
 replace hx : x.k = 1 := hx
 show AW _ x _ _ ⟨28, fr0 [(D.one (C.ref 0 0))], [(some (AObj.cells false [(C.p true (.v (.map none))), (C.p true (.v (.int .i64 p0.room))), (C.p true (.v (.int .i64 p0.used))), (C.p true (.v (.pointer none))), (C.p true (.v (.bool p0.dead)))]))]⟩
 refine AW.seq (AW.region ?_)
 refine s_assign (d := (sc (.pointer none))) rfl (AWops.nil (AW.seq (AW.seq (AW.region ?_))))
 refine s_move (d := (D.one (C.ref 0 0))) rfl ?_
 obtain ⟨r1, er1, h⟩ := bnd h
 refine s_call2 (ρ := [0]) (br := false) (H2 := [(some (AObj.cells false [(C.p true (.v (.map none))), (C.p true (.v (.int .i64 r1.2.room))), (C.p true (.v (.int .i64 r1.2.used))), (C.p true (.v (.pointer none))), (C.p true (.v (.bool r1.2.dead)))]))]) (d := (sc (.bool r1.1))) F.ca_35 rfl rfl (ac (.one (.ref rfl)) an) (ac (.cells (ac .sc (ac .sc (ac .sc (ac .sc (ac .sc an)))))) an) (by decide) rfl (vdisk_Disk_none.meets _ (⟨([] : List (ByteArray × vdisk_file)), p0.room, p0.used, (), p0.dead⟩ : vdisk_Disk) r1 er1) (.inl rfl) rfl rfl (AWops.nil ?_)
 rcases itH h with ⟨c2, h⟩ | ⟨c2, h⟩
 ·refine AW.cond_yes rfl c2 (AW.seq (AW.region ?_))
  refine s_assign (d := (sc (.pointer none))) rfl (AWops.nil (AW.ret ?_))
  obtain rfl := Option.some.inj h
  exact ⟨_, rfl, (Weak.gen (kk := 1) [0] [] rfl rfl (by decide) (by decide) rfl rfl rfl (le_upd (le_top _) (.t (.one .sc))) (ac (.cells (fun h => h) (ac .sc (ac .sc (ac .sc (ac .sc (ac .sc an)))))) an))⟩
 ·refine AW.cond_no rfl c2 (AW.skip (AW.seq (AW.region ?_)))
  refine s_move (d := (D.one (C.ref 0 0))) rfl ?_
  refine s_nilCheck (d := (D.one (C.ref 0 0))) rfl (.inl ⟨_, _, rfl⟩) ?_
  refine s_loadN (ds := [(C.p true (.v (.map none))), (C.p true (.v (.int .i64 r1.2.room))), (C.p true (.v (.int .i64 r1.2.used))), (C.p true (.v (.pointer none))), (C.p true (.v (.bool r1.2.dead)))]) F.ag_50 F.sz_50 rfl rfl rfl ?_
  refine s_alloc (cs := [(C.p true (.v (.map none))), (C.p true (.v (.int .i64 0))), (C.p true (.v (.int .i64 0))), (C.p true (.v (.pointer none))), (C.p true (.v (.bool false)))]) F.z_50 rfl rfl ?_
  refine s_store (cs' := [(C.p true (.v (.map none))), (C.p true (.v (.int .i64 r1.2.room))), (C.p true (.v (.int .i64 r1.2.used))), (C.p true (.v (.pointer none))), (C.p true (.v (.bool r1.2.dead)))]) rfl rfl rfl (List.cons_ne_nil _ _) rfl F.sz_50 (nl rfl) rfl (AWops.nil (AW.seq (AW.region ?_)))
  refine s_move (d := (D.one (C.ref 0 0))) rfl ?_
  refine s_nilCheck (d := (D.one (C.ref 0 0))) rfl (.inl ⟨_, _, rfl⟩) ?_
  refine s_fieldRef F.fo_50_0 (by decide) rfl ?_
  refine s_load1 (c' := (C.p true (.v (.map none)))) F.ag_47 rfl rfl ?_
  cases h
def vdisk_New_8.f (k : Nat) : Option (vdisk_Disk × Int) := some ((⟨([] : List (ByteArray × vdisk_file)), 9, 0, (), false⟩ : vdisk_Disk), 0)
theorem vdisk_New_8.meets (k : Nat) (r : vdisk_Disk × Int) (h : vdisk_New_8.f k = some r) : Meets Try.prog 8 [(sc (.int .i64 9))] [] (D.tup [(D.one (C.ref 0 0)), (sc (.int .i64 r.2))]) [(some (AObj.cells true [(C.mp 1), (C.p true (.v (.int .i64 r.1.room))), (C.p true (.v (.int .i64 r.1.used))), (C.p true (.v (.pointer none))), (C.p true (.v (.bool r.1.dead)))])), (some (AObj.map false (mapE true e_vdisk_file r.1.files)))] := by
 unfold vdisk_New_8.f at h
 refine Meets.of_body (n := 14) Try.func8 rfl rfl (nl rfl) fun x hx => ?_
 replace hx : x.k = 0 := hx
 show AW _ x _ _ ⟨14, fr0 [(sc (.int .i64 9))], []⟩
 refine AW.seq (AW.region ?_)
 refine s_assign (d := (sc (.pointer none))) rfl ?_
 refine s_assign (d := (sc (.int .i64 0))) rfl (AWops.nil (AW.seq (AW.seq (AW.region ?_))))
 refine s_move (d := (sc (.int .i64 9))) rfl ?_
 refine s_binI (v := (.bool false)) rfl rfl rfl ?_
 refine s_move (d := (sc (.bool false))) rfl ?_
 refine AWops.guard_yes rfl (nl rfl) rfl rfl ?_
 refine s_move (d := (sc (.int .i64 9))) rfl ?_
 refine AWops.guard_yes rfl (nl rfl) rfl rfl ?_
 refine s_binI (v := (.bool false)) rfl rfl rfl ?_
 refine s_pick_no (d := (sc (.bool false))) rfl rfl rfl (AWops.nil ?_)
 refine AW.cond_no rfl rfl (AW.skip (AW.seq (AW.region ?_)))
 refine t_makeMap ?_
 refine s_move (d := (sc (.int .i64 9))) rfl ?_
 refine s_build (ps := [(0, (D.one (C.mp 0))), (1, (sc (.int .i64 9)))]) (cs := [(C.mp 0), (C.p true (.v (.int .i64 9))), (C.p true (.v (.int .i64 0))), (C.p true (.v (.pointer none))), (C.p true (.v (.bool false)))]) F.z_50 rfl F.so_50 rfl rfl ?_
 refine s_box (cs := [(C.mp 0), (C.p true (.v (.int .i64 9))), (C.p true (.v (.int .i64 0))), (C.p true (.v (.pointer none))), (C.p true (.v (.bool false)))]) rfl (List.cons_ne_nil _ _) rfl ?_
 refine s_assign (d := (D.one (C.ref 1 0))) rfl ?_
 refine s_assign (d := (sc (.int .i64 0))) rfl (AWops.nil (AW.ret ?_))
 obtain rfl := Option.some.inj h
 exact ⟨_, rfl, (Weak.gen (kk := 0) [1, 0] [] rfl rfl (by decide) (by decide) rfl rfl rfl (le_upd (le_top _) (DLe.tup (ac (TLe.one (.ref rfl)) (ac (TLe.one .sc) an)))) (ac (.cells (fun h => h) (ac (.mp rfl) (ac .sc (ac .sc (ac .sc (ac .sc an)))))) (ac .map an)))⟩
def vdisk_Disk_none_35.f (k : Nat) (p0 : vdisk_Disk) : Option (Bool × vdisk_Disk) := some (false, p0)
theorem vdisk_Disk_none_35.meets (k : Nat) (p0 : vdisk_Disk) (r : Bool × vdisk_Disk) (h : vdisk_Disk_none_35.f k p0 = some r) : Meets Try.prog 35 [(D.one (C.ref 0 0))] [(some (AObj.cells false [(C.mp 1), (C.p true (.v (.int .i64 p0.room))), (C.p true (.v (.int .i64 p0.used))), (C.p true (.v (.pointer none))), (C.p true (.v (.bool p0.dead)))])), (some (AObj.map false (mapE true e_vdisk_file p0.files)))] (sc (.bool r.1)) [(some (AObj.cells false [(C.mp 2), (C.p true (.v (.int .i64 r.2.room))), (C.p true (.v (.int .i64 r.2.used))), (C.p true (.v (.pointer none))), (C.p true (.v (.bool r.2.dead)))])), none, (some (AObj.map false (mapE true e_vdisk_file r.2.files)))] := by
 unfold vdisk_Disk_none_35.f at h
 refine Meets.of_body (n := 12) Try.func35 rfl rfl (nl rfl) fun x hx => ?_
 replace hx : x.k = 2 := hx
 show AW _ x _ _ ⟨12, fr0 [(D.one (C.ref 0 0))], [(some (AObj.cells false [(C.mp 1), (C.p true (.v (.int .i64 p0.room))), (C.p true (.v (.int .i64 p0.used))), (C.p true (.v (.pointer none))), (C.p true (.v (.bool p0.dead)))])), (some (AObj.map false (mapE true e_vdisk_file p0.files)))]⟩
 refine AW.weak (st' := ⟨12, (upd 12 topF 0 (D.one (C.ref 0 0))), [(some (AObj.cells false [(C.mp 2), (C.p true (.v (.int .i64 p0.room))), (C.p true (.v (.int .i64 p0.used))), (C.p true (.v (.pointer none))), (C.p true (.v (.bool p0.dead)))])), none, (some (AObj.map false (mapE true e_vdisk_file p0.files)))]⟩) (Weak.genL (kk := 2) [0, 1, 1] [] hx rfl (by decide) rfl rfl rfl rfl (le_upd (le_top _) (.t (.one (.ref rfl)))) (ac (.cells (fun h => h) (ac (.mp rfl) (ac .sc (ac .sc (ac .sc (ac .sc an)))))) (ac (.none _) (ac .map an)))) (AW.seq (AW.region ?_))
 refine s_assign (d := (sc (.bool false))) rfl (AWops.nil (AW.seq (AW.region ?_)))
 refine s_move (d := (D.one (C.ref 0 0))) rfl ?_
 refine s_ptrNil (b := false) F.u_25 rfl (.inl ⟨⟨_, _, rfl⟩, rfl⟩) (.inl rfl) ?_
 refine s_move (d := (sc (.bool false))) rfl ?_
 refine AWops.guard_yes rfl (nl rfl) rfl rfl ?_
 refine s_move (d := (D.one (C.ref 0 0))) rfl ?_
 refine AWops.guard_yes rfl (nl rfl) rfl rfl ?_
 refine s_nilCheck (d := (D.one (C.ref 0 0))) rfl (.inl ⟨_, _, rfl⟩) ?_
 refine AWops.guard_yes rfl (nl rfl) rfl rfl ?_
 refine s_fieldRef F.fo_50_0 (by decide) rfl ?_
 refine AWops.guard_yes rfl (nl rfl) rfl rfl ?_
 refine s_load1 (c' := (C.mp 2)) F.ag_47 rfl rfl ?_
 refine AWops.guard_yes rfl (nl rfl) rfl rfl ?_
 refine s_mapNil (b := false) F.u_47 rfl (.inr ⟨rfl, _, rfl⟩) (.inl ⟨rfl, rfl⟩) ?_
 refine s_pick_no (d := (sc (.bool false))) rfl rfl rfl ?_
 refine s_assign (d := (sc (.bool false))) rfl (AWops.nil (AW.ret ?_))
 obtain rfl := Option.some.inj h
 exact ⟨_, rfl, (Weak.gen (kk := 2) [0, 1, 2] [] rfl rfl (by decide) (by decide) rfl rfl rfl (le_upd (le_top _) (.t (.one .sc))) (ac (.cells (fun h => h) (ac (.mp rfl) (ac .sc (ac .sc (ac .sc (ac .sc an)))))) (ac (.none _) (ac .map an))))⟩
def vdisk_Disk_change_31.f (k : Nat) (p0 : vdisk_Disk) (a1 : Bool) (a2 : ByteArray) (a3 : Bool) (a4 : Int) : Option (Int × vdisk_Disk) := (vdisk_Disk_none_35.f k p0).bind fun r1 => if r1.1 = true then (some (2, r1.2)) else (if a1 = true then (if r1.2.dead = true then (some (70, r1.2)) else (if ((mget a2 r1.2.files).isSome) = true then (if (decide (a4 > 0)) = true then (if (decide (a4 > (IntKind.i64.wrap (r1.2.room - r1.2.used)))) = true then (some (71, r1.2)) else (some (0, r1.2))) else (some (0, r1.2))) else (if a3 = true then (if (decide (a4 > 0)) = true then (if (decide (a4 > (IntKind.i64.wrap (r1.2.room - r1.2.used)))) = true then (some (71, r1.2)) else (some (0, r1.2))) else (some (0, r1.2))) else (some (33, r1.2))))) else (some (1, r1.2)))
theorem vdisk_Disk_change_31.meets (k : Nat) (p0 : vdisk_Disk) (a1 : Bool) (a2 : ByteArray) (a3 : Bool) (a4 : Int) (r : Int × vdisk_Disk) (h : vdisk_Disk_change_31.f k p0 a1 a2 a3 a4 = some r) : Meets Try.prog 31 [(D.one (C.ref 0 0)), (sc (.bool a1)), (sc (.string a2)), (sc (.bool a3)), (sc (.int .i64 a4))] [(some (AObj.cells false [(C.mp 1), (C.p true (.v (.int .i64 p0.room))), (C.p true (.v (.int .i64 p0.used))), (C.p true (.v (.pointer none))), (C.p true (.v (.bool p0.dead)))])), (some (AObj.map false (mapE true e_vdisk_file p0.files)))] (sc (.int .i64 r.1)) [(some (AObj.cells false [(C.mp 2), (C.p true (.v (.int .i64 r.2.room))), (C.p true (.v (.int .i64 r.2.used))), (C.p true (.v (.pointer none))), (C.p true (.v (.bool r.2.dead)))])), none, (some (AObj.map false (mapE true e_vdisk_file r.2.files)))] := by
 unfold vdisk_Disk_change_31.f at h
 refine Meets.of_body (n := 77) Try.func31 rfl rfl (nl rfl) fun x hx => ?_
 replace hx : x.k = 2 := hx
 show AW _ x _ _ ⟨77, fr0 [(D.one (C.ref 0 0)), (sc (.bool a1)), (sc (.string a2)), (sc (.bool a3)), (sc (.int .i64 a4))], [(some (AObj.cells false [(C.mp 1), (C.p true (.v (.int .i64 p0.room))), (C.p true (.v (.int .i64 p0.used))), (C.p true (.v (.pointer none))), (C.p true (.v (.bool p0.dead)))])), (some (AObj.map false (mapE true e_vdisk_file p0.files)))]⟩
 refine AW.weak (st' := ⟨77, (upd 77 (upd 77 (upd 77 (upd 77 (upd 77 topF 0 (D.one (C.ref 0 0))) 1 (sc (.bool a1))) 2 (sc (.string a2))) 3 (sc (.bool a3))) 4 (sc (.int .i64 a4))), [(some (AObj.cells false [(C.mp 2), (C.p true (.v (.int .i64 p0.room))), (C.p true (.v (.int .i64 p0.used))), (C.p true (.v (.pointer none))), (C.p true (.v (.bool p0.dead)))])), none, (some (AObj.map false (mapE true e_vdisk_file p0.files)))]⟩) (Weak.genL (kk := 2) [0, 1, 1] [] hx rfl (by decide) rfl rfl rfl rfl (le_upd (le_upd (le_upd (le_upd (le_upd (le_top _) (.t (.one (.ref rfl)))) (.t (.one .sc))) (.t (.one .sc))) (.t (.one .sc))) (.t (.one .sc))) (ac (.cells (fun h => h) (ac (.mp rfl) (ac .sc (ac .sc (ac .sc (ac .sc an)))))) (ac (.none _) (ac .map an)))) (AW.seq (AW.region ?_))
 refine s_assign (d := (sc (.int .i64 0))) rfl (AWops.nil (AW.seq (AW.block (AW.seq (AW.region ?_)))))
 refine s_move (d := (D.one (C.ref 0 0))) rfl ?_
 obtain ⟨r1, er1, h⟩ := bnd h
 refine s_call2 (ρ := [0, 2]) (br := false) (H2 := [(some (AObj.cells false [(C.mp 3), (C.p true (.v (.int .i64 r1.2.room))), (C.p true (.v (.int .i64 r1.2.used))), (C.p true (.v (.pointer none))), (C.p true (.v (.bool r1.2.dead)))])), none, none, (some (AObj.map false (mapE true e_vdisk_file r1.2.files)))]) (d := (sc (.bool r1.1))) F.ca_35 rfl rfl (ac (.one (.ref rfl)) an) (ac (.cells (ac (.mp rfl) (ac .sc (ac .sc (ac .sc (ac .sc an)))))) (ac .map an)) (by decide) rfl (vdisk_Disk_none_35.meets _ p0 r1 er1) (.inl rfl) rfl rfl ?_
 refine s_assign (d := (sc (.bool r1.1))) rfl (AWops.nil ?_)
 rcases itH h with ⟨c2, h⟩ | ⟨c2, h⟩
 ·refine AW.cond_yes rfl c2 (AW.seq (AW.region ?_))
  refine s_assign (d := (sc (.int .i64 2))) rfl (AWops.nil (AW.ret ?_))
  obtain rfl := Option.some.inj h
  exact ⟨_, rfl, (Weak.gen (kk := 2) [0, 1, 3] [] rfl rfl (by decide) (by decide) rfl rfl rfl (le_upd (le_top _) (.t (.one .sc))) (ac (.cells (fun h => h) (ac (.mp rfl) (ac .sc (ac .sc (ac .sc (ac .sc an)))))) (ac (.none _) (ac .map an))))⟩
 ·refine AW.cond_no rfl c2 (AW.seq (AW.region ?_))
  refine s_move (d := (sc (.bool a1))) rfl ?_
  refine s_not rfl ?_
  refine s_assign (d := (sc (.bool (!a1)))) rfl (AWops.nil ?_)
  rcases itH h with ⟨c3, h⟩ | ⟨c3, h⟩
  ·refine AW.cond_no rfl (by rw [c3] <;> rfl) (AW.seq (AW.region ?_))
   refine s_move (d := (D.one (C.ref 0 0))) rfl ?_
   refine s_nilCheck (d := (D.one (C.ref 0 0))) rfl (.inl ⟨_, _, rfl⟩) ?_
   refine s_fieldRef F.fo_50_4 (by decide) rfl ?_
   refine s_load1 (c' := (C.p true (.v (.bool r1.2.dead)))) F.ag_4 rfl rfl ?_
   refine s_assign (d := (sc (.bool r1.2.dead))) rfl (AWops.nil ?_)
   rcases itH h with ⟨c4, h⟩ | ⟨c4, h⟩
   ·refine AW.cond_yes rfl c4 (AW.seq (AW.region ?_))
    refine s_assign (d := (sc (.int .i64 70))) rfl (AWops.nil (AW.ret ?_))
    obtain rfl := Option.some.inj h
    exact ⟨_, rfl, (Weak.gen (kk := 2) [0, 1, 3] [] rfl rfl (by decide) (by decide) rfl rfl rfl (le_upd (le_top _) (.t (.one .sc))) (ac (.cells (fun h => h) (ac (.mp rfl) (ac .sc (ac .sc (ac .sc (ac .sc an)))))) (ac (.none _) (ac .map an))))⟩
   ·refine AW.cond_no rfl c4 (AW.skip (AW.seq (AW.seq (AW.region ?_))))
    refine s_move (d := (D.one (C.ref 0 0))) rfl ?_
    refine s_nilCheck (d := (D.one (C.ref 0 0))) rfl (.inl ⟨_, _, rfl⟩) ?_
    refine s_fieldRef F.fo_50_0 (by decide) rfl ?_
    refine s_load1 (c' := (C.mp 3)) F.ag_47 rfl rfl ?_
    refine s_move (d := (sc (.string a2))) rfl ?_
    refine t_lookupOk (b := true) F.u_47 F.u_9 F.z_65 (z := ((⟨([] : List Int), 0⟩ : vdisk_file) : vdisk_file)) (zs := [(.slice none 0 0), (.int .i64 0)]) rfl (fun h => by cases h) (ac ZRel.n (ac (ZRel.v _ rfl) an)) rfl rfl rfl rfl ?_
    refine s_move (d := (D.tup [(D.agg (c_vdisk_file ((mget a2 r1.2.files).getD ((⟨([] : List Int), 0⟩ : vdisk_file) : vdisk_file)))), (sc (.bool ((mget a2 r1.2.files).isSome)))])) rfl ?_
    refine s_extract (d := (D.agg (c_vdisk_file ((mget a2 r1.2.files).getD ((⟨([] : List Int), 0⟩ : vdisk_file) : vdisk_file))))) rfl rfl ?_
    refine s_extract (d := (sc (.bool ((mget a2 r1.2.files).isSome)))) rfl rfl ?_
    refine s_alloc (cs := [(C.p true (.v (.slice none 0 0))), (C.p true (.v (.int .i64 0)))]) F.z_65 rfl rfl ?_
    refine s_store (cs' := (c_vdisk_file ((mget a2 r1.2.files).getD ((⟨([] : List Int), 0⟩ : vdisk_file) : vdisk_file)))) rfl rfl rfl (List.cons_ne_nil _ _) rfl F.sz_65 (nl rfl) rfl ?_
    refine s_assign (d := (sc (.bool ((mget a2 r1.2.files).isSome)))) rfl (AWops.nil (AW.seq (AW.region ?_)))
    refine s_move (d := (sc (.bool ((mget a2 r1.2.files).isSome)))) rfl ?_
    refine s_not rfl ?_
    refine s_move (d := (sc (.bool (!((mget a2 r1.2.files).isSome))))) rfl ?_
    rcases itH h with ⟨c5, h⟩ | ⟨c5, h⟩
    ·refine AWops.guard_no rfl (nl rfl) rfl (by rw [c5] <;> rfl) ?_
     refine AWops.guard_no rfl (nl rfl) rfl (by rw [c5] <;> rfl) ?_
     refine s_pick_no (d := (sc (.bool false))) rfl (by rw [c5] <;> rfl) rfl (AWops.nil ?_)
     refine AW.cond_no rfl rfl (AW.skip (AW.seq (AW.seq ?_)))
     refine AW.weak (st' := ⟨77, (upd 77 (upd 77 topF 0 (D.one (C.ref 0 0))) 4 (sc (.int .i64 a4))), [(some (AObj.cells false [(C.mp 2), (C.p true (.v (.int .i64 r1.2.room))), (C.p true (.v (.int .i64 r1.2.used))), (C.p true (.v (.pointer none))), (C.p true (.v (.bool r1.2.dead)))])), none, (some (AObj.map false (mapE true e_vdisk_file r1.2.files)))]⟩) (Weak.gen (kk := 2) [0, 1, 3] [] hx rfl (by decide) (by decide) rfl rfl rfl (le_upd (le_upd (le_top _) (.t (.one (.ref rfl)))) (.t (.one .sc))) (ac (.cells (fun h => h) (ac (.mp rfl) (ac .sc (ac .sc (ac .sc (ac .sc an)))))) (ac (.none _) (ac .map an)))) ?_
     rcases itH h with ⟨c6, h⟩ | ⟨c6, h⟩
     ·refine AW.draw (n := 77) (L := 3) [(0, ⟨some 39, (sc (.int .i64 a4)), [(4, (sc (.int .i64 a4)))], [], [], none⟩), (1, ⟨some 40, (sc (.bool (decide (a4 > 0)))), [(39, (sc (.int .i64 a4)))], [], [], none⟩), (2, ⟨some 41, (sc (.bool (decide (a4 > 0)))), [(40, (sc (.bool (decide (a4 > 0)))))], [], [], none⟩), (3, ⟨some 42, (sc (.int .i64 a4)), [(4, (sc (.int .i64 a4))), (41, (sc (.bool (decide (a4 > 0)))))], [], [], none⟩), (4, ⟨some 43, (D.one (C.ref 0 0)), [(0, (D.one (C.ref 0 0))), (41, (sc (.bool (decide (a4 > 0)))))], [], [], none⟩), (5, ⟨some 44, (D.one (C.ref 0 0)), [(41, (sc (.bool (decide (a4 > 0))))), (43, (D.one (C.ref 0 0)))], [], [], none⟩), (6, ⟨some 45, (D.one (C.ref 0 1)), [(41, (sc (.bool (decide (a4 > 0))))), (44, (D.one (C.ref 0 0)))], [], [], none⟩), (7, ⟨some 46, (sc (.int .i64 r1.2.room)), [(41, (sc (.bool (decide (a4 > 0))))), (45, (D.one (C.ref 0 1)))], [(0, (some (AObj.cells false [(C.mp 2), (C.p true (.v (.int .i64 r1.2.room))), (C.p true (.v (.int .i64 r1.2.used))), (C.p true (.v (.pointer none))), (C.p true (.v (.bool r1.2.dead)))])))], [], none⟩), (8, ⟨some 47, (D.one (C.ref 0 0)), [(0, (D.one (C.ref 0 0))), (41, (sc (.bool (decide (a4 > 0)))))], [], [], none⟩), (9, ⟨some 48, (D.one (C.ref 0 0)), [(41, (sc (.bool (decide (a4 > 0))))), (47, (D.one (C.ref 0 0)))], [], [], none⟩), (10, ⟨some 49, (D.one (C.ref 0 2)), [(41, (sc (.bool (decide (a4 > 0))))), (48, (D.one (C.ref 0 0)))], [], [], none⟩), (11, ⟨some 50, (sc (.int .i64 r1.2.used)), [(41, (sc (.bool (decide (a4 > 0))))), (49, (D.one (C.ref 0 2)))], [(0, (some (AObj.cells false [(C.mp 2), (C.p true (.v (.int .i64 r1.2.room))), (C.p true (.v (.int .i64 r1.2.used))), (C.p true (.v (.pointer none))), (C.p true (.v (.bool r1.2.dead)))])))], [], none⟩), (12, ⟨some 51, (sc (.int .i64 (IntKind.i64.wrap (r1.2.room - r1.2.used)))), [(41, (sc (.bool (decide (a4 > 0))))), (46, (sc (.int .i64 r1.2.room))), (50, (sc (.int .i64 r1.2.used)))], [], [], none⟩), (13, ⟨some 52, (sc (.bool (decide (a4 > (IntKind.i64.wrap (r1.2.room - r1.2.used)))))), [(41, (sc (.bool (decide (a4 > 0))))), (42, (sc (.int .i64 a4))), (51, (sc (.int .i64 (IntKind.i64.wrap (r1.2.room - r1.2.used)))))], [], [], none⟩), (14, ⟨some 53, (sc (.bool (decide (a4 > (IntKind.i64.wrap (r1.2.room - r1.2.used)))))), [(41, (sc (.bool (decide (a4 > 0))))), (52, (sc (.bool (decide (a4 > (IntKind.i64.wrap (r1.2.room - r1.2.used)))))))], [], [], none⟩)] [[], [0], [0, 1], [0, 1, 2], [0, 1, 2], [0, 1, 2, 4], [0, 1, 2, 4, 5], [0, 1, 2, 4, 5, 6], [0, 1, 2], [0, 1, 2, 8], [0, 1, 2, 8, 9], [0, 1, 2, 8, 9, 10], [0, 1, 2, 4, 5, 6, 7, 8, 9, 10, 11], [0, 1, 2, 3, 4, 5, 6, 7, 8, 9, 10, 11, 12], [0, 1, 2, 3, 4, 5, 6, 7, 8, 9, 10, 11, 12, 13]] (nl rfl) [0, 1, 2, 3, 3, 4, 5, 6, 3, 4, 5, 6, 7, 8, 9] rfl (TK := []) rfl AllK.nil' (fC ⟨(sC rfl AllS.nil'), AllH.nil'⟩ (fC ⟨(sC rfl AllS.nil'), AllH.nil'⟩ (fC ⟨(sC rfl AllS.nil'), AllH.nil'⟩ (fC ⟨(sC rfl (sC rfl AllS.nil')), AllH.nil'⟩ (fC ⟨(sC rfl (sC rfl AllS.nil')), AllH.nil'⟩ (fC ⟨(sC rfl (sC rfl AllS.nil')), AllH.nil'⟩ (fC ⟨(sC rfl (sC rfl AllS.nil')), AllH.nil'⟩ (fC ⟨(sC rfl (sC rfl AllS.nil')), (hC rfl AllH.nil')⟩ (fC ⟨(sC rfl (sC rfl AllS.nil')), AllH.nil'⟩ (fC ⟨(sC rfl (sC rfl AllS.nil')), AllH.nil'⟩ (fC ⟨(sC rfl (sC rfl AllS.nil')), AllH.nil'⟩ (fC ⟨(sC rfl (sC rfl AllS.nil')), (hC rfl AllH.nil')⟩ (fC ⟨(sC rfl (sC rfl (sC rfl AllS.nil'))), AllH.nil'⟩ (fC ⟨(sC rfl (sC rfl (sC rfl AllS.nil'))), AllH.nil'⟩ (fC ⟨(sC rfl (sC rfl AllS.nil')), AllH.nil'⟩ AllF.nil'))))))))))))))) ?_ ?_
      ·refine (pC ?_ (pC ?_ (pC ?_ (pC ?_ (pC ?_ (pC ?_ (pC ?_ (pC ?_ (pC ?_ (pC ?_ (pC ?_ (pC ?_ (pC ?_ (pC ?_ (pC ?_ AllStep.nil')))))))))))))))
       ·intro K rest fr hv htk k
        show AWops _ x _ _ K ⟨77, (upd 77 fr 4 (sc (.int .i64 a4))), _⟩
        refine s_move (d := (sc (.int .i64 a4))) rfl k
       ·intro K rest fr hv htk k
        show AWops _ x _ _ K ⟨77, (upd 77 fr 39 (sc (.int .i64 a4))), _⟩
        refine s_binI (v := (.bool (decide (a4 > 0)))) rfl rfl rfl k
       ·intro K rest fr hv htk k
        show AWops _ x _ _ K ⟨77, (upd 77 fr 40 (sc (.bool (decide (a4 > 0))))), _⟩
        refine s_move (d := (sc (.bool (decide (a4 > 0))))) rfl k
       ·intro K rest fr hv htk k
        show AWops _ x _ _ K ⟨77, (upd 77 (upd 77 fr 41 (sc (.bool (decide (a4 > 0))))) 4 (sc (.int .i64 a4))), _⟩
        refine AWops.guard_yes rfl (nl rfl) rfl c6 ?_
        refine s_move (d := (sc (.int .i64 a4))) rfl k
       ·intro K rest fr hv htk k
        show AWops _ x _ _ K ⟨77, (upd 77 (upd 77 fr 41 (sc (.bool (decide (a4 > 0))))) 0 (D.one (C.ref 0 0))), _⟩
        refine AWops.guard_yes rfl (nl rfl) rfl c6 ?_
        refine s_move (d := (D.one (C.ref 0 0))) rfl k
       ·intro K rest fr hv htk k
        show AWops _ x _ _ K ⟨77, (upd 77 (upd 77 fr 43 (D.one (C.ref 0 0))) 41 (sc (.bool (decide (a4 > 0))))), [(hv 0), (hv 1), (hv 2)]⟩
        refine AWops.guard_yes rfl (nl rfl) rfl c6 ?_
        refine s_nilCheck (d := (D.one (C.ref 0 0))) rfl (.inl ⟨_, _, rfl⟩) k
       ·intro K rest fr hv htk k
        show AWops _ x _ _ K ⟨77, (upd 77 (upd 77 fr 44 (D.one (C.ref 0 0))) 41 (sc (.bool (decide (a4 > 0))))), [(hv 0), (hv 1), (hv 2)]⟩
        refine AWops.guard_yes rfl (nl rfl) rfl c6 ?_
        refine s_fieldRef F.fo_50_1 (by decide) rfl k
       ·intro K rest fr hv htk k
        show AWops _ x _ _ K ⟨77, (upd 77 (upd 77 fr 45 (D.one (C.ref 0 1))) 41 (sc (.bool (decide (a4 > 0))))), [(some (AObj.cells false [(C.mp 2), (C.p true (.v (.int .i64 r1.2.room))), (C.p true (.v (.int .i64 r1.2.used))), (C.p true (.v (.pointer none))), (C.p true (.v (.bool r1.2.dead)))])), (hv 1), (hv 2)]⟩
        refine AWops.guard_yes rfl (nl rfl) rfl c6 ?_
        refine s_load1 (c' := (C.p true (.v (.int .i64 r1.2.room)))) F.ag_3 rfl rfl k
       ·intro K rest fr hv htk k
        show AWops _ x _ _ K ⟨77, (upd 77 (upd 77 fr 41 (sc (.bool (decide (a4 > 0))))) 0 (D.one (C.ref 0 0))), _⟩
        refine AWops.guard_yes rfl (nl rfl) rfl c6 ?_
        refine s_move (d := (D.one (C.ref 0 0))) rfl k
       ·intro K rest fr hv htk k
        show AWops _ x _ _ K ⟨77, (upd 77 (upd 77 fr 47 (D.one (C.ref 0 0))) 41 (sc (.bool (decide (a4 > 0))))), [(hv 0), (hv 1), (hv 2)]⟩
        refine AWops.guard_yes rfl (nl rfl) rfl c6 ?_
        refine s_nilCheck (d := (D.one (C.ref 0 0))) rfl (.inl ⟨_, _, rfl⟩) k
       ·intro K rest fr hv htk k
        show AWops _ x _ _ K ⟨77, (upd 77 (upd 77 fr 48 (D.one (C.ref 0 0))) 41 (sc (.bool (decide (a4 > 0))))), [(hv 0), (hv 1), (hv 2)]⟩
        refine AWops.guard_yes rfl (nl rfl) rfl c6 ?_
        refine s_fieldRef F.fo_50_2 (by decide) rfl k
       ·intro K rest fr hv htk k
        show AWops _ x _ _ K ⟨77, (upd 77 (upd 77 fr 49 (D.one (C.ref 0 2))) 41 (sc (.bool (decide (a4 > 0))))), [(some (AObj.cells false [(C.mp 2), (C.p true (.v (.int .i64 r1.2.room))), (C.p true (.v (.int .i64 r1.2.used))), (C.p true (.v (.pointer none))), (C.p true (.v (.bool r1.2.dead)))])), (hv 1), (hv 2)]⟩
        refine AWops.guard_yes rfl (nl rfl) rfl c6 ?_
        refine s_load1 (c' := (C.p true (.v (.int .i64 r1.2.used)))) F.ag_3 rfl rfl k
       ·intro K rest fr hv htk k
        show AWops _ x _ _ K ⟨77, (upd 77 (upd 77 (upd 77 fr 50 (sc (.int .i64 r1.2.used))) 46 (sc (.int .i64 r1.2.room))) 41 (sc (.bool (decide (a4 > 0))))), _⟩
        refine AWops.guard_yes rfl (nl rfl) rfl c6 ?_
        refine s_binI (v := (.int .i64 (IntKind.i64.wrap (r1.2.room - r1.2.used)))) rfl rfl rfl k
       ·intro K rest fr hv htk k
        show AWops _ x _ _ K ⟨77, (upd 77 (upd 77 (upd 77 fr 51 (sc (.int .i64 (IntKind.i64.wrap (r1.2.room - r1.2.used))))) 42 (sc (.int .i64 a4))) 41 (sc (.bool (decide (a4 > 0))))), _⟩
        refine AWops.guard_yes rfl (nl rfl) rfl c6 ?_
        refine s_binI (v := (.bool (decide (a4 > (IntKind.i64.wrap (r1.2.room - r1.2.used)))))) rfl rfl rfl k
       ·intro K rest fr hv htk k
        show AWops _ x _ _ K ⟨77, (upd 77 (upd 77 fr 52 (sc (.bool (decide (a4 > (IntKind.i64.wrap (r1.2.room - r1.2.used))))))) 41 (sc (.bool (decide (a4 > 0))))), _⟩
        refine s_pick_yes (d := (sc (.bool (decide (a4 > (IntKind.i64.wrap (r1.2.room - r1.2.used))))))) rfl c6 rfl k
      ·refine AWops.weak (st' := ⟨77, (upd 77 (upd 77 topF 0 (D.one (C.ref 0 0))) 53 (sc (.bool (decide (a4 > (IntKind.i64.wrap (r1.2.room - r1.2.used))))))), [(some (AObj.cells false [(C.mp 2), (C.p true (.v (.int .i64 r1.2.room))), (C.p true (.v (.int .i64 r1.2.used))), (C.p true (.v (.pointer none))), (C.p true (.v (.bool r1.2.dead)))])), none, (some (AObj.map false (mapE true e_vdisk_file r1.2.files)))]⟩) (Weak.gen (kk := 2) [0, 1, 2] [] hx rfl (by decide) (by decide) rfl rfl rfl (le_upd (le_upd (le_top _) (.t (.one (.ref rfl)))) (.t (.one .sc))) (ac (.cells (fun h => h) (ac (.mp rfl) (ac .sc (ac .sc (ac .sc (ac .sc an)))))) (ac (.none _) (ac .map an)))) (AWops.nil ?_)
       rcases itH h with ⟨c7, h⟩ | ⟨c7, h⟩
       ·refine AW.cond_yes rfl c7 (AW.seq (AW.region ?_))
        refine s_assign (d := (sc (.int .i64 71))) rfl (AWops.nil (AW.ret ?_))
        obtain rfl := Option.some.inj h
        exact ⟨_, rfl, (Weak.gen (kk := 2) [0, 1, 2] [] rfl rfl (by decide) (by decide) rfl rfl rfl (le_upd (le_top _) (.t (.one .sc))) (ac (.cells (fun h => h) (ac (.mp rfl) (ac .sc (ac .sc (ac .sc (ac .sc an)))))) (ac (.none _) (ac .map an))))⟩
       ·refine AW.cond_no rfl c7 (AW.skip (AW.seq (AW.seq (AW.region ?_))))
        refine s_move (d := (D.one (C.ref 0 0))) rfl ?_
        refine s_nilCheck (d := (D.one (C.ref 0 0))) rfl (.inl ⟨_, _, rfl⟩) ?_
        refine s_fieldRef F.fo_50_3 (by decide) rfl ?_
        refine s_load1 (c' := (C.p true (.v (.pointer none)))) F.ag_48 rfl rfl ?_
        refine s_ptrNil (b := true) F.u_48 rfl (.inr ⟨⟨_, rfl⟩, rfl⟩) (.inr rfl) (AWops.nil ?_)
        refine AW.cond_no rfl rfl (AW.skip (AW.seq (AW.region ?_)))
        refine s_assign (d := (sc (.int .i64 0))) rfl (AWops.nil (AW.ret ?_))
        obtain rfl := Option.some.inj h
        exact ⟨_, rfl, (Weak.gen (kk := 2) [0, 1, 2] [] rfl rfl (by decide) (by decide) rfl rfl rfl (le_upd (le_top _) (.t (.one .sc))) (ac (.cells (fun h => h) (ac (.mp rfl) (ac .sc (ac .sc (ac .sc (ac .sc an)))))) (ac (.none _) (ac .map an))))⟩
     ·refine AW.draw (n := 77) (L := 3) [(0, ⟨some 39, (sc (.int .i64 a4)), [(4, (sc (.int .i64 a4)))], [], [], none⟩), (1, ⟨some 40, (sc (.bool (decide (a4 > 0)))), [(39, (sc (.int .i64 a4)))], [], [], none⟩), (2, ⟨some 41, (sc (.bool (decide (a4 > 0)))), [(40, (sc (.bool (decide (a4 > 0)))))], [], [], none⟩), (3, ⟨some 42, (D.tup []), [(4, (sc (.int .i64 a4))), (41, (sc (.bool (decide (a4 > 0)))))], [], [], none⟩), (4, ⟨some 43, (D.tup []), [(41, (sc (.bool (decide (a4 > 0)))))], [], [], none⟩), (5, ⟨some 44, (D.tup []), [(41, (sc (.bool (decide (a4 > 0)))))], [], [], none⟩), (6, ⟨some 45, (D.tup []), [(41, (sc (.bool (decide (a4 > 0)))))], [], [], none⟩), (7, ⟨some 46, (D.tup []), [(41, (sc (.bool (decide (a4 > 0)))))], [], [], none⟩), (8, ⟨some 47, (D.tup []), [(41, (sc (.bool (decide (a4 > 0)))))], [], [], none⟩), (9, ⟨some 48, (D.tup []), [(41, (sc (.bool (decide (a4 > 0)))))], [], [], none⟩), (10, ⟨some 49, (D.tup []), [(41, (sc (.bool (decide (a4 > 0)))))], [], [], none⟩), (11, ⟨some 50, (D.tup []), [(41, (sc (.bool (decide (a4 > 0)))))], [], [], none⟩), (12, ⟨some 51, (D.tup []), [(41, (sc (.bool (decide (a4 > 0)))))], [], [], none⟩), (13, ⟨some 52, (D.tup []), [(41, (sc (.bool (decide (a4 > 0)))))], [], [], none⟩), (14, ⟨some 53, (sc (.bool false)), [(41, (sc (.bool (decide (a4 > 0)))))], [], [], none⟩)] [[], [0], [0, 1], [0, 1, 2], [0, 1, 2], [0, 1, 2, 4], [0, 1, 2, 4, 5], [0, 1, 2, 4, 5, 6], [0, 1, 2], [0, 1, 2, 8], [0, 1, 2, 8, 9], [0, 1, 2, 8, 9, 10], [0, 1, 2, 4, 5, 6, 7, 8, 9, 10, 11], [0, 1, 2, 3, 4, 5, 6, 7, 8, 9, 10, 11, 12], [0, 1, 2, 3, 4, 5, 6, 7, 8, 9, 10, 11, 12, 13]] (nl rfl) [0, 1, 2, 3, 3, 4, 5, 6, 3, 4, 5, 6, 7, 8, 9] rfl (TK := []) rfl AllK.nil' (fC ⟨(sC rfl AllS.nil'), AllH.nil'⟩ (fC ⟨(sC rfl AllS.nil'), AllH.nil'⟩ (fC ⟨(sC rfl AllS.nil'), AllH.nil'⟩ (fC ⟨(sC rfl (sC rfl AllS.nil')), AllH.nil'⟩ (fC ⟨(sC rfl AllS.nil'), AllH.nil'⟩ (fC ⟨(sC rfl AllS.nil'), AllH.nil'⟩ (fC ⟨(sC rfl AllS.nil'), AllH.nil'⟩ (fC ⟨(sC rfl AllS.nil'), AllH.nil'⟩ (fC ⟨(sC rfl AllS.nil'), AllH.nil'⟩ (fC ⟨(sC rfl AllS.nil'), AllH.nil'⟩ (fC ⟨(sC rfl AllS.nil'), AllH.nil'⟩ (fC ⟨(sC rfl AllS.nil'), AllH.nil'⟩ (fC ⟨(sC rfl AllS.nil'), AllH.nil'⟩ (fC ⟨(sC rfl AllS.nil'), AllH.nil'⟩ (fC ⟨(sC rfl AllS.nil'), AllH.nil'⟩ AllF.nil'))))))))))))))) ?_ ?_
      ·refine (pC ?_ (pC ?_ (pC ?_ (pC ?_ (pC ?_ (pC ?_ (pC ?_ (pC ?_ (pC ?_ (pC ?_ (pC ?_ (pC ?_ (pC ?_ (pC ?_ (pC ?_ AllStep.nil')))))))))))))))
       ·intro K rest fr hv htk k
        show AWops _ x _ _ K ⟨77, (upd 77 fr 4 (sc (.int .i64 a4))), _⟩
        refine s_move (d := (sc (.int .i64 a4))) rfl k
       ·intro K rest fr hv htk k
        show AWops _ x _ _ K ⟨77, (upd 77 fr 39 (sc (.int .i64 a4))), _⟩
        refine s_binI (v := (.bool (decide (a4 > 0)))) rfl rfl rfl k
       ·intro K rest fr hv htk k
        show AWops _ x _ _ K ⟨77, (upd 77 fr 40 (sc (.bool (decide (a4 > 0))))), _⟩
        refine s_move (d := (sc (.bool (decide (a4 > 0))))) rfl k
       ·intro K rest fr hv htk k
        show AWops _ x _ _ K ⟨77, (upd 77 (upd 77 fr 41 (sc (.bool (decide (a4 > 0))))) 4 (sc (.int .i64 a4))), _⟩
        refine AWops.guard_no rfl (nl rfl) rfl c6 k
       ·intro K rest fr hv htk k
        show AWops _ x _ _ K ⟨77, (upd 77 fr 41 (sc (.bool (decide (a4 > 0))))), _⟩
        refine AWops.guard_no rfl (nl rfl) rfl c6 k
       ·intro K rest fr hv htk k
        show AWops _ x _ _ K ⟨77, (upd 77 fr 41 (sc (.bool (decide (a4 > 0))))), _⟩
        refine AWops.guard_no rfl (nl rfl) rfl c6 k
       ·intro K rest fr hv htk k
        show AWops _ x _ _ K ⟨77, (upd 77 fr 41 (sc (.bool (decide (a4 > 0))))), _⟩
        refine AWops.guard_no rfl (nl rfl) rfl c6 k
       ·intro K rest fr hv htk k
        show AWops _ x _ _ K ⟨77, (upd 77 fr 41 (sc (.bool (decide (a4 > 0))))), _⟩
        refine AWops.guard_no rfl (nl rfl) rfl c6 k
       ·intro K rest fr hv htk k
        show AWops _ x _ _ K ⟨77, (upd 77 fr 41 (sc (.bool (decide (a4 > 0))))), _⟩
        refine AWops.guard_no rfl (nl rfl) rfl c6 k
       ·intro K rest fr hv htk k
        show AWops _ x _ _ K ⟨77, (upd 77 fr 41 (sc (.bool (decide (a4 > 0))))), _⟩
        refine AWops.guard_no rfl (nl rfl) rfl c6 k
       ·intro K rest fr hv htk k
        show AWops _ x _ _ K ⟨77, (upd 77 fr 41 (sc (.bool (decide (a4 > 0))))), _⟩
        refine AWops.guard_no rfl (nl rfl) rfl c6 k
       ·intro K rest fr hv htk k
        show AWops _ x _ _ K ⟨77, (upd 77 fr 41 (sc (.bool (decide (a4 > 0))))), _⟩
        refine AWops.guard_no rfl (nl rfl) rfl c6 k
       ·intro K rest fr hv htk k
        show AWops _ x _ _ K ⟨77, (upd 77 fr 41 (sc (.bool (decide (a4 > 0))))), _⟩
        refine AWops.guard_no rfl (nl rfl) rfl c6 k
       ·intro K rest fr hv htk k
        show AWops _ x _ _ K ⟨77, (upd 77 fr 41 (sc (.bool (decide (a4 > 0))))), _⟩
        refine AWops.guard_no rfl (nl rfl) rfl c6 k
       ·intro K rest fr hv htk k
        show AWops _ x _ _ K ⟨77, (upd 77 fr 41 (sc (.bool (decide (a4 > 0))))), _⟩
        refine s_pick_no (d := (sc (.bool false))) rfl c6 rfl k
      ·refine AWops.weak (st' := ⟨77, (upd 77 (upd 77 topF 0 (D.one (C.ref 0 0))) 53 (sc (.bool false))), [(some (AObj.cells false [(C.mp 2), (C.p true (.v (.int .i64 r1.2.room))), (C.p true (.v (.int .i64 r1.2.used))), (C.p true (.v (.pointer none))), (C.p true (.v (.bool r1.2.dead)))])), none, (some (AObj.map false (mapE true e_vdisk_file r1.2.files)))]⟩) (Weak.gen (kk := 2) [0, 1, 2] [] hx rfl (by decide) (by decide) rfl rfl rfl (le_upd (le_upd (le_top _) (.t (.one (.ref rfl)))) (.t (.one .sc))) (ac (.cells (fun h => h) (ac (.mp rfl) (ac .sc (ac .sc (ac .sc (ac .sc an)))))) (ac (.none _) (ac .map an)))) (AWops.nil ?_)
       refine AW.cond_no rfl rfl (AW.skip (AW.seq (AW.seq (AW.region ?_))))
       refine s_move (d := (D.one (C.ref 0 0))) rfl ?_
       refine s_nilCheck (d := (D.one (C.ref 0 0))) rfl (.inl ⟨_, _, rfl⟩) ?_
       refine s_fieldRef F.fo_50_3 (by decide) rfl ?_
       refine s_load1 (c' := (C.p true (.v (.pointer none)))) F.ag_48 rfl rfl ?_
       refine s_ptrNil (b := true) F.u_48 rfl (.inr ⟨⟨_, rfl⟩, rfl⟩) (.inr rfl) (AWops.nil ?_)
       refine AW.cond_no rfl rfl (AW.skip (AW.seq (AW.region ?_)))
       refine s_assign (d := (sc (.int .i64 0))) rfl (AWops.nil (AW.ret ?_))
       obtain rfl := Option.some.inj h
       exact ⟨_, rfl, (Weak.gen (kk := 2) [0, 1, 2] [] rfl rfl (by decide) (by decide) rfl rfl rfl (le_upd (le_top _) (.t (.one .sc))) (ac (.cells (fun h => h) (ac (.mp rfl) (ac .sc (ac .sc (ac .sc (ac .sc an)))))) (ac (.none _) (ac .map an))))⟩
    ·refine AWops.guard_yes rfl (nl rfl) rfl (by rw [c5] <;> rfl) ?_
     refine s_move (d := (sc (.bool a3))) rfl ?_
     refine AWops.guard_yes rfl (nl rfl) rfl (by rw [c5] <;> rfl) ?_
     refine s_not rfl ?_
     refine s_pick_yes (d := (sc (.bool (!a3)))) rfl (by rw [c5] <;> rfl) rfl (AWops.nil ?_)
     rcases itH h with ⟨c8, h⟩ | ⟨c8, h⟩
     ·refine AW.cond_no rfl (by rw [c8] <;> rfl) (AW.skip (AW.seq (AW.seq ?_)))
      refine AW.weak (st' := ⟨77, (upd 77 (upd 77 topF 0 (D.one (C.ref 0 0))) 4 (sc (.int .i64 a4))), [(some (AObj.cells false [(C.mp 2), (C.p true (.v (.int .i64 r1.2.room))), (C.p true (.v (.int .i64 r1.2.used))), (C.p true (.v (.pointer none))), (C.p true (.v (.bool r1.2.dead)))])), none, (some (AObj.map false (mapE true e_vdisk_file r1.2.files)))]⟩) (Weak.gen (kk := 2) [0, 1, 3] [] hx rfl (by decide) (by decide) rfl rfl rfl (le_upd (le_upd (le_top _) (.t (.one (.ref rfl)))) (.t (.one .sc))) (ac (.cells (fun h => h) (ac (.mp rfl) (ac .sc (ac .sc (ac .sc (ac .sc an)))))) (ac (.none _) (ac .map an)))) ?_
      rcases itH h with ⟨c9, h⟩ | ⟨c9, h⟩
      ·refine AW.draw (n := 77) (L := 3) [(0, ⟨some 39, (sc (.int .i64 a4)), [(4, (sc (.int .i64 a4)))], [], [], none⟩), (1, ⟨some 40, (sc (.bool (decide (a4 > 0)))), [(39, (sc (.int .i64 a4)))], [], [], none⟩), (2, ⟨some 41, (sc (.bool (decide (a4 > 0)))), [(40, (sc (.bool (decide (a4 > 0)))))], [], [], none⟩), (3, ⟨some 42, (sc (.int .i64 a4)), [(4, (sc (.int .i64 a4))), (41, (sc (.bool (decide (a4 > 0)))))], [], [], none⟩), (4, ⟨some 43, (D.one (C.ref 0 0)), [(0, (D.one (C.ref 0 0))), (41, (sc (.bool (decide (a4 > 0)))))], [], [], none⟩), (5, ⟨some 44, (D.one (C.ref 0 0)), [(41, (sc (.bool (decide (a4 > 0))))), (43, (D.one (C.ref 0 0)))], [], [], none⟩), (6, ⟨some 45, (D.one (C.ref 0 1)), [(41, (sc (.bool (decide (a4 > 0))))), (44, (D.one (C.ref 0 0)))], [], [], none⟩), (7, ⟨some 46, (sc (.int .i64 r1.2.room)), [(41, (sc (.bool (decide (a4 > 0))))), (45, (D.one (C.ref 0 1)))], [(0, (some (AObj.cells false [(C.mp 2), (C.p true (.v (.int .i64 r1.2.room))), (C.p true (.v (.int .i64 r1.2.used))), (C.p true (.v (.pointer none))), (C.p true (.v (.bool r1.2.dead)))])))], [], none⟩), (8, ⟨some 47, (D.one (C.ref 0 0)), [(0, (D.one (C.ref 0 0))), (41, (sc (.bool (decide (a4 > 0)))))], [], [], none⟩), (9, ⟨some 48, (D.one (C.ref 0 0)), [(41, (sc (.bool (decide (a4 > 0))))), (47, (D.one (C.ref 0 0)))], [], [], none⟩), (10, ⟨some 49, (D.one (C.ref 0 2)), [(41, (sc (.bool (decide (a4 > 0))))), (48, (D.one (C.ref 0 0)))], [], [], none⟩), (11, ⟨some 50, (sc (.int .i64 r1.2.used)), [(41, (sc (.bool (decide (a4 > 0))))), (49, (D.one (C.ref 0 2)))], [(0, (some (AObj.cells false [(C.mp 2), (C.p true (.v (.int .i64 r1.2.room))), (C.p true (.v (.int .i64 r1.2.used))), (C.p true (.v (.pointer none))), (C.p true (.v (.bool r1.2.dead)))])))], [], none⟩), (12, ⟨some 51, (sc (.int .i64 (IntKind.i64.wrap (r1.2.room - r1.2.used)))), [(41, (sc (.bool (decide (a4 > 0))))), (46, (sc (.int .i64 r1.2.room))), (50, (sc (.int .i64 r1.2.used)))], [], [], none⟩), (13, ⟨some 52, (sc (.bool (decide (a4 > (IntKind.i64.wrap (r1.2.room - r1.2.used)))))), [(41, (sc (.bool (decide (a4 > 0))))), (42, (sc (.int .i64 a4))), (51, (sc (.int .i64 (IntKind.i64.wrap (r1.2.room - r1.2.used)))))], [], [], none⟩), (14, ⟨some 53, (sc (.bool (decide (a4 > (IntKind.i64.wrap (r1.2.room - r1.2.used)))))), [(41, (sc (.bool (decide (a4 > 0))))), (52, (sc (.bool (decide (a4 > (IntKind.i64.wrap (r1.2.room - r1.2.used)))))))], [], [], none⟩)] [[], [0], [0, 1], [0, 1, 2], [0, 1, 2], [0, 1, 2, 4], [0, 1, 2, 4, 5], [0, 1, 2, 4, 5, 6], [0, 1, 2], [0, 1, 2, 8], [0, 1, 2, 8, 9], [0, 1, 2, 8, 9, 10], [0, 1, 2, 4, 5, 6, 7, 8, 9, 10, 11], [0, 1, 2, 3, 4, 5, 6, 7, 8, 9, 10, 11, 12], [0, 1, 2, 3, 4, 5, 6, 7, 8, 9, 10, 11, 12, 13]] (nl rfl) [0, 1, 2, 3, 3, 4, 5, 6, 3, 4, 5, 6, 7, 8, 9] rfl (TK := []) rfl AllK.nil' (fC ⟨(sC rfl AllS.nil'), AllH.nil'⟩ (fC ⟨(sC rfl AllS.nil'), AllH.nil'⟩ (fC ⟨(sC rfl AllS.nil'), AllH.nil'⟩ (fC ⟨(sC rfl (sC rfl AllS.nil')), AllH.nil'⟩ (fC ⟨(sC rfl (sC rfl AllS.nil')), AllH.nil'⟩ (fC ⟨(sC rfl (sC rfl AllS.nil')), AllH.nil'⟩ (fC ⟨(sC rfl (sC rfl AllS.nil')), AllH.nil'⟩ (fC ⟨(sC rfl (sC rfl AllS.nil')), (hC rfl AllH.nil')⟩ (fC ⟨(sC rfl (sC rfl AllS.nil')), AllH.nil'⟩ (fC ⟨(sC rfl (sC rfl AllS.nil')), AllH.nil'⟩ (fC ⟨(sC rfl (sC rfl AllS.nil')), AllH.nil'⟩ (fC ⟨(sC rfl (sC rfl AllS.nil')), (hC rfl AllH.nil')⟩ (fC ⟨(sC rfl (sC rfl (sC rfl AllS.nil'))), AllH.nil'⟩ (fC ⟨(sC rfl (sC rfl (sC rfl AllS.nil'))), AllH.nil'⟩ (fC ⟨(sC rfl (sC rfl AllS.nil')), AllH.nil'⟩ AllF.nil'))))))))))))))) ?_ ?_
       ·refine (pC ?_ (pC ?_ (pC ?_ (pC ?_ (pC ?_ (pC ?_ (pC ?_ (pC ?_ (pC ?_ (pC ?_ (pC ?_ (pC ?_ (pC ?_ (pC ?_ (pC ?_ AllStep.nil')))))))))))))))
        ·intro K rest fr hv htk k
         show AWops _ x _ _ K ⟨77, (upd 77 fr 4 (sc (.int .i64 a4))), _⟩
         refine s_move (d := (sc (.int .i64 a4))) rfl k
        ·intro K rest fr hv htk k
         show AWops _ x _ _ K ⟨77, (upd 77 fr 39 (sc (.int .i64 a4))), _⟩
         refine s_binI (v := (.bool (decide (a4 > 0)))) rfl rfl rfl k
        ·intro K rest fr hv htk k
         show AWops _ x _ _ K ⟨77, (upd 77 fr 40 (sc (.bool (decide (a4 > 0))))), _⟩
         refine s_move (d := (sc (.bool (decide (a4 > 0))))) rfl k
        ·intro K rest fr hv htk k
         show AWops _ x _ _ K ⟨77, (upd 77 (upd 77 fr 41 (sc (.bool (decide (a4 > 0))))) 4 (sc (.int .i64 a4))), _⟩
         refine AWops.guard_yes rfl (nl rfl) rfl c9 ?_
         refine s_move (d := (sc (.int .i64 a4))) rfl k
        ·intro K rest fr hv htk k
         show AWops _ x _ _ K ⟨77, (upd 77 (upd 77 fr 41 (sc (.bool (decide (a4 > 0))))) 0 (D.one (C.ref 0 0))), _⟩
         refine AWops.guard_yes rfl (nl rfl) rfl c9 ?_
         refine s_move (d := (D.one (C.ref 0 0))) rfl k
        ·intro K rest fr hv htk k
         show AWops _ x _ _ K ⟨77, (upd 77 (upd 77 fr 43 (D.one (C.ref 0 0))) 41 (sc (.bool (decide (a4 > 0))))), [(hv 0), (hv 1), (hv 2)]⟩
         refine AWops.guard_yes rfl (nl rfl) rfl c9 ?_
         refine s_nilCheck (d := (D.one (C.ref 0 0))) rfl (.inl ⟨_, _, rfl⟩) k
        ·intro K rest fr hv htk k
         show AWops _ x _ _ K ⟨77, (upd 77 (upd 77 fr 44 (D.one (C.ref 0 0))) 41 (sc (.bool (decide (a4 > 0))))), [(hv 0), (hv 1), (hv 2)]⟩
         refine AWops.guard_yes rfl (nl rfl) rfl c9 ?_
         refine s_fieldRef F.fo_50_1 (by decide) rfl k
        ·intro K rest fr hv htk k
         show AWops _ x _ _ K ⟨77, (upd 77 (upd 77 fr 45 (D.one (C.ref 0 1))) 41 (sc (.bool (decide (a4 > 0))))), [(some (AObj.cells false [(C.mp 2), (C.p true (.v (.int .i64 r1.2.room))), (C.p true (.v (.int .i64 r1.2.used))), (C.p true (.v (.pointer none))), (C.p true (.v (.bool r1.2.dead)))])), (hv 1), (hv 2)]⟩
         refine AWops.guard_yes rfl (nl rfl) rfl c9 ?_
         refine s_load1 (c' := (C.p true (.v (.int .i64 r1.2.room)))) F.ag_3 rfl rfl k
        ·intro K rest fr hv htk k
         show AWops _ x _ _ K ⟨77, (upd 77 (upd 77 fr 41 (sc (.bool (decide (a4 > 0))))) 0 (D.one (C.ref 0 0))), _⟩
         refine AWops.guard_yes rfl (nl rfl) rfl c9 ?_
         refine s_move (d := (D.one (C.ref 0 0))) rfl k
        ·intro K rest fr hv htk k
         show AWops _ x _ _ K ⟨77, (upd 77 (upd 77 fr 47 (D.one (C.ref 0 0))) 41 (sc (.bool (decide (a4 > 0))))), [(hv 0), (hv 1), (hv 2)]⟩
         refine AWops.guard_yes rfl (nl rfl) rfl c9 ?_
         refine s_nilCheck (d := (D.one (C.ref 0 0))) rfl (.inl ⟨_, _, rfl⟩) k
        ·intro K rest fr hv htk k
         show AWops _ x _ _ K ⟨77, (upd 77 (upd 77 fr 48 (D.one (C.ref 0 0))) 41 (sc (.bool (decide (a4 > 0))))), [(hv 0), (hv 1), (hv 2)]⟩
         refine AWops.guard_yes rfl (nl rfl) rfl c9 ?_
         refine s_fieldRef F.fo_50_2 (by decide) rfl k
        ·intro K rest fr hv htk k
         show AWops _ x _ _ K ⟨77, (upd 77 (upd 77 fr 49 (D.one (C.ref 0 2))) 41 (sc (.bool (decide (a4 > 0))))), [(some (AObj.cells false [(C.mp 2), (C.p true (.v (.int .i64 r1.2.room))), (C.p true (.v (.int .i64 r1.2.used))), (C.p true (.v (.pointer none))), (C.p true (.v (.bool r1.2.dead)))])), (hv 1), (hv 2)]⟩
         refine AWops.guard_yes rfl (nl rfl) rfl c9 ?_
         refine s_load1 (c' := (C.p true (.v (.int .i64 r1.2.used)))) F.ag_3 rfl rfl k
        ·intro K rest fr hv htk k
         show AWops _ x _ _ K ⟨77, (upd 77 (upd 77 (upd 77 fr 50 (sc (.int .i64 r1.2.used))) 46 (sc (.int .i64 r1.2.room))) 41 (sc (.bool (decide (a4 > 0))))), _⟩
         refine AWops.guard_yes rfl (nl rfl) rfl c9 ?_
         refine s_binI (v := (.int .i64 (IntKind.i64.wrap (r1.2.room - r1.2.used)))) rfl rfl rfl k
        ·intro K rest fr hv htk k
         show AWops _ x _ _ K ⟨77, (upd 77 (upd 77 (upd 77 fr 51 (sc (.int .i64 (IntKind.i64.wrap (r1.2.room - r1.2.used))))) 42 (sc (.int .i64 a4))) 41 (sc (.bool (decide (a4 > 0))))), _⟩
         refine AWops.guard_yes rfl (nl rfl) rfl c9 ?_
         refine s_binI (v := (.bool (decide (a4 > (IntKind.i64.wrap (r1.2.room - r1.2.used)))))) rfl rfl rfl k
        ·intro K rest fr hv htk k
         show AWops _ x _ _ K ⟨77, (upd 77 (upd 77 fr 52 (sc (.bool (decide (a4 > (IntKind.i64.wrap (r1.2.room - r1.2.used))))))) 41 (sc (.bool (decide (a4 > 0))))), _⟩
         refine s_pick_yes (d := (sc (.bool (decide (a4 > (IntKind.i64.wrap (r1.2.room - r1.2.used))))))) rfl c9 rfl k
       ·refine AWops.weak (st' := ⟨77, (upd 77 (upd 77 topF 0 (D.one (C.ref 0 0))) 53 (sc (.bool (decide (a4 > (IntKind.i64.wrap (r1.2.room - r1.2.used))))))), [(some (AObj.cells false [(C.mp 2), (C.p true (.v (.int .i64 r1.2.room))), (C.p true (.v (.int .i64 r1.2.used))), (C.p true (.v (.pointer none))), (C.p true (.v (.bool r1.2.dead)))])), none, (some (AObj.map false (mapE true e_vdisk_file r1.2.files)))]⟩) (Weak.gen (kk := 2) [0, 1, 2] [] hx rfl (by decide) (by decide) rfl rfl rfl (le_upd (le_upd (le_top _) (.t (.one (.ref rfl)))) (.t (.one .sc))) (ac (.cells (fun h => h) (ac (.mp rfl) (ac .sc (ac .sc (ac .sc (ac .sc an)))))) (ac (.none _) (ac .map an)))) (AWops.nil ?_)
        rcases itH h with ⟨c10, h⟩ | ⟨c10, h⟩
        ·refine AW.cond_yes rfl c10 (AW.seq (AW.region ?_))
         refine s_assign (d := (sc (.int .i64 71))) rfl (AWops.nil (AW.ret ?_))
         obtain rfl := Option.some.inj h
         exact ⟨_, rfl, (Weak.gen (kk := 2) [0, 1, 2] [] rfl rfl (by decide) (by decide) rfl rfl rfl (le_upd (le_top _) (.t (.one .sc))) (ac (.cells (fun h => h) (ac (.mp rfl) (ac .sc (ac .sc (ac .sc (ac .sc an)))))) (ac (.none _) (ac .map an))))⟩
        ·refine AW.cond_no rfl c10 (AW.skip (AW.seq (AW.seq (AW.region ?_))))
         refine s_move (d := (D.one (C.ref 0 0))) rfl ?_
         refine s_nilCheck (d := (D.one (C.ref 0 0))) rfl (.inl ⟨_, _, rfl⟩) ?_
         refine s_fieldRef F.fo_50_3 (by decide) rfl ?_
         refine s_load1 (c' := (C.p true (.v (.pointer none)))) F.ag_48 rfl rfl ?_
         refine s_ptrNil (b := true) F.u_48 rfl (.inr ⟨⟨_, rfl⟩, rfl⟩) (.inr rfl) (AWops.nil ?_)
         refine AW.cond_no rfl rfl (AW.skip (AW.seq (AW.region ?_)))
         refine s_assign (d := (sc (.int .i64 0))) rfl (AWops.nil (AW.ret ?_))
         obtain rfl := Option.some.inj h
         exact ⟨_, rfl, (Weak.gen (kk := 2) [0, 1, 2] [] rfl rfl (by decide) (by decide) rfl rfl rfl (le_upd (le_top _) (.t (.one .sc))) (ac (.cells (fun h => h) (ac (.mp rfl) (ac .sc (ac .sc (ac .sc (ac .sc an)))))) (ac (.none _) (ac .map an))))⟩
      ·refine AW.draw (n := 77) (L := 3) [(0, ⟨some 39, (sc (.int .i64 a4)), [(4, (sc (.int .i64 a4)))], [], [], none⟩), (1, ⟨some 40, (sc (.bool (decide (a4 > 0)))), [(39, (sc (.int .i64 a4)))], [], [], none⟩), (2, ⟨some 41, (sc (.bool (decide (a4 > 0)))), [(40, (sc (.bool (decide (a4 > 0)))))], [], [], none⟩), (3, ⟨some 42, (D.tup []), [(4, (sc (.int .i64 a4))), (41, (sc (.bool (decide (a4 > 0)))))], [], [], none⟩), (4, ⟨some 43, (D.tup []), [(41, (sc (.bool (decide (a4 > 0)))))], [], [], none⟩), (5, ⟨some 44, (D.tup []), [(41, (sc (.bool (decide (a4 > 0)))))], [], [], none⟩), (6, ⟨some 45, (D.tup []), [(41, (sc (.bool (decide (a4 > 0)))))], [], [], none⟩), (7, ⟨some 46, (D.tup []), [(41, (sc (.bool (decide (a4 > 0)))))], [], [], none⟩), (8, ⟨some 47, (D.tup []), [(41, (sc (.bool (decide (a4 > 0)))))], [], [], none⟩), (9, ⟨some 48, (D.tup []), [(41, (sc (.bool (decide (a4 > 0)))))], [], [], none⟩), (10, ⟨some 49, (D.tup []), [(41, (sc (.bool (decide (a4 > 0)))))], [], [], none⟩), (11, ⟨some 50, (D.tup []), [(41, (sc (.bool (decide (a4 > 0)))))], [], [], none⟩), (12, ⟨some 51, (D.tup []), [(41, (sc (.bool (decide (a4 > 0)))))], [], [], none⟩), (13, ⟨some 52, (D.tup []), [(41, (sc (.bool (decide (a4 > 0)))))], [], [], none⟩), (14, ⟨some 53, (sc (.bool false)), [(41, (sc (.bool (decide (a4 > 0)))))], [], [], none⟩)] [[], [0], [0, 1], [0, 1, 2], [0, 1, 2], [0, 1, 2, 4], [0, 1, 2, 4, 5], [0, 1, 2, 4, 5, 6], [0, 1, 2], [0, 1, 2, 8], [0, 1, 2, 8, 9], [0, 1, 2, 8, 9, 10], [0, 1, 2, 4, 5, 6, 7, 8, 9, 10, 11], [0, 1, 2, 3, 4, 5, 6, 7, 8, 9, 10, 11, 12], [0, 1, 2, 3, 4, 5, 6, 7, 8, 9, 10, 11, 12, 13]] (nl rfl) [0, 1, 2, 3, 3, 4, 5, 6, 3, 4, 5, 6, 7, 8, 9] rfl (TK := []) rfl AllK.nil' (fC ⟨(sC rfl AllS.nil'), AllH.nil'⟩ (fC ⟨(sC rfl AllS.nil'), AllH.nil'⟩ (fC ⟨(sC rfl AllS.nil'), AllH.nil'⟩ (fC ⟨(sC rfl (sC rfl AllS.nil')), AllH.nil'⟩ (fC ⟨(sC rfl AllS.nil'), AllH.nil'⟩ (fC ⟨(sC rfl AllS.nil'), AllH.nil'⟩ (fC ⟨(sC rfl AllS.nil'), AllH.nil'⟩ (fC ⟨(sC rfl AllS.nil'), AllH.nil'⟩ (fC ⟨(sC rfl AllS.nil'), AllH.nil'⟩ (fC ⟨(sC rfl AllS.nil'), AllH.nil'⟩ (fC ⟨(sC rfl AllS.nil'), AllH.nil'⟩ (fC ⟨(sC rfl AllS.nil'), AllH.nil'⟩ (fC ⟨(sC rfl AllS.nil'), AllH.nil'⟩ (fC ⟨(sC rfl AllS.nil'), AllH.nil'⟩ (fC ⟨(sC rfl AllS.nil'), AllH.nil'⟩ AllF.nil'))))))))))))))) ?_ ?_
       ·refine (pC ?_ (pC ?_ (pC ?_ (pC ?_ (pC ?_ (pC ?_ (pC ?_ (pC ?_ (pC ?_ (pC ?_ (pC ?_ (pC ?_ (pC ?_ (pC ?_ (pC ?_ AllStep.nil')))))))))))))))
        ·intro K rest fr hv htk k
         show AWops _ x _ _ K ⟨77, (upd 77 fr 4 (sc (.int .i64 a4))), _⟩
         refine s_move (d := (sc (.int .i64 a4))) rfl k
        ·intro K rest fr hv htk k
         show AWops _ x _ _ K ⟨77, (upd 77 fr 39 (sc (.int .i64 a4))), _⟩
         refine s_binI (v := (.bool (decide (a4 > 0)))) rfl rfl rfl k
        ·intro K rest fr hv htk k
         show AWops _ x _ _ K ⟨77, (upd 77 fr 40 (sc (.bool (decide (a4 > 0))))), _⟩
         refine s_move (d := (sc (.bool (decide (a4 > 0))))) rfl k
        ·intro K rest fr hv htk k
         show AWops _ x _ _ K ⟨77, (upd 77 (upd 77 fr 41 (sc (.bool (decide (a4 > 0))))) 4 (sc (.int .i64 a4))), _⟩
         refine AWops.guard_no rfl (nl rfl) rfl c9 k
        ·intro K rest fr hv htk k
         show AWops _ x _ _ K ⟨77, (upd 77 fr 41 (sc (.bool (decide (a4 > 0))))), _⟩
         refine AWops.guard_no rfl (nl rfl) rfl c9 k
        ·intro K rest fr hv htk k
         show AWops _ x _ _ K ⟨77, (upd 77 fr 41 (sc (.bool (decide (a4 > 0))))), _⟩
         refine AWops.guard_no rfl (nl rfl) rfl c9 k
        ·intro K rest fr hv htk k
         show AWops _ x _ _ K ⟨77, (upd 77 fr 41 (sc (.bool (decide (a4 > 0))))), _⟩
         refine AWops.guard_no rfl (nl rfl) rfl c9 k
        ·intro K rest fr hv htk k
         show AWops _ x _ _ K ⟨77, (upd 77 fr 41 (sc (.bool (decide (a4 > 0))))), _⟩
         refine AWops.guard_no rfl (nl rfl) rfl c9 k
        ·intro K rest fr hv htk k
         show AWops _ x _ _ K ⟨77, (upd 77 fr 41 (sc (.bool (decide (a4 > 0))))), _⟩
         refine AWops.guard_no rfl (nl rfl) rfl c9 k
        ·intro K rest fr hv htk k
         show AWops _ x _ _ K ⟨77, (upd 77 fr 41 (sc (.bool (decide (a4 > 0))))), _⟩
         refine AWops.guard_no rfl (nl rfl) rfl c9 k
        ·intro K rest fr hv htk k
         show AWops _ x _ _ K ⟨77, (upd 77 fr 41 (sc (.bool (decide (a4 > 0))))), _⟩
         refine AWops.guard_no rfl (nl rfl) rfl c9 k
        ·intro K rest fr hv htk k
         show AWops _ x _ _ K ⟨77, (upd 77 fr 41 (sc (.bool (decide (a4 > 0))))), _⟩
         refine AWops.guard_no rfl (nl rfl) rfl c9 k
        ·intro K rest fr hv htk k
         show AWops _ x _ _ K ⟨77, (upd 77 fr 41 (sc (.bool (decide (a4 > 0))))), _⟩
         refine AWops.guard_no rfl (nl rfl) rfl c9 k
        ·intro K rest fr hv htk k
         show AWops _ x _ _ K ⟨77, (upd 77 fr 41 (sc (.bool (decide (a4 > 0))))), _⟩
         refine AWops.guard_no rfl (nl rfl) rfl c9 k
        ·intro K rest fr hv htk k
         show AWops _ x _ _ K ⟨77, (upd 77 fr 41 (sc (.bool (decide (a4 > 0))))), _⟩
         refine s_pick_no (d := (sc (.bool false))) rfl c9 rfl k
       ·refine AWops.weak (st' := ⟨77, (upd 77 (upd 77 topF 0 (D.one (C.ref 0 0))) 53 (sc (.bool false))), [(some (AObj.cells false [(C.mp 2), (C.p true (.v (.int .i64 r1.2.room))), (C.p true (.v (.int .i64 r1.2.used))), (C.p true (.v (.pointer none))), (C.p true (.v (.bool r1.2.dead)))])), none, (some (AObj.map false (mapE true e_vdisk_file r1.2.files)))]⟩) (Weak.gen (kk := 2) [0, 1, 2] [] hx rfl (by decide) (by decide) rfl rfl rfl (le_upd (le_upd (le_top _) (.t (.one (.ref rfl)))) (.t (.one .sc))) (ac (.cells (fun h => h) (ac (.mp rfl) (ac .sc (ac .sc (ac .sc (ac .sc an)))))) (ac (.none _) (ac .map an)))) (AWops.nil ?_)
        refine AW.cond_no rfl rfl (AW.skip (AW.seq (AW.seq (AW.region ?_))))
        refine s_move (d := (D.one (C.ref 0 0))) rfl ?_
        refine s_nilCheck (d := (D.one (C.ref 0 0))) rfl (.inl ⟨_, _, rfl⟩) ?_
        refine s_fieldRef F.fo_50_3 (by decide) rfl ?_
        refine s_load1 (c' := (C.p true (.v (.pointer none)))) F.ag_48 rfl rfl ?_
        refine s_ptrNil (b := true) F.u_48 rfl (.inr ⟨⟨_, rfl⟩, rfl⟩) (.inr rfl) (AWops.nil ?_)
        refine AW.cond_no rfl rfl (AW.skip (AW.seq (AW.region ?_)))
        refine s_assign (d := (sc (.int .i64 0))) rfl (AWops.nil (AW.ret ?_))
        obtain rfl := Option.some.inj h
        exact ⟨_, rfl, (Weak.gen (kk := 2) [0, 1, 2] [] rfl rfl (by decide) (by decide) rfl rfl rfl (le_upd (le_top _) (.t (.one .sc))) (ac (.cells (fun h => h) (ac (.mp rfl) (ac .sc (ac .sc (ac .sc (ac .sc an)))))) (ac (.none _) (ac .map an))))⟩
     ·refine AW.cond_yes rfl (by rw [c8] <;> rfl) (AW.seq (AW.region ?_))
      refine s_assign (d := (sc (.int .i64 33))) rfl (AWops.nil (AW.ret ?_))
      obtain rfl := Option.some.inj h
      exact ⟨_, rfl, (Weak.gen (kk := 2) [0, 1, 3] [] rfl rfl (by decide) (by decide) rfl rfl rfl (le_upd (le_top _) (.t (.one .sc))) (ac (.cells (fun h => h) (ac (.mp rfl) (ac .sc (ac .sc (ac .sc (ac .sc an)))))) (ac (.none _) (ac .map an))))⟩
  ·refine AW.cond_yes rfl (by rw [c3] <;> rfl) (AW.seq (AW.region ?_))
   refine s_assign (d := (sc (.int .i64 1))) rfl (AWops.nil (AW.ret ?_))
   obtain rfl := Option.some.inj h
   exact ⟨_, rfl, (Weak.gen (kk := 2) [0, 1, 3] [] rfl rfl (by decide) (by decide) rfl rfl rfl (le_upd (le_top _) (.t (.one .sc))) (ac (.cells (fun h => h) (ac (.mp rfl) (ac .sc (ac .sc (ac .sc (ac .sc an)))))) (ac (.none _) (ac .map an))))⟩
def slices_Grow_byte_byte_nil0.f (k : Nat) (a1 : Int) : Option (List Int) := if (decide (a1 < 0)) = true then (none) else (if (decide ((IntKind.i64.wrap (a1 - 0)) > 0)) = true then (if (decide (0 < (IntKind.i64.wrap (a1 - 0)) ∧ (IntKind.i64.wrap (a1 - 0)) ≤ 140737488355328)) = true then (some ([] : List Int)) else none) else (some ([] : List Int)))
theorem slices_Grow_byte_byte_nil0.meets (k : Nat) (a1 : Int) (r : (List Int)) (h : slices_Grow_byte_byte_nil0.f k a1 = some r) : Meets Try.prog 54 [(sc (.slice none 0 0)), (sc (.int .i64 a1))] [] (D.one (C.own 0 0 r.length 1)) [(some (AObj.cells true (rowC e_u8 r)))] := by
 unfold slices_Grow_byte_byte_nil0.f at h
 refine Meets.of_body (n := 27) Try.func54 rfl rfl (nl rfl) fun x hx => ?_
 replace hx : x.k = 0 := hx
 show AW _ x _ _ ⟨27, fr0 [(sc (.slice none 0 0)), (sc (.int .i64 a1))], []⟩
 refine AW.seq (AW.region ?_)
 refine s_assign (d := (sc (.slice none 0 0))) rfl (AWops.nil (AW.seq (AW.seq (AW.region ?_))))
 refine s_move (d := (sc (.int .i64 a1))) rfl ?_
 refine s_binI (v := (.bool (decide (a1 < 0)))) rfl rfl rfl (AWops.nil ?_)
 rcases itH h with ⟨c1, h⟩ | ⟨c1, h⟩
 ·refine AW.cond_yes rfl c1 (AW.region ?_)
  cases h
 ·refine AW.cond_no rfl c1 (AW.skip (AW.seq (AW.seq (AW.region ?_))))
  refine s_move (d := (sc (.int .i64 a1))) rfl ?_
  refine s_move (d := (sc (.slice none 0 0))) rfl ?_
  refine s_capNil F.u_22 rfl ?_
  refine s_move (d := (sc (.slice none 0 0))) rfl ?_
  refine s_len (n := 0) F.u_22 rfl (.inr ⟨(fun _ _ h => by cases h), ⟨_, rfl⟩⟩) ?_
  refine s_binI (v := (.int .i64 0)) rfl rfl (by rfl) ?_
  refine s_binI (v := (.int .i64 (IntKind.i64.wrap (a1 - 0)))) rfl rfl rfl ?_
  refine s_assign (d := (sc (.int .i64 (IntKind.i64.wrap (a1 - 0))))) rfl (AWops.nil (AW.seq (AW.region ?_)))
  refine s_move (d := (sc (.int .i64 (IntKind.i64.wrap (a1 - 0))))) rfl ?_
  refine s_binI (v := (.bool (decide ((IntKind.i64.wrap (a1 - 0)) > 0)))) rfl rfl rfl (AWops.nil ?_)
  rcases itH h with ⟨c2, h⟩ | ⟨c2, h⟩
  ·refine AW.cond_yes rfl c2 (AW.region ?_)
   refine s_move (d := (sc (.slice none 0 0))) rfl ?_
   refine s_move (d := (sc (.slice none 0 0))) rfl ?_
   refine s_capNil F.u_22 rfl ?_
   refine s_sliceNil F.u_22 F.sz_5 rfl rfl ?_
   refine s_move (d := (sc (.int .i64 (IntKind.i64.wrap (a1 - 0))))) rfl ?_
   obtain ⟨c3, h⟩ := gdH h
   have dc3 := of_decide_eq_true c3
   refine t_appendMake (f := e_u8) (a0 := (0 : Int)) F.u_22 F.u_3 F.in_5 rfl (by decide) rfl rfl rfl rfl (by omega) (by omega) (by omega) ?_
   refine s_move (d := (sc (.slice none 0 0))) rfl ?_
   refine s_len (n := 0) F.u_22 rfl (.inr ⟨(fun _ _ h => by cases h), ⟨_, rfl⟩⟩) ?_
   refine t_cut0 F.u_22 F.sz_5 rfl rfl rfl rfl ?_
   refine s_assign (d := (D.one (C.own 0 0 (([] : List Int).length) 1))) rfl (AWops.nil (AW.seq (AW.region ?_)))
   refine s_move (d := (D.one (C.own 0 0 (([] : List Int).length) 1))) rfl ?_
   refine s_assign (d := (D.one (C.own 0 0 (([] : List Int).length) 1))) rfl (AWops.nil (AW.ret ?_))
   obtain rfl := Option.some.inj h
   exact ⟨_, rfl, (Weak.gen (kk := 0) [0] [] rfl rfl (by decide) (by decide) rfl rfl rfl (le_upd (le_top _) (.t (.one (.own rfl)))) (ac (.cells (fun h => h) an) an))⟩
  ·refine AW.cond_no rfl c2 (AW.skip (AW.seq (AW.region ?_)))
   refine s_move (d := (sc (.slice none 0 0))) rfl ?_
   refine s_assign (d := (sc (.slice none 0 0))) rfl (AWops.nil (AW.ret ?_))
   obtain rfl := Option.some.inj h
   exact ⟨_, rfl, (Weak.trans (Weak.nil (sz := 1) (i := 0) rfl) (Weak.gen (kk := 0) [0] [] rfl rfl (by decide) (by decide) rfl rfl rfl (le_upd (le_top _) (.t (.one (CLe.ownN rfl (by simp))))) (ac (.cells (fun h => h) an) an)))⟩
mutual
def slices_Concat_byte_byte.l1 : Nat → (List Int) → Int → (List (List Int)) → Option (List Int)
 | 0, _, _, _ => none
 | k + 1, x7, x8, a0 => if (decide (x8 < (a0.length : Int))) = true then ((rd a0 x8).bind fun v10 => if (decide (x7.length + v10.length ≤ 140737488355328)) = true then (slices_Concat_byte_byte.l1 k (x7 ++ v10) (IntKind.i64.wrap (x8 + 1)) a0) else none) else (some x7)
def slices_Concat_byte_byte.l0 : Nat → Int → Int → (List (List Int)) → Option (List Int)
 | 0, _, _, _ => none
 | k + 1, x1, x2, a0 => if (decide (x2 < (a0.length : Int))) = true then ((rd a0 x2).bind fun v4 => if (decide ((IntKind.i64.wrap (x1 + (v4.length : Int))) < 0)) = true then (none) else (slices_Concat_byte_byte.l0 k (IntKind.i64.wrap (x1 + (v4.length : Int))) (IntKind.i64.wrap (x2 + 1)) a0)) else ((slices_Grow_byte_byte_nil0.f k x1).bind fun r6 => slices_Concat_byte_byte.l1 k r6 0 a0)
end
def slices_Concat_byte_byte.f (k : Nat) (a0 : List (List Int)) : Option (List Int) := slices_Concat_byte_byte.l0 k 0 0 a0
theorem slices_Concat_byte_byte.meets (k : Nat) (a0 : List (List Int)) (r : (List Int)) (h : slices_Concat_byte_byte.f k a0 = some r) : Meets Try.prog 34 [(D.one (C.p false (.sl a0.length (a0.flatMap (e_sl e_u8)))))] [] (D.one (C.own 0 0 r.length 1)) [(some (AObj.cells true (rowC e_u8 r)))] := by
 unfold slices_Concat_byte_byte.f at h
 refine Meets.of_body (n := 36) Try.func34 rfl rfl (nl rfl) fun x hx => ?_
 replace hx : x.k = 0 := hx
 show AW _ x _ _ ⟨36, fr0 [(D.one (C.p false (.sl a0.length (a0.flatMap (e_sl e_u8)))))], []⟩
 refine AW.seq (AW.region ?_)
 refine s_assign (d := (sc (.slice none 0 0))) rfl (AWops.nil (AW.seq (AW.region ?_)))
 refine s_assign (d := (sc (.int .i64 0))) rfl (AWops.nil (AW.seq (AW.seq (AW.region ?_))))
 refine s_move (d := (D.one (C.p false (.sl a0.length (a0.flatMap (e_sl e_u8)))))) rfl ?_
 refine s_len (n := a0.length) F.u_23 rfl (.inr ⟨(fun _ _ h => by cases h), ⟨_, rfl⟩⟩) ?_
 refine s_move (d := (sc (.int .i64 0))) rfl (AWops.nil (AW.block ?_))
 refine AW.loopw (st0 := ⟨36, (upd 36 (upd 36 (upd 36 (upd 36 (upd 36 topF 0 (D.one (C.p false (.sl a0.length (a0.flatMap (e_sl e_u8)))))) 3 (sc (.int .i64 0))) 9 (D.one (C.p false (.sl a0.length (a0.flatMap (e_sl e_u8)))))) 10 (sc (.int .i64 (a0.length : Int)))) 11 (sc (.int .i64 0))), []⟩) (fun kv st => kv ≤ k ∧ ∃ (x1 : Int) (x2 : Int), slices_Concat_byte_byte.l0 kv x1 x2 a0 = some r ∧ st = ⟨36, (upd 36 (upd 36 (upd 36 (upd 36 (upd 36 topF 0 (D.one (C.p false (.sl a0.length (a0.flatMap (e_sl e_u8)))))) 3 (sc (.int .i64 x1))) 9 (D.one (C.p false (.sl a0.length (a0.flatMap (e_sl e_u8)))))) 10 (sc (.int .i64 (a0.length : Int)))) 11 (sc (.int .i64 x2))), []⟩) (k := k) (Weak.gen (kk := 0) [] [] hx rfl (by decide) (by decide) rfl rfl rfl (le_upd (le_upd (le_upd (le_upd (le_upd (le_top _) (.t (.one .same))) (.t (.one .sc))) (.t (.one .same))) (.t (.one .sc))) (.t (.one .sc))) an) ⟨Nat.le_refl _, 0, 0, h, rfl⟩ ?_
 rintro ql0 st ⟨hkl0, x1, x2, h, rfl⟩
 cases ql0 with
 | zero => exact absurd h (by simp [slices_Concat_byte_byte.l0])
 | succ ql0 =>
  replace h := (slices_Concat_byte_byte.l0.eq_2 _ _ _ _).symm.trans h
  refine AW.seq (AW.region ?_)
  refine s_binI (v := (.bool (decide (x2 < (a0.length : Int))))) rfl rfl rfl (AWops.nil (AW.seq ?_))
  rcases itH h with ⟨c3, h⟩ | ⟨c3, h⟩
  ·refine AW.cond_yes rfl c3 (AW.skip (AW.seq (AW.block (AW.seq (AW.region ?_)))))
   obtain ⟨v4, ev4, h⟩ := bnd h
   obtain ⟨pv4, qv4, gv4⟩ := rd_some ev4
   refine s_indexImm (ps := [P.sl v4.length (v4.flatMap e_u8)]) F.u_23 F.sz_22 rfl rfl pv4 qv4 (flat_at (e_sl_len _) gv4 (e_sl_eq _ v4)) ?_
   refine s_load1 (c' := (C.p false (.sl v4.length (v4.flatMap e_u8)))) F.ag_22 rfl rfl ?_
   refine s_assign (d := (D.one (C.p false (.sl v4.length (v4.flatMap e_u8))))) rfl (AWops.nil (AW.seq (AW.region ?_)))
   refine s_move (d := (sc (.int .i64 x1))) rfl ?_
   refine s_move (d := (D.one (C.p false (.sl v4.length (v4.flatMap e_u8))))) rfl ?_
   refine s_len (n := v4.length) F.u_22 rfl (.inr ⟨(fun _ _ h => by cases h), ⟨_, rfl⟩⟩) ?_
   refine s_binI (v := (.int .i64 (IntKind.i64.wrap (x1 + (v4.length : Int))))) rfl rfl rfl ?_
   refine s_assign (d := (sc (.int .i64 (IntKind.i64.wrap (x1 + (v4.length : Int)))))) rfl (AWops.nil (AW.seq (AW.region ?_)))
   refine s_move (d := (sc (.int .i64 (IntKind.i64.wrap (x1 + (v4.length : Int)))))) rfl ?_
   refine s_binI (v := (.bool (decide ((IntKind.i64.wrap (x1 + (v4.length : Int))) < 0)))) rfl rfl rfl (AWops.nil ?_)
   rcases itH h with ⟨c5, h⟩ | ⟨c5, h⟩
   ·refine AW.cond_yes rfl c5 (AW.region ?_)
    cases h
   ·refine AW.cond_no rfl c5 (AW.skip (AW.region ?_))
    refine s_binI (v := (.int .i64 (IntKind.i64.wrap (x2 + 1)))) rfl rfl rfl ?_
    refine s_move (d := (sc (.int .i64 (IntKind.i64.wrap (x2 + 1))))) rfl (AWops.nil ?_)
    exact ⟨_, ⟨36, (upd 36 (upd 36 (upd 36 (upd 36 (upd 36 topF 0 (D.one (C.p false (.sl a0.length (a0.flatMap (e_sl e_u8)))))) 3 (sc (.int .i64 (IntKind.i64.wrap (x1 + (v4.length : Int)))))) 9 (D.one (C.p false (.sl a0.length (a0.flatMap (e_sl e_u8)))))) 10 (sc (.int .i64 (a0.length : Int)))) 11 (sc (.int .i64 (IntKind.i64.wrap (x2 + 1))))), []⟩, by omega, (Weak.gen (kk := 0) [] [] hx rfl (by decide) (by decide) rfl rfl rfl (le_upd (le_upd (le_upd (le_upd (le_upd (le_top _) (.t (.one .same))) (.t (.one .sc))) (.t (.one .same))) (.t (.one .sc))) (.t (.one .sc))) an), by omega, IntKind.i64.wrap (x1 + (v4.length : Int)), IntKind.i64.wrap (x2 + 1), h, rfl⟩
  ·refine AW.cond_no rfl c3 (AW.exit (AW.seq (AW.region ?_)))
   refine s_move (d := (sc (.int .i64 x1))) rfl ?_
   obtain ⟨r6, er6, h⟩ := bnd h
   refine s_call2 (ρ := []) (br := false) (H2 := [(some (AObj.cells true (rowC e_u8 r6)))]) (d := (D.one (C.own 0 0 r6.length 1))) F.ca_54 rfl rfl (ac (.one .sc) (ac (.one .sc) an)) an (by decide) rfl (slices_Grow_byte_byte_nil0.meets _ x1 r6 er6) (.inl rfl) (by first | rfl | (simp only [mergeH2, orF, Bool.false_or, Bool.or_false, Bool.true_or, Bool.or_true, mergeAt, mergeObj, renO, ren_row, List.drop_succ_cons, List.drop_zero, List.map_cons, List.map_nil, Option.map_some, Option.map_none, List.length_cons, List.length_nil, Nat.zero_add, List.append_assoc, List.cons_append, List.nil_append]; done) | (simp only [mergeH2, orF, Bool.false_or, Bool.or_false, Bool.true_or, Bool.or_true, mergeAt, mergeObj, renO, ren_row, List.drop_succ_cons, List.drop_zero, List.map_cons, List.map_nil, Option.map_some, Option.map_none, List.length_cons, List.length_nil, Nat.zero_add, List.append_assoc, List.cons_append, List.nil_append]; rfl)) rfl ?_
   refine s_assign (d := (D.one (C.own 0 0 r6.length 1))) rfl (AWops.nil (AW.seq (AW.seq (AW.region ?_))))
   refine s_move (d := (D.one (C.p false (.sl a0.length (a0.flatMap (e_sl e_u8)))))) rfl ?_
   refine s_len (n := a0.length) F.u_23 rfl (.inr ⟨(fun _ _ h => by cases h), ⟨_, rfl⟩⟩) ?_
   refine s_move (d := (sc (.int .i64 0))) rfl (AWops.nil (AW.block ?_))
   refine AW.loopw (st0 := ⟨36, (upd 36 (upd 36 (upd 36 (upd 36 topF 6 (D.one (C.own 0 0 r6.length 1))) 25 (D.one (C.p false (.sl a0.length (a0.flatMap (e_sl e_u8)))))) 26 (sc (.int .i64 (a0.length : Int)))) 27 (sc (.int .i64 0))), [(some (AObj.cells true (rowC e_u8 r6)))]⟩) (fun kv st => kv ≤ ql0 ∧ ∃ (x7 : List Int) (x8 : Int), slices_Concat_byte_byte.l1 kv x7 x8 a0 = some r ∧ st = ⟨36, (upd 36 (upd 36 (upd 36 (upd 36 topF 6 (D.one (C.own 0 0 x7.length 1))) 25 (D.one (C.p false (.sl a0.length (a0.flatMap (e_sl e_u8)))))) 26 (sc (.int .i64 (a0.length : Int)))) 27 (sc (.int .i64 x8))), [(some (AObj.cells true (rowC e_u8 x7)))]⟩) (k := ql0) (Weak.gen (kk := 0) [0] [] hx rfl (by decide) (by decide) rfl rfl rfl (le_upd (le_upd (le_upd (le_upd (le_top _) (.t (.one (.own rfl)))) (.t (.one .same))) (.t (.one .sc))) (.t (.one .sc))) (ac (.cells (fun h => h) (all2_row _)) an)) ⟨Nat.le_refl _, r6, 0, h, rfl⟩ ?_
   rintro ql1 st ⟨hkl1, x7, x8, h, rfl⟩
   cases ql1 with
   | zero => exact absurd h (by simp [slices_Concat_byte_byte.l1])
   | succ ql1 =>
    replace h := (slices_Concat_byte_byte.l1.eq_2 _ _ _ _).symm.trans h
    refine AW.seq (AW.region ?_)
    refine s_binI (v := (.bool (decide (x8 < (a0.length : Int))))) rfl rfl rfl (AWops.nil (AW.seq ?_))
    rcases itH h with ⟨c9, h⟩ | ⟨c9, h⟩
    ·refine AW.cond_yes rfl c9 (AW.skip (AW.seq (AW.block (AW.seq (AW.region ?_)))))
     obtain ⟨v10, ev10, h⟩ := bnd h
     obtain ⟨pv10, qv10, gv10⟩ := rd_some ev10
     refine s_indexImm (ps := [P.sl v10.length (v10.flatMap e_u8)]) F.u_23 F.sz_22 rfl rfl pv10 qv10 (flat_at (e_sl_len _) gv10 (e_sl_eq _ v10)) ?_
     refine s_load1 (c' := (C.p false (.sl v10.length (v10.flatMap e_u8)))) F.ag_22 rfl rfl ?_
     refine s_assign (d := (D.one (C.p false (.sl v10.length (v10.flatMap e_u8))))) rfl (AWops.nil (AW.region ?_))
     refine s_move (d := (D.one (C.own 0 0 x7.length 1))) rfl ?_
     refine s_move (d := (D.one (C.p false (.sl v10.length (v10.flatMap e_u8))))) rfl ?_
     obtain ⟨c11, h⟩ := gdH h
     have dc11 := of_decide_eq_true c11
     refine t_append (xs := x7) (ys := v10) (zs := x7 ++ v10) (H' := [none, (some (AObj.cells true (rowC e_u8 (x7 ++ v10))))]) F.u_22 F.in_5 rfl e_u8_len (.own rfl rfl) .imm F.u_22 (by omega) (by omega) rfl rfl ?_
     refine s_assign (d := (D.one (C.own 1 0 ((x7 ++ v10).length) 1))) rfl (AWops.nil (AW.region ?_))
     refine s_binI (v := (.int .i64 (IntKind.i64.wrap (x8 + 1)))) rfl rfl rfl ?_
     refine s_move (d := (sc (.int .i64 (IntKind.i64.wrap (x8 + 1))))) rfl (AWops.nil ?_)
     exact ⟨_, ⟨36, (upd 36 (upd 36 (upd 36 (upd 36 topF 6 (D.one (C.own 0 0 (x7 ++ v10).length 1))) 25 (D.one (C.p false (.sl a0.length (a0.flatMap (e_sl e_u8)))))) 26 (sc (.int .i64 (a0.length : Int)))) 27 (sc (.int .i64 (IntKind.i64.wrap (x8 + 1))))), [(some (AObj.cells true (rowC e_u8 (x7 ++ v10))))]⟩, by omega, (Weak.gen (kk := 0) [1] [] hx rfl (by decide) (by decide) rfl rfl rfl (le_upd (le_upd (le_upd (le_upd (le_top _) (.t (.one (.own rfl)))) (.t (.one .same))) (.t (.one .sc))) (.t (.one .sc))) (ac (.cells (fun h => h) (all2_row _)) an)), by omega, x7 ++ v10, IntKind.i64.wrap (x8 + 1), h, rfl⟩
    ·refine AW.cond_no rfl c9 (AW.exit (AW.seq (AW.region ?_)))
     refine s_move (d := (D.one (C.own 0 0 x7.length 1))) rfl ?_
     refine s_assign (d := (D.one (C.own 0 0 x7.length 1))) rfl (AWops.nil (AW.ret ?_))
     obtain rfl := Option.some.inj h
     exact ⟨_, rfl, (Weak.gen (kk := 0) [0] [] rfl rfl (by decide) (by decide) rfl rfl rfl (le_upd (le_top _) (.t (.one (.own rfl)))) (ac (.cells (fun h => h) (all2_row _)) an))⟩
def vdisk_Disk_set.f (k : Nat) (p0 : vdisk_Disk) (a1 : ByteArray) (a2 : vdisk_file) : Option vdisk_Disk := some (⟨mset a1 a2 p0.files, p0.room, IntKind.i64.wrap (p0.used + (IntKind.i64.wrap ((a2.b.length : Int) - ((((mget a1 p0.files).getD ((⟨([] : List Int), 0⟩ : vdisk_file) : vdisk_file)).b).length : Int)))), (), p0.dead⟩ : vdisk_Disk)
theorem vdisk_Disk_set.meets (k : Nat) (p0 : vdisk_Disk) (a1 : ByteArray) (a2 : vdisk_file) (r : vdisk_Disk) (h : vdisk_Disk_set.f k p0 a1 a2 = some r) : Meets Try.prog 33 [(D.one (C.ref 0 0)), (sc (.string a1)), (D.agg (c_vdisk_file a2))] [(some (AObj.cells false [(C.mp 1), (C.p true (.v (.int .i64 p0.room))), (C.p true (.v (.int .i64 p0.used))), (C.p true (.v (.pointer none))), (C.p true (.v (.bool p0.dead)))])), (some (AObj.map false (mapE true e_vdisk_file p0.files)))] (D.tup []) [(some (AObj.cells false [(C.mp 2), (C.p true (.v (.int .i64 r.room))), (C.p true (.v (.int .i64 r.used))), (C.p true (.v (.pointer none))), (C.p true (.v (.bool r.dead)))])), none, (some (AObj.map false (mapE true e_vdisk_file r.files)))] := by
 unfold vdisk_Disk_set.f at h
 refine Meets.of_body (n := 31) Try.func33 rfl rfl (nl rfl) fun x hx => ?_
 replace hx : x.k = 2 := hx
 show AW _ x _ _ ⟨31, fr0 [(D.one (C.ref 0 0)), (sc (.string a1)), (D.agg (c_vdisk_file a2))], [(some (AObj.cells false [(C.mp 1), (C.p true (.v (.int .i64 p0.room))), (C.p true (.v (.int .i64 p0.used))), (C.p true (.v (.pointer none))), (C.p true (.v (.bool p0.dead)))])), (some (AObj.map false (mapE true e_vdisk_file p0.files)))]⟩
 refine AW.weak (st' := ⟨31, (upd 31 (upd 31 (upd 31 topF 0 (D.one (C.ref 0 0))) 1 (sc (.string a1))) 2 (D.agg (c_vdisk_file a2))), [(some (AObj.cells false [(C.mp 2), (C.p true (.v (.int .i64 p0.room))), (C.p true (.v (.int .i64 p0.used))), (C.p true (.v (.pointer none))), (C.p true (.v (.bool p0.dead)))])), none, (some (AObj.map false (mapE true e_vdisk_file p0.files)))]⟩) (Weak.genL (kk := 2) [0, 1, 1] [] hx rfl (by decide) rfl rfl rfl rfl (le_upd (le_upd (le_upd (le_top _) (.t (.one (.ref rfl)))) (.t (.one .sc))) (.t (.agg (ac .same (ac .sc an))))) (ac (.cells (fun h => h) (ac (.mp rfl) (ac .sc (ac .sc (ac .sc (ac .sc an)))))) (ac (.none _) (ac .map an)))) (AW.seq (AW.region ?_))
 refine s_box (cs := (c_vdisk_file a2)) rfl (List.cons_ne_nil _ _) rfl (AWops.nil (AW.seq ?_))
 refine AW.weak (st' := ⟨31, (upd 31 (upd 31 (upd 31 topF 0 (D.one (C.ref 0 0))) 1 (sc (.string a1))) 5 (D.one (C.ref 2 0))), [(some (AObj.cells false [(C.mp 3), (C.p true (.v (.int .i64 p0.room))), (C.p true (.v (.int .i64 p0.used))), (C.p true (.v (.pointer none))), (C.p true (.v (.bool p0.dead)))])), none, (some (AObj.cells true (c_vdisk_file a2))), (some (AObj.map false (mapE true e_vdisk_file p0.files)))]⟩) (Weak.gen (kk := 2) [0, 1, 3, 2] [] hx rfl (by decide) (by decide) rfl rfl rfl (le_upd (le_upd (le_upd (le_top _) (.t (.one (.ref rfl)))) (.t (.one .sc))) (.t (.one (.ref rfl)))) (ac (.cells (fun h => h) (ac (.mp rfl) (ac .sc (ac .sc (ac .sc (ac .sc an)))))) (ac (.none _) (ac (.cells (fun h => h) (ac .same (ac .sc an))) (ac .map an))))) ?_
 refine AW.draw (n := 31) (L := 4) [(0, ⟨some 6, (D.one (C.ref 0 0)), [(0, (D.one (C.ref 0 0)))], [], [], none⟩), (1, ⟨some 7, (D.one (C.ref 0 0)), [(6, (D.one (C.ref 0 0)))], [], [], none⟩), (2, ⟨some 8, (D.one (C.ref 0 2)), [(7, (D.one (C.ref 0 0)))], [], [], none⟩), (3, ⟨some 9, (sc (.int .i64 p0.used)), [(8, (D.one (C.ref 0 2)))], [(0, (some (AObj.cells false [(C.mp 3), (C.p true (.v (.int .i64 p0.room))), (C.p true (.v (.int .i64 p0.used))), (C.p true (.v (.pointer none))), (C.p true (.v (.bool p0.dead)))])))], [], none⟩), (4, ⟨some 10, (D.one (C.ref 2 0)), [(5, (D.one (C.ref 2 0)))], [], [], none⟩), (5, ⟨some 11, (D.one (C.p false (.sl a2.b.length (a2.b.flatMap e_u8)))), [(10, (D.one (C.ref 2 0)))], [(2, (some (AObj.cells true (c_vdisk_file a2))))], [], none⟩), (6, ⟨some 12, (sc (.int .i64 (a2.b.length : Int))), [(11, (D.one (C.p false (.sl a2.b.length (a2.b.flatMap e_u8)))))], [], [], none⟩), (7, ⟨some 13, (D.one (C.ref 0 0)), [(0, (D.one (C.ref 0 0)))], [], [], none⟩), (8, ⟨some 14, (D.one (C.ref 0 0)), [(13, (D.one (C.ref 0 0)))], [], [], none⟩), (9, ⟨some 15, (D.one (C.ref 0 0)), [(14, (D.one (C.ref 0 0)))], [], [], none⟩), (10, ⟨some 16, (D.one (C.mp 3)), [(15, (D.one (C.ref 0 0)))], [(0, (some (AObj.cells false [(C.mp 3), (C.p true (.v (.int .i64 p0.room))), (C.p true (.v (.int .i64 p0.used))), (C.p true (.v (.pointer none))), (C.p true (.v (.bool p0.dead)))])))], [], none⟩), (11, ⟨some 17, (sc (.string a1)), [(1, (sc (.string a1)))], [], [], none⟩), (12, ⟨some 18, (D.agg (c_vdisk_file ((mget a1 p0.files).getD ((⟨([] : List Int), 0⟩ : vdisk_file) : vdisk_file)))), [(16, (D.one (C.mp 3))), (17, (sc (.string a1)))], [(3, (some (AObj.map false (mapE true e_vdisk_file p0.files))))], [], none⟩), (13, ⟨some 19, (D.one (C.p false (.sl (((mget a1 p0.files).getD ((⟨([] : List Int), 0⟩ : vdisk_file) : vdisk_file)).b).length ((((mget a1 p0.files).getD ((⟨([] : List Int), 0⟩ : vdisk_file) : vdisk_file)).b).flatMap e_u8)))), [(18, (D.agg (c_vdisk_file ((mget a1 p0.files).getD ((⟨([] : List Int), 0⟩ : vdisk_file) : vdisk_file)))))], [], [], none⟩), (14, ⟨some 20, (sc (.int .i64 ((((mget a1 p0.files).getD ((⟨([] : List Int), 0⟩ : vdisk_file) : vdisk_file)).b).length : Int))), [(19, (D.one (C.p false (.sl (((mget a1 p0.files).getD ((⟨([] : List Int), 0⟩ : vdisk_file) : vdisk_file)).b).length ((((mget a1 p0.files).getD ((⟨([] : List Int), 0⟩ : vdisk_file) : vdisk_file)).b).flatMap e_u8)))))], [], [], none⟩), (15, ⟨some 21, (sc (.int .i64 (IntKind.i64.wrap ((a2.b.length : Int) - ((((mget a1 p0.files).getD ((⟨([] : List Int), 0⟩ : vdisk_file) : vdisk_file)).b).length : Int))))), [(12, (sc (.int .i64 (a2.b.length : Int)))), (20, (sc (.int .i64 ((((mget a1 p0.files).getD ((⟨([] : List Int), 0⟩ : vdisk_file) : vdisk_file)).b).length : Int))))], [], [], none⟩), (16, ⟨some 22, (sc (.int .i64 (IntKind.i64.wrap (p0.used + (IntKind.i64.wrap ((a2.b.length : Int) - ((((mget a1 p0.files).getD ((⟨([] : List Int), 0⟩ : vdisk_file) : vdisk_file)).b).length : Int))))))), [(9, (sc (.int .i64 p0.used))), (21, (sc (.int .i64 (IntKind.i64.wrap ((a2.b.length : Int) - ((((mget a1 p0.files).getD ((⟨([] : List Int), 0⟩ : vdisk_file) : vdisk_file)).b).length : Int))))))], [], [], none⟩), (17, ⟨some 23, (D.one (C.ref 0 0)), [(6, (D.one (C.ref 0 0)))], [], [], none⟩), (18, ⟨some 24, (D.one (C.ref 0 2)), [(23, (D.one (C.ref 0 0)))], [], [], none⟩), (19, ⟨none, (D.one C.top), [(22, (sc (.int .i64 (IntKind.i64.wrap (p0.used + (IntKind.i64.wrap ((a2.b.length : Int) - ((((mget a1 p0.files).getD ((⟨([] : List Int), 0⟩ : vdisk_file) : vdisk_file)).b).length : Int)))))))), (24, (D.one (C.ref 0 2)))], [(0, (some (AObj.cells false [(C.mp 3), (C.p true (.v (.int .i64 p0.room))), (C.p true (.v (.int .i64 p0.used))), (C.p true (.v (.pointer none))), (C.p true (.v (.bool p0.dead)))])))], [(0, (some (AObj.cells false [(C.mp 3), (C.p true (.v (.int .i64 p0.room))), (C.p true (.v (.int .i64 (IntKind.i64.wrap (p0.used + (IntKind.i64.wrap ((a2.b.length : Int) - ((((mget a1 p0.files).getD ((⟨([] : List Int), 0⟩ : vdisk_file) : vdisk_file)).b).length : Int)))))))), (C.p true (.v (.pointer none))), (C.p true (.v (.bool p0.dead)))])))], none⟩)] [[], [0], [0, 1], [0, 1, 2], [], [4], [4, 5], [], [7], [7, 8], [7, 8, 9], [], [7, 8, 9, 10, 11], [7, 8, 9, 10, 11, 12], [7, 8, 9, 10, 11, 12, 13], [4, 5, 6, 7, 8, 9, 10, 11, 12, 13, 14], [0, 1, 2, 3, 4, 5, 6, 7, 8, 9, 10, 11, 12, 13, 14, 15], [0, 1, 2, 3, 4, 5, 6, 7, 8, 9, 10, 11, 12, 13, 14, 15, 16], [0, 1, 2, 3, 4, 5, 6, 7, 8, 9, 10, 11, 12, 13, 14, 15, 16, 17], [0, 1, 2, 3, 4, 5, 6, 7, 8, 9, 10, 11, 12, 13, 14, 15, 16, 17, 18]] (nl rfl) [0, 1, 2, 3, 0, 1, 2, 0, 1, 2, 3, 0, 4, 5, 6, 7, 8, 9, 10, 11] rfl (TK := []) rfl AllK.nil' (fC ⟨(sC rfl AllS.nil'), AllH.nil'⟩ (fC ⟨(sC rfl AllS.nil'), AllH.nil'⟩ (fC ⟨(sC rfl AllS.nil'), AllH.nil'⟩ (fC ⟨(sC rfl AllS.nil'), (hC rfl AllH.nil')⟩ (fC ⟨(sC rfl AllS.nil'), AllH.nil'⟩ (fC ⟨(sC rfl AllS.nil'), (hC rfl AllH.nil')⟩ (fC ⟨(sC rfl AllS.nil'), AllH.nil'⟩ (fC ⟨(sC rfl AllS.nil'), AllH.nil'⟩ (fC ⟨(sC rfl AllS.nil'), AllH.nil'⟩ (fC ⟨(sC rfl AllS.nil'), AllH.nil'⟩ (fC ⟨(sC rfl AllS.nil'), (hC rfl AllH.nil')⟩ (fC ⟨(sC rfl AllS.nil'), AllH.nil'⟩ (fC ⟨(sC rfl (sC rfl AllS.nil')), (hC rfl AllH.nil')⟩ (fC ⟨(sC rfl AllS.nil'), AllH.nil'⟩ (fC ⟨(sC rfl AllS.nil'), AllH.nil'⟩ (fC ⟨(sC rfl (sC rfl AllS.nil')), AllH.nil'⟩ (fC ⟨(sC rfl (sC rfl AllS.nil')), AllH.nil'⟩ (fC ⟨(sC rfl AllS.nil'), AllH.nil'⟩ (fC ⟨(sC rfl AllS.nil'), AllH.nil'⟩ (fC ⟨(sC rfl (sC rfl AllS.nil')), (hC rfl AllH.nil')⟩ AllF.nil')))))))))))))))))))) ?_ ?_
 ·refine (pC ?_ (pC ?_ (pC ?_ (pC ?_ (pC ?_ (pC ?_ (pC ?_ (pC ?_ (pC ?_ (pC ?_ (pC ?_ (pC ?_ (pC ?_ (pC ?_ (pC ?_ (pC ?_ (pC ?_ (pC ?_ (pC ?_ (pC ?_ AllStep.nil'))))))))))))))))))))
  ·intro K rest fr hv htk k
   show AWops _ x _ _ K ⟨31, (upd 31 fr 0 (D.one (C.ref 0 0))), _⟩
   refine s_move (d := (D.one (C.ref 0 0))) rfl k
  ·intro K rest fr hv htk k
   show AWops _ x _ _ K ⟨31, (upd 31 fr 6 (D.one (C.ref 0 0))), [(hv 0), (hv 1), (hv 2), (hv 3)]⟩
   refine s_nilCheck (d := (D.one (C.ref 0 0))) rfl (.inl ⟨_, _, rfl⟩) k
  ·intro K rest fr hv htk k
   show AWops _ x _ _ K ⟨31, (upd 31 fr 7 (D.one (C.ref 0 0))), [(hv 0), (hv 1), (hv 2), (hv 3)]⟩
   refine s_fieldRef F.fo_50_2 (by decide) rfl k
  ·intro K rest fr hv htk k
   show AWops _ x _ _ K ⟨31, (upd 31 fr 8 (D.one (C.ref 0 2))), [(some (AObj.cells false [(C.mp 3), (C.p true (.v (.int .i64 p0.room))), (C.p true (.v (.int .i64 p0.used))), (C.p true (.v (.pointer none))), (C.p true (.v (.bool p0.dead)))])), (hv 1), (hv 2), (hv 3)]⟩
   refine s_load1 (c' := (C.p true (.v (.int .i64 p0.used)))) F.ag_3 rfl rfl k
  ·intro K rest fr hv htk k
   show AWops _ x _ _ K ⟨31, (upd 31 fr 5 (D.one (C.ref 2 0))), [(hv 0), (hv 1), (hv 2), (hv 3)]⟩
   refine s_fieldRef F.fo_65_0 (by decide) rfl k
  ·intro K rest fr hv htk k
   show AWops _ x _ _ K ⟨31, (upd 31 fr 10 (D.one (C.ref 2 0))), [(hv 0), (hv 1), (some (AObj.cells true (c_vdisk_file a2))), (hv 3)]⟩
   refine s_load1 (c' := (C.p false (.sl a2.b.length (a2.b.flatMap e_u8)))) F.ag_22 rfl rfl k
  ·intro K rest fr hv htk k
   show AWops _ x _ _ K ⟨31, (upd 31 fr 11 (D.one (C.p false (.sl a2.b.length (a2.b.flatMap e_u8))))), [(hv 0), (hv 1), (hv 2), (hv 3)]⟩
   refine s_len (n := a2.b.length) F.u_22 rfl (.inr ⟨(fun _ _ h => by cases h), ⟨_, rfl⟩⟩) k
  ·intro K rest fr hv htk k
   show AWops _ x _ _ K ⟨31, (upd 31 fr 0 (D.one (C.ref 0 0))), _⟩
   refine s_move (d := (D.one (C.ref 0 0))) rfl k
  ·intro K rest fr hv htk k
   show AWops _ x _ _ K ⟨31, (upd 31 fr 13 (D.one (C.ref 0 0))), [(hv 0), (hv 1), (hv 2), (hv 3)]⟩
   refine s_nilCheck (d := (D.one (C.ref 0 0))) rfl (.inl ⟨_, _, rfl⟩) k
  ·intro K rest fr hv htk k
   show AWops _ x _ _ K ⟨31, (upd 31 fr 14 (D.one (C.ref 0 0))), [(hv 0), (hv 1), (hv 2), (hv 3)]⟩
   refine s_fieldRef F.fo_50_0 (by decide) rfl k
  ·intro K rest fr hv htk k
   show AWops _ x _ _ K ⟨31, (upd 31 fr 15 (D.one (C.ref 0 0))), [(some (AObj.cells false [(C.mp 3), (C.p true (.v (.int .i64 p0.room))), (C.p true (.v (.int .i64 p0.used))), (C.p true (.v (.pointer none))), (C.p true (.v (.bool p0.dead)))])), (hv 1), (hv 2), (hv 3)]⟩
   refine s_load1 (c' := (C.mp 3)) F.ag_47 rfl rfl k
  ·intro K rest fr hv htk k
   show AWops _ x _ _ K ⟨31, (upd 31 fr 1 (sc (.string a1))), _⟩
   refine s_move (d := (sc (.string a1))) rfl k
  ·intro K rest fr hv htk k
   show AWops _ x _ _ K ⟨31, (upd 31 (upd 31 fr 17 (sc (.string a1))) 16 (D.one (C.mp 3))), [(hv 0), (hv 1), (hv 2), (some (AObj.map false (mapE true e_vdisk_file p0.files)))]⟩
   refine t_lookup (b := true) F.u_47 F.u_9 F.z_65 (z := ((⟨([] : List Int), 0⟩ : vdisk_file) : vdisk_file)) (zs := [(.slice none 0 0), (.int .i64 0)]) rfl (fun h => by cases h) (ac ZRel.n (ac (ZRel.v _ rfl) an)) rfl rfl rfl rfl k
  ·intro K rest fr hv htk k
   show AWops _ x _ _ K ⟨31, (upd 31 fr 18 (D.agg (c_vdisk_file ((mget a1 p0.files).getD ((⟨([] : List Int), 0⟩ : vdisk_file) : vdisk_file))))), [(hv 0), (hv 1), (hv 2), (hv 3)]⟩
   refine s_field1 (c := (C.p false (.sl (((mget a1 p0.files).getD ((⟨([] : List Int), 0⟩ : vdisk_file) : vdisk_file)).b).length ((((mget a1 p0.files).getD ((⟨([] : List Int), 0⟩ : vdisk_file) : vdisk_file)).b).flatMap e_u8)))) F.fo_65_0 rfl rfl k
  ·intro K rest fr hv htk k
   show AWops _ x _ _ K ⟨31, (upd 31 fr 19 (D.one (C.p false (.sl (((mget a1 p0.files).getD ((⟨([] : List Int), 0⟩ : vdisk_file) : vdisk_file)).b).length ((((mget a1 p0.files).getD ((⟨([] : List Int), 0⟩ : vdisk_file) : vdisk_file)).b).flatMap e_u8))))), [(hv 0), (hv 1), (hv 2), (hv 3)]⟩
   refine s_len (n := (((mget a1 p0.files).getD ((⟨([] : List Int), 0⟩ : vdisk_file) : vdisk_file)).b).length) F.u_22 rfl (.inr ⟨(fun _ _ h => by cases h), ⟨_, rfl⟩⟩) k
  ·intro K rest fr hv htk k
   show AWops _ x _ _ K ⟨31, (upd 31 (upd 31 fr 20 (sc (.int .i64 ((((mget a1 p0.files).getD ((⟨([] : List Int), 0⟩ : vdisk_file) : vdisk_file)).b).length : Int)))) 12 (sc (.int .i64 (a2.b.length : Int)))), _⟩
   refine s_binI (v := (.int .i64 (IntKind.i64.wrap ((a2.b.length : Int) - ((((mget a1 p0.files).getD ((⟨([] : List Int), 0⟩ : vdisk_file) : vdisk_file)).b).length : Int))))) rfl rfl rfl k
  ·intro K rest fr hv htk k
   show AWops _ x _ _ K ⟨31, (upd 31 (upd 31 fr 21 (sc (.int .i64 (IntKind.i64.wrap ((a2.b.length : Int) - ((((mget a1 p0.files).getD ((⟨([] : List Int), 0⟩ : vdisk_file) : vdisk_file)).b).length : Int)))))) 9 (sc (.int .i64 p0.used))), _⟩
   refine s_binI (v := (.int .i64 (IntKind.i64.wrap (p0.used + (IntKind.i64.wrap ((a2.b.length : Int) - ((((mget a1 p0.files).getD ((⟨([] : List Int), 0⟩ : vdisk_file) : vdisk_file)).b).length : Int))))))) rfl rfl rfl k
  ·intro K rest fr hv htk k
   show AWops _ x _ _ K ⟨31, (upd 31 fr 6 (D.one (C.ref 0 0))), [(hv 0), (hv 1), (hv 2), (hv 3)]⟩
   refine s_nilCheck (d := (D.one (C.ref 0 0))) rfl (.inl ⟨_, _, rfl⟩) k
  ·intro K rest fr hv htk k
   show AWops _ x _ _ K ⟨31, (upd 31 fr 23 (D.one (C.ref 0 0))), [(hv 0), (hv 1), (hv 2), (hv 3)]⟩
   refine s_fieldRef F.fo_50_2 (by decide) rfl k
  ·intro K rest fr hv htk k
   show AWops _ x _ _ K ⟨31, (upd 31 (upd 31 fr 24 (D.one (C.ref 0 2))) 22 (sc (.int .i64 (IntKind.i64.wrap (p0.used + (IntKind.i64.wrap ((a2.b.length : Int) - ((((mget a1 p0.files).getD ((⟨([] : List Int), 0⟩ : vdisk_file) : vdisk_file)).b).length : Int)))))))), [(some (AObj.cells false [(C.mp 3), (C.p true (.v (.int .i64 p0.room))), (C.p true (.v (.int .i64 p0.used))), (C.p true (.v (.pointer none))), (C.p true (.v (.bool p0.dead)))])), (hv 1), (hv 2), (hv 3)]⟩
   refine s_store (cs' := [(C.mp 3), (C.p true (.v (.int .i64 p0.room))), (C.p true (.v (.int .i64 (IntKind.i64.wrap (p0.used + (IntKind.i64.wrap ((a2.b.length : Int) - ((((mget a1 p0.files).getD ((⟨([] : List Int), 0⟩ : vdisk_file) : vdisk_file)).b).length : Int)))))))), (C.p true (.v (.pointer none))), (C.p true (.v (.bool p0.dead)))]) rfl rfl rfl (List.cons_ne_nil _ _) rfl F.sz_3 (nl rfl) rfl k
 ·refine AWops.weak (st' := ⟨31, (upd 31 (upd 31 (upd 31 topF 0 (D.one (C.ref 0 0))) 1 (sc (.string a1))) 5 (D.one (C.ref 2 0))), [(some (AObj.cells false [(C.mp 3), (C.p true (.v (.int .i64 p0.room))), (C.p true (.v (.int .i64 (IntKind.i64.wrap (p0.used + (IntKind.i64.wrap ((a2.b.length : Int) - ((((mget a1 p0.files).getD ((⟨([] : List Int), 0⟩ : vdisk_file) : vdisk_file)).b).length : Int)))))))), (C.p true (.v (.pointer none))), (C.p true (.v (.bool p0.dead)))])), none, (some (AObj.cells true (c_vdisk_file a2))), (some (AObj.map false (mapE true e_vdisk_file p0.files)))]⟩) (Weak.gen (kk := 2) [0, 1, 2, 3] [] hx rfl (by decide) (by decide) rfl rfl rfl (le_upd (le_upd (le_upd (le_top _) (.t (.one (.ref rfl)))) (.t (.one .sc))) (.t (.one (.ref rfl)))) (ac (.cells (fun h => h) (ac (.mp rfl) (ac .sc (ac .sc (ac .sc (ac .sc an)))))) (ac (.none _) (ac (.cells (fun h => h) (ac .same (ac .sc an))) (ac .map an))))) (AWops.nil ?_)
  refine AW.weak (st' := ⟨31, (upd 31 (upd 31 (upd 31 topF 0 (D.one (C.ref 0 0))) 1 (sc (.string a1))) 5 (D.one (C.ref 2 0))), [(some (AObj.cells false [(C.mp 3), (C.p true (.v (.int .i64 p0.room))), (C.p true (.v (.int .i64 (IntKind.i64.wrap (p0.used + (IntKind.i64.wrap ((a2.b.length : Int) - ((((mget a1 p0.files).getD ((⟨([] : List Int), 0⟩ : vdisk_file) : vdisk_file)).b).length : Int)))))))), (C.p true (.v (.pointer none))), (C.p true (.v (.bool p0.dead)))])), none, (some (AObj.cells true (c_vdisk_file a2))), (some (AObj.map false (mapE true e_vdisk_file p0.files)))]⟩) (Weak.gen (kk := 2) [0, 1, 2, 3] [] hx rfl (by decide) (by decide) rfl rfl rfl (le_upd (le_upd (le_upd (le_top _) (.t (.one (.ref rfl)))) (.t (.one .sc))) (.t (.one (.ref rfl)))) (ac (.cells (fun h => h) (ac (.mp rfl) (ac .sc (ac .sc (ac .sc (ac .sc an)))))) (ac (.none _) (ac (.cells (fun h => h) (ac .same (ac .sc an))) (ac .map an))))) ?_
  refine AW.draw (n := 31) (L := 4) [(0, ⟨some 25, (D.one (C.ref 0 0)), [(0, (D.one (C.ref 0 0)))], [], [], none⟩), (1, ⟨some 26, (D.one (C.ref 0 0)), [(25, (D.one (C.ref 0 0)))], [], [], none⟩), (2, ⟨some 27, (D.one (C.ref 0 0)), [(26, (D.one (C.ref 0 0)))], [], [], none⟩), (3, ⟨some 28, (D.one (C.mp 3)), [(27, (D.one (C.ref 0 0)))], [(0, (some (AObj.cells false [(C.mp 3), (C.p true (.v (.int .i64 p0.room))), (C.p true (.v (.int .i64 (IntKind.i64.wrap (p0.used + (IntKind.i64.wrap ((a2.b.length : Int) - ((((mget a1 p0.files).getD ((⟨([] : List Int), 0⟩ : vdisk_file) : vdisk_file)).b).length : Int)))))))), (C.p true (.v (.pointer none))), (C.p true (.v (.bool p0.dead)))])))], [], none⟩), (4, ⟨some 29, (sc (.string a1)), [(1, (sc (.string a1)))], [], [], none⟩), (5, ⟨some 30, (D.agg (c_vdisk_file a2)), [(5, (D.one (C.ref 2 0)))], [(2, (some (AObj.cells true (c_vdisk_file a2))))], [], none⟩), (6, ⟨none, (D.one C.top), [(28, (D.one (C.mp 3))), (29, (sc (.string a1))), (30, (D.agg (c_vdisk_file a2)))], [(3, (some (AObj.map false (mapE true e_vdisk_file p0.files))))], [(3, (some (AObj.map false (mapE true e_vdisk_file (mset a1 a2 p0.files)))))], none⟩)] [[], [0], [0, 1], [0, 1, 2], [], [], [0, 1, 2, 3, 4, 5]] (nl rfl) [0, 1, 2, 3, 0, 0, 4] rfl (TK := []) rfl AllK.nil' (fC ⟨(sC rfl AllS.nil'), AllH.nil'⟩ (fC ⟨(sC rfl AllS.nil'), AllH.nil'⟩ (fC ⟨(sC rfl AllS.nil'), AllH.nil'⟩ (fC ⟨(sC rfl AllS.nil'), (hC rfl AllH.nil')⟩ (fC ⟨(sC rfl AllS.nil'), AllH.nil'⟩ (fC ⟨(sC rfl AllS.nil'), (hC rfl AllH.nil')⟩ (fC ⟨(sC rfl (sC rfl (sC rfl AllS.nil'))), (hC rfl AllH.nil')⟩ AllF.nil'))))))) ?_ ?_
  ·refine (pC ?_ (pC ?_ (pC ?_ (pC ?_ (pC ?_ (pC ?_ (pC ?_ AllStep.nil')))))))
   ·intro K rest fr hv htk k
    show AWops _ x _ _ K ⟨31, (upd 31 fr 0 (D.one (C.ref 0 0))), _⟩
    refine s_move (d := (D.one (C.ref 0 0))) rfl k
   ·intro K rest fr hv htk k
    show AWops _ x _ _ K ⟨31, (upd 31 fr 25 (D.one (C.ref 0 0))), [(hv 0), (hv 1), (hv 2), (hv 3)]⟩
    refine s_nilCheck (d := (D.one (C.ref 0 0))) rfl (.inl ⟨_, _, rfl⟩) k
   ·intro K rest fr hv htk k
    show AWops _ x _ _ K ⟨31, (upd 31 fr 26 (D.one (C.ref 0 0))), [(hv 0), (hv 1), (hv 2), (hv 3)]⟩
    refine s_fieldRef F.fo_50_0 (by decide) rfl k
   ·intro K rest fr hv htk k
    show AWops _ x _ _ K ⟨31, (upd 31 fr 27 (D.one (C.ref 0 0))), [(some (AObj.cells false [(C.mp 3), (C.p true (.v (.int .i64 p0.room))), (C.p true (.v (.int .i64 (IntKind.i64.wrap (p0.used + (IntKind.i64.wrap ((a2.b.length : Int) - ((((mget a1 p0.files).getD ((⟨([] : List Int), 0⟩ : vdisk_file) : vdisk_file)).b).length : Int)))))))), (C.p true (.v (.pointer none))), (C.p true (.v (.bool p0.dead)))])), (hv 1), (hv 2), (hv 3)]⟩
    refine s_load1 (c' := (C.mp 3)) F.ag_47 rfl rfl k
   ·intro K rest fr hv htk k
    show AWops _ x _ _ K ⟨31, (upd 31 fr 1 (sc (.string a1))), _⟩
    refine s_move (d := (sc (.string a1))) rfl k
   ·intro K rest fr hv htk k
    show AWops _ x _ _ K ⟨31, (upd 31 fr 5 (D.one (C.ref 2 0))), [(hv 0), (hv 1), (some (AObj.cells true (c_vdisk_file a2))), (hv 3)]⟩
    refine s_loadN (ds := (c_vdisk_file a2)) F.ag_65 F.sz_65 rfl rfl rfl k
   ·intro K rest fr hv htk k
    show AWops _ x _ _ K ⟨31, (upd 31 (upd 31 (upd 31 fr 30 (D.agg (c_vdisk_file a2))) 29 (sc (.string a1))) 28 (D.one (C.mp 3))), [(hv 0), (hv 1), (hv 2), (some (AObj.map false (mapE true e_vdisk_file p0.files)))]⟩
    refine t_mapSet (b := true) (u := a2) F.u_47 F.u_9 (fun h => by cases h) rfl rfl rfl rfl rfl k
  ·refine AWops.weak (st' := ⟨31, topF, [(some (AObj.cells false [(C.mp 2), (C.p true (.v (.int .i64 p0.room))), (C.p true (.v (.int .i64 (IntKind.i64.wrap (p0.used + (IntKind.i64.wrap ((a2.b.length : Int) - ((((mget a1 p0.files).getD ((⟨([] : List Int), 0⟩ : vdisk_file) : vdisk_file)).b).length : Int)))))))), (C.p true (.v (.pointer none))), (C.p true (.v (.bool p0.dead)))])), none, (some (AObj.map false (mapE true e_vdisk_file (mset a1 a2 p0.files))))]⟩) (Weak.gen (kk := 2) [0, 1, 3] [] hx rfl (by decide) (by decide) rfl rfl rfl (le_top _) (ac (.cells (fun h => h) (ac (.mp rfl) (ac .sc (ac .sc (ac .sc (ac .sc an)))))) (ac (.none _) (ac .map an)))) (AWops.nil ?_)
   obtain rfl := Option.some.inj h
   exact ⟨_, rfl, (Weak.gen (kk := 2) [0, 1, 2] [] rfl rfl (by decide) (by decide) rfl rfl rfl (le_upd (le_top _) (DLe.tup an)) (ac (.cells (fun h => h) (ac (.mp rfl) (ac .sc (ac .sc (ac .sc (ac .sc an)))))) (ac (.none _) (ac .map an))))⟩
end Go.Abs.GenW
