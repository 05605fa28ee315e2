import Derived.Test.YtknfjmongeddgaaDoorAbsU
import Derived.Test.YtknfjmongeddgaaDoorProg
set_option linter.unusedVariables false
set_option linter.unusedSimpArgs false
set_option maxRecDepth 100000
set_option maxHeartbeats 4000000
namespace Go.Abs.GenC
open Go.Abs Go.Proofs
structure chars_span where
  low : Int
  high : Int
abbrev c_chars_span (x : chars_span) : List C := [(C.p true (.v (.int .i64 x.low))), (C.p true (.v (.int .i64 x.high)))]
abbrev p_chars_span (x : chars_span) : List P := [P.v (.int .i64 x.low), P.v (.int .i64 x.high)]
def e_chars_span (x : chars_span) : List P := e_i64 x.low ++ e_i64 x.high
theorem e_chars_span_eq (x : chars_span) : e_chars_span x = [P.v (.int .i64 x.low), P.v (.int .i64 x.high)] := rfl
theorem e_chars_span_fr (x : chars_span) : ((e_chars_span x).map mkC).all frC = true := rfl
theorem e_chars_span_len (x : chars_span) : (e_chars_span x).length = 2 := by rw [e_chars_span_eq]; rfl
structure utf8_acceptRange where
  lo : Int
  hi : Int
abbrev c_utf8_acceptRange (x : utf8_acceptRange) : List C := [(C.p true (.v (.int .u8 x.lo))), (C.p true (.v (.int .u8 x.hi)))]
abbrev p_utf8_acceptRange (x : utf8_acceptRange) : List P := [P.v (.int .u8 x.lo), P.v (.int .u8 x.hi)]
def e_utf8_acceptRange (x : utf8_acceptRange) : List P := e_u8 x.lo ++ e_u8 x.hi
theorem e_utf8_acceptRange_eq (x : utf8_acceptRange) : e_utf8_acceptRange x = [P.v (.int .u8 x.lo), P.v (.int .u8 x.hi)] := rfl
theorem e_utf8_acceptRange_fr (x : utf8_acceptRange) : ((e_utf8_acceptRange x).map mkC).all frC = true := rfl
theorem e_utf8_acceptRange_len (x : utf8_acceptRange) : (e_utf8_acceptRange x).length = 2 := by rw [e_utf8_acceptRange_eq]; rfl
namespace G
theorem gl_0 (st : St) : st.val (.global 0) = .one (.peek false (GX0.flatMap e_u8)) := by rfl
end G
def gx1 : List utf8_acceptRange := [⟨128, 191⟩, ⟨160, 191⟩, ⟨128, 159⟩, ⟨144, 191⟩, ⟨128, 143⟩, ⟨0, 0⟩, ⟨0, 0⟩, ⟨0, 0⟩, ⟨0, 0⟩, ⟨0, 0⟩, ⟨0, 0⟩, ⟨0, 0⟩, ⟨0, 0⟩, ⟨0, 0⟩, ⟨0, 0⟩, ⟨0, 0⟩]
namespace G
theorem gl_1 (st : St) : st.val (.global 1) = .one (.peek false (gx1.flatMap e_utf8_acceptRange)) := by rfl
end G
namespace F
theorem u_4 : Tryd.prog.underlying 4 = some (.bool) := by kernel_rfl
theorem z_41 : zeroOf Tryd.prog 41 = some (.agg #[(.int .i64 0), (.int .i64 0)]) := by kernel_rfl
theorem so_41 : structOk Tryd.prog 41 = true := by kernel_rfl
theorem fo_41_0 : fieldOf Tryd.prog 41 0 = some (0, 1, false) := by kernel_rfl
theorem fo_41_1 : fieldOf Tryd.prog 41 1 = some (1, 1, false) := by kernel_rfl
theorem ag_3 : aggOf Tryd.prog 3 = some false := by kernel_rfl
theorem sz_41 : szOf Tryd.prog 41 = some 2 := by kernel_rfl
theorem ag_41 : aggOf Tryd.prog 41 = some true := by kernel_rfl
theorem u_42 : Tryd.prog.underlying 42 = some (.slice 41) := by kernel_rfl
theorem ca_27 : callable Tryd.prog 27 = true := by kernel_rfl
theorem u_44 : Tryd.prog.underlying 44 = some (.slice 3) := by kernel_rfl
theorem sz_3 : szOf Tryd.prog 3 = some 1 := by kernel_rfl
theorem ca_28 : callable Tryd.prog 28 = true := by kernel_rfl
theorem z_3 : zeroOf Tryd.prog 3 = some (.int .i64 0) := by kernel_rfl
theorem ca_9 : callable Tryd.prog 9 = true := by kernel_rfl
theorem ca_10 : callable Tryd.prog 10 = true := by kernel_rfl
theorem u_9 : Tryd.prog.underlying 9 = some (.string) := by kernel_rfl
theorem u_31 : Tryd.prog.underlying 31 = some (.slice 5) := by kernel_rfl
theorem u_5 : Tryd.prog.underlying 5 = some (.int .u8) := by kernel_rfl
theorem u_21 : Tryd.prog.underlying 21 = some (.int .i32) := by kernel_rfl
theorem ag_5 : aggOf Tryd.prog 5 = some false := by kernel_rfl
theorem sz_5 : szOf Tryd.prog 5 = some 1 := by kernel_rfl
theorem u_3 : Tryd.prog.underlying 3 = some (.int .i64) := by kernel_rfl
theorem z_55 : zeroOf Tryd.prog 55 = some (.agg #[(.int .u8 0), (.int .u8 0)]) := by kernel_rfl
theorem fo_55_0 : fieldOf Tryd.prog 55 0 = some (0, 1, false) := by kernel_rfl
theorem fo_55_1 : fieldOf Tryd.prog 55 1 = some (1, 1, false) := by kernel_rfl
theorem sz_55 : szOf Tryd.prog 55 = some 2 := by kernel_rfl
theorem ag_55 : aggOf Tryd.prog 55 = some true := by kernel_rfl
theorem u_56 : Tryd.prog.underlying 56 = some (.array 16 55) := by kernel_rfl
theorem u_53 : Tryd.prog.underlying 53 = some (.array 256 5) := by kernel_rfl
theorem ca_35 : callable Tryd.prog 35 = true := by kernel_rfl
theorem ca_30 : callable Tryd.prog 30 = true := by kernel_rfl
theorem ca_11 : callable Tryd.prog 11 = true := by kernel_rfl
theorem ca_20 : callable Tryd.prog 20 = true := by kernel_rfl
theorem z_5 : zeroOf Tryd.prog 5 = some (.int .u8 0) := by kernel_rfl
theorem ca_24 : callable Tryd.prog 24 = true := by kernel_rfl
theorem ca_12 : callable Tryd.prog 12 = true := by kernel_rfl
theorem ca_21 : callable Tryd.prog 21 = true := by kernel_rfl
theorem ca_29 : callable Tryd.prog 29 = true := by kernel_rfl
theorem ca_15 : callable Tryd.prog 15 = true := by kernel_rfl
theorem ca_14 : callable Tryd.prog 14 = true := by kernel_rfl
theorem ca_13 : callable Tryd.prog 13 = true := by kernel_rfl
theorem ca_8 : callable Tryd.prog 8 = true := by kernel_rfl
theorem ca_7 : callable Tryd.prog 7 = true := by kernel_rfl
theorem u_45 : Tryd.prog.underlying 45 = some (.int .u64) := by kernel_rfl
theorem ca_19 : callable Tryd.prog 19 = true := by kernel_rfl
theorem z_46 : zeroOf Tryd.prog 46 = some (.agg #[(.int .u8 0), (.int .u8 0), (.int .u8 0), (.int .u8 0), (.int .u8 0), (.int .u8 0), (.int .u8 0), (.int .u8 0), (.int .u8 0), (.int .u8 0), (.int .u8 0), (.int .u8 0), (.int .u8 0), (.int .u8 0), (.int .u8 0), (.int .u8 0), (.int .u8 0), (.int .u8 0), (.int .u8 0), (.int .u8 0)]) := by kernel_rfl
theorem u_46 : Tryd.prog.underlying 46 = some (.array 20 5) := by kernel_rfl
theorem ca_18 : callable Tryd.prog 18 = true := by kernel_rfl
theorem ca_17 : callable Tryd.prog 17 = true := by kernel_rfl
theorem ca_16 : callable Tryd.prog 16 = true := by kernel_rfl
theorem u_52 : Tryd.prog.underlying 52 = some (.int .u32) := by kernel_rfl
theorem in_5 : infoQ Tryd.prog 5 = some (some (.int .u8 0), 1, 1) := by kernel_rfl
theorem ca_36 : callable Tryd.prog 36 = true := by kernel_rfl
theorem ca_32 : callable Tryd.prog 32 = true := by kernel_rfl
theorem ca_31 : callable Tryd.prog 31 = true := by kernel_rfl
theorem ca_33 : callable Tryd.prog 33 = true := by kernel_rfl
theorem ca_34 : callable Tryd.prog 34 = true := by kernel_rfl
theorem ca_26 : callable Tryd.prog 26 = true := by kernel_rfl
theorem ca_25 : callable Tryd.prog 25 = true := by kernel_rfl
theorem ca_22 : callable Tryd.prog 22 = true := by kernel_rfl
theorem ca_23 : callable Tryd.prog 23 = true := by kernel_rfl
end F
def chars_Space.f (k : Nat) (a0 : Int) : Option Bool := if (a0 == 32) = true then (some true) else (if (a0 == 9) = true then (some true) else (if (a0 == 10) = true then (some true) else (if (a0 == 13) = true then (some true) else (some false))))
theorem chars_Space.meets (k : Nat) (a0 : Int) (r : Bool) (h : chars_Space.f k a0 = some r) : Meets Tryd.prog 7 [(sc (.int .i64 a0))] [] (sc (.bool r)) [] := by
  unfold chars_Space.f at h
  refine Meets.of_body (n := 9) Tryd.func7 rfl rfl (Nat.le_of_ble_eq_true rfl) fun x hx => ?_
  replace hx : x.k = 0 := hx
  show AW _ x _ _ ⟨9, fr0 [(sc (.int .i64 a0))], []⟩
  refine AW.seq ?_
  refine AW.region ?_
  refine s_assign (d := (sc (.bool false))) rfl ?_
  refine AWops.nil ?_
  refine AW.seq ?_
  refine AW.seq ?_
  refine AW.region ?_
  refine s_move (d := (sc (.int .i64 a0))) rfl ?_
  refine AWops.nil ?_
  refine AW.block ?_
  refine AW.seq ?_
  refine AW.seq ?_
  refine AW.region ?_
  refine s_binI (v := (.bool (a0 == 32))) rfl rfl rfl ?_
  refine s_assign (d := (sc (.bool (a0 == 32)))) rfl ?_
  refine AWops.nil ?_
  by_cases c1 : (a0 == 32) = true
  · replace h := (if_pos c1).symm.trans h
    refine AW.cond_yes rfl c1 ?_
    refine AW.skip ?_
    refine AW.cond_yes rfl c1 ?_
    refine AW.seq ?_
    refine AW.region ?_
    refine s_assign (d := (sc (.bool true))) rfl ?_
    refine AWops.nil ?_
    refine AW.ret ?_
    obtain rfl := Option.some.inj h
    exact ⟨_, rfl, (Weak.gen (kk := 0) [] [] rfl rfl (by decide) (by decide) rfl rfl rfl (le_upd (le_top _) (.t (.one .sc))) All2.nil)⟩
  · replace h := (if_neg c1).symm.trans h
    replace c1 := Bool.eq_false_iff.mpr c1
    refine AW.cond_no rfl c1 ?_
    refine AW.seq ?_
    refine AW.region ?_
    refine s_binI (v := (.bool (a0 == 9))) rfl rfl rfl ?_
    refine s_assign (d := (sc (.bool (a0 == 9)))) rfl ?_
    refine AWops.nil ?_
    by_cases c2 : (a0 == 9) = true
    · replace h := (if_pos c2).symm.trans h
      refine AW.cond_yes rfl c2 ?_
      refine AW.skip ?_
      refine AW.cond_yes rfl c2 ?_
      refine AW.seq ?_
      refine AW.region ?_
      refine s_assign (d := (sc (.bool true))) rfl ?_
      refine AWops.nil ?_
      refine AW.ret ?_
      obtain rfl := Option.some.inj h
      exact ⟨_, rfl, (Weak.gen (kk := 0) [] [] rfl rfl (by decide) (by decide) rfl rfl rfl (le_upd (le_top _) (.t (.one .sc))) All2.nil)⟩
    · replace h := (if_neg c2).symm.trans h
      replace c2 := Bool.eq_false_iff.mpr c2
      refine AW.cond_no rfl c2 ?_
      refine AW.seq ?_
      refine AW.region ?_
      refine s_binI (v := (.bool (a0 == 10))) rfl rfl rfl ?_
      refine s_assign (d := (sc (.bool (a0 == 10)))) rfl ?_
      refine AWops.nil ?_
      by_cases c3 : (a0 == 10) = true
      · replace h := (if_pos c3).symm.trans h
        refine AW.cond_yes rfl c3 ?_
        refine AW.skip ?_
        refine AW.cond_yes rfl c3 ?_
        refine AW.seq ?_
        refine AW.region ?_
        refine s_assign (d := (sc (.bool true))) rfl ?_
        refine AWops.nil ?_
        refine AW.ret ?_
        obtain rfl := Option.some.inj h
        exact ⟨_, rfl, (Weak.gen (kk := 0) [] [] rfl rfl (by decide) (by decide) rfl rfl rfl (le_upd (le_top _) (.t (.one .sc))) All2.nil)⟩
      · replace h := (if_neg c3).symm.trans h
        replace c3 := Bool.eq_false_iff.mpr c3
        refine AW.cond_no rfl c3 ?_
        refine AW.region ?_
        refine s_binI (v := (.bool (a0 == 13))) rfl rfl rfl ?_
        refine s_assign (d := (sc (.bool (a0 == 13)))) rfl ?_
        refine AWops.nil ?_
        by_cases c4 : (a0 == 13) = true
        · replace h := (if_pos c4).symm.trans h
          refine AW.cond_yes rfl c4 ?_
          refine AW.seq ?_
          refine AW.region ?_
          refine s_assign (d := (sc (.bool true))) rfl ?_
          refine AWops.nil ?_
          refine AW.ret ?_
          obtain rfl := Option.some.inj h
          exact ⟨_, rfl, (Weak.gen (kk := 0) [] [] rfl rfl (by decide) (by decide) rfl rfl rfl (le_upd (le_top _) (.t (.one .sc))) All2.nil)⟩
        · replace h := (if_neg c4).symm.trans h
          replace c4 := Bool.eq_false_iff.mpr c4
          refine AW.cond_no rfl c4 ?_
          refine AW.skip ?_
          refine AW.seq ?_
          refine AW.region ?_
          refine s_assign (d := (sc (.bool false))) rfl ?_
          refine AWops.nil ?_
          refine AW.ret ?_
          obtain rfl := Option.some.inj h
          exact ⟨_, rfl, (Weak.gen (kk := 0) [] [] rfl rfl (by decide) (by decide) rfl rfl rfl (le_upd (le_top _) (.t (.one .sc))) All2.nil)⟩
def dossierref01_Space.f (k : Nat) (a0 : Int) : Option Bool := if (a0 == 9) = true then (some true) else (if (a0 == 10) = true then (some true) else (if (a0 == 13) = true then (some true) else (some (a0 == 32))))
theorem dossierref01_Space.meets (k : Nat) (a0 : Int) (r : Bool) (h : dossierref01_Space.f k a0 = some r) : Meets Tryd.prog 8 [(sc (.int .i64 a0))] [] (sc (.bool r)) [] := by
  unfold dossierref01_Space.f at h
  refine Meets.of_body (n := 17) Tryd.func8 rfl rfl (Nat.le_of_ble_eq_true rfl) fun x hx => ?_
  replace hx : x.k = 0 := hx
  show AW _ x _ _ ⟨17, fr0 [(sc (.int .i64 a0))], []⟩
  refine AW.seq ?_
  refine AW.region ?_
  refine s_assign (d := (sc (.bool false))) rfl ?_
  refine AWops.nil ?_
  refine AW.seq ?_
  refine AW.region ?_
  refine s_move (d := (sc (.int .i64 a0))) rfl ?_
  refine s_binI (v := (.bool (a0 == 9))) rfl rfl rfl ?_
  refine s_move (d := (sc (.bool (a0 == 9)))) rfl ?_
  by_cases c1 : (a0 == 9) = true
  · replace h := (if_pos c1).symm.trans h
    refine AWops.guard_no rfl (Nat.le_of_ble_eq_true rfl) rfl c1 ?_
    refine AWops.guard_no rfl (Nat.le_of_ble_eq_true rfl) rfl c1 ?_
    refine s_pick_yes (d := (sc (.bool true))) rfl c1 rfl ?_
    refine s_move (d := (sc (.bool true))) rfl ?_
    refine AWops.guard_no rfl (Nat.le_of_ble_eq_true rfl) rfl rfl ?_
    refine AWops.guard_no rfl (Nat.le_of_ble_eq_true rfl) rfl rfl ?_
    refine s_pick_yes (d := (sc (.bool true))) rfl rfl rfl ?_
    refine s_move (d := (sc (.bool true))) rfl ?_
    refine AWops.guard_no rfl (Nat.le_of_ble_eq_true rfl) rfl rfl ?_
    refine AWops.guard_no rfl (Nat.le_of_ble_eq_true rfl) rfl rfl ?_
    refine s_pick_yes (d := (sc (.bool true))) rfl rfl rfl ?_
    refine s_assign (d := (sc (.bool true))) rfl ?_
    refine AWops.nil ?_
    refine AW.ret ?_
    obtain rfl := Option.some.inj h
    exact ⟨_, rfl, (Weak.gen (kk := 0) [] [] rfl rfl (by decide) (by decide) rfl rfl rfl (le_upd (le_top _) (.t (.one .sc))) All2.nil)⟩
  · replace h := (if_neg c1).symm.trans h
    replace c1 := Bool.eq_false_iff.mpr c1
    refine AWops.guard_yes rfl (Nat.le_of_ble_eq_true rfl) rfl c1 ?_
    refine s_move (d := (sc (.int .i64 a0))) rfl ?_
    refine AWops.guard_yes rfl (Nat.le_of_ble_eq_true rfl) rfl c1 ?_
    refine s_binI (v := (.bool (a0 == 10))) rfl rfl rfl ?_
    refine s_pick_no (d := (sc (.bool (a0 == 10)))) rfl c1 rfl ?_
    refine s_move (d := (sc (.bool (a0 == 10)))) rfl ?_
    by_cases c2 : (a0 == 10) = true
    · replace h := (if_pos c2).symm.trans h
      refine AWops.guard_no rfl (Nat.le_of_ble_eq_true rfl) rfl c2 ?_
      refine AWops.guard_no rfl (Nat.le_of_ble_eq_true rfl) rfl c2 ?_
      refine s_pick_yes (d := (sc (.bool true))) rfl c2 rfl ?_
      refine s_move (d := (sc (.bool true))) rfl ?_
      refine AWops.guard_no rfl (Nat.le_of_ble_eq_true rfl) rfl rfl ?_
      refine AWops.guard_no rfl (Nat.le_of_ble_eq_true rfl) rfl rfl ?_
      refine s_pick_yes (d := (sc (.bool true))) rfl rfl rfl ?_
      refine s_assign (d := (sc (.bool true))) rfl ?_
      refine AWops.nil ?_
      refine AW.ret ?_
      obtain rfl := Option.some.inj h
      exact ⟨_, rfl, (Weak.gen (kk := 0) [] [] rfl rfl (by decide) (by decide) rfl rfl rfl (le_upd (le_top _) (.t (.one .sc))) All2.nil)⟩
    · replace h := (if_neg c2).symm.trans h
      replace c2 := Bool.eq_false_iff.mpr c2
      refine AWops.guard_yes rfl (Nat.le_of_ble_eq_true rfl) rfl c2 ?_
      refine s_move (d := (sc (.int .i64 a0))) rfl ?_
      refine AWops.guard_yes rfl (Nat.le_of_ble_eq_true rfl) rfl c2 ?_
      refine s_binI (v := (.bool (a0 == 13))) rfl rfl rfl ?_
      refine s_pick_no (d := (sc (.bool (a0 == 13)))) rfl c2 rfl ?_
      refine s_move (d := (sc (.bool (a0 == 13)))) rfl ?_
      by_cases c3 : (a0 == 13) = true
      · replace h := (if_pos c3).symm.trans h
        refine AWops.guard_no rfl (Nat.le_of_ble_eq_true rfl) rfl c3 ?_
        refine AWops.guard_no rfl (Nat.le_of_ble_eq_true rfl) rfl c3 ?_
        refine s_pick_yes (d := (sc (.bool true))) rfl c3 rfl ?_
        refine s_assign (d := (sc (.bool true))) rfl ?_
        refine AWops.nil ?_
        refine AW.ret ?_
        obtain rfl := Option.some.inj h
        exact ⟨_, rfl, (Weak.gen (kk := 0) [] [] rfl rfl (by decide) (by decide) rfl rfl rfl (le_upd (le_top _) (.t (.one .sc))) All2.nil)⟩
      · replace h := (if_neg c3).symm.trans h
        replace c3 := Bool.eq_false_iff.mpr c3
        refine AWops.guard_yes rfl (Nat.le_of_ble_eq_true rfl) rfl c3 ?_
        refine s_move (d := (sc (.int .i64 a0))) rfl ?_
        refine AWops.guard_yes rfl (Nat.le_of_ble_eq_true rfl) rfl c3 ?_
        refine s_binI (v := (.bool (a0 == 32))) rfl rfl rfl ?_
        refine s_pick_no (d := (sc (.bool (a0 == 32)))) rfl c3 rfl ?_
        refine s_assign (d := (sc (.bool (a0 == 32)))) rfl ?_
        refine AWops.nil ?_
        refine AW.ret ?_
        obtain rfl := Option.some.inj h
        exact ⟨_, rfl, (Weak.gen (kk := 0) [] [] rfl rfl (by decide) (by decide) rfl rfl rfl (le_upd (le_top _) (.t (.one .sc))) All2.nil)⟩
mutual
def chars_in.l0 : Nat → Int → Int → (List chars_span) → Option Bool
  | 0, _, _, _ => none
  | k + 1, x1, a0, a1 => if (decide (x1 < (a1.length : Int))) = true then ((rd a1 x1).bind fun v3 => if (decide (v3.low ≤ a0)) = true then (if (decide (a0 ≤ v3.high)) = true then (some true) else (chars_in.l0 k (IntKind.i64.wrap (x1 + 1)) a0 a1)) else (chars_in.l0 k (IntKind.i64.wrap (x1 + 1)) a0 a1)) else (some false)
end
def chars_in.f (k : Nat) (a0 : Int) (a1 : List chars_span) : Option Bool := chars_in.l0 k 0 a0 a1
theorem chars_in.meets (k : Nat) (a0 : Int) (a1 : List chars_span) (r : Bool) (h : chars_in.f k a0 a1 = some r) : Meets Tryd.prog 27 [(sc (.int .i64 a0)), (D.one (C.p false (.sl a1.length (a1.flatMap e_chars_span))))] [] (sc (.bool r)) [] := by
  unfold chars_in.f at h
  refine Meets.of_body (n := 24) Tryd.func27 rfl rfl (Nat.le_of_ble_eq_true rfl) fun x hx => ?_
  replace hx : x.k = 0 := hx
  show AW _ x _ _ ⟨24, fr0 [(sc (.int .i64 a0)), (D.one (C.p false (.sl a1.length (a1.flatMap e_chars_span))))], []⟩
  refine AW.seq ?_
  refine AW.region ?_
  refine s_assign (d := (sc (.bool false))) rfl ?_
  refine AWops.nil ?_
  refine AW.seq ?_
  refine AW.seq ?_
  refine AW.region ?_
  refine s_move (d := (D.one (C.p false (.sl a1.length (a1.flatMap e_chars_span))))) rfl ?_
  refine s_len (n := a1.length) F.u_42 rfl (.inr ⟨(fun _ _ h => by cases h), ⟨_, rfl⟩⟩) ?_
  refine s_move (d := (sc (.int .i64 0))) rfl ?_
  refine AWops.nil ?_
  refine AW.block ?_
  refine AW.loopw (st0 := ⟨24, (upd 24 (upd 24 (upd 24 (upd 24 topF 0 (sc (.int .i64 a0))) 7 (D.one (C.p false (.sl a1.length (a1.flatMap e_chars_span))))) 8 (sc (.int .i64 (a1.length : Int)))) 9 (sc (.int .i64 0))), []⟩) (fun kv st => kv ≤ k ∧ ∃ (x1 : Int), chars_in.l0 kv x1 a0 a1 = some r ∧ st = ⟨24, (upd 24 (upd 24 (upd 24 (upd 24 topF 0 (sc (.int .i64 a0))) 7 (D.one (C.p false (.sl a1.length (a1.flatMap e_chars_span))))) 8 (sc (.int .i64 (a1.length : Int)))) 9 (sc (.int .i64 x1))), []⟩) (k := k) (Weak.gen (kk := 0) [] [] hx rfl (by decide) (by decide) rfl rfl rfl (le_upd (le_upd (le_upd (le_upd (le_top _) (.t (.one .sc))) (.t (.one .same))) (.t (.one .sc))) (.t (.one .sc))) All2.nil) ⟨Nat.le_refl _, 0, h, rfl⟩ ?_
  rintro ql0 st ⟨hkl0, x1, h, rfl⟩
  cases ql0 with
  | zero => exact absurd h (by simp [chars_in.l0])
  | succ ql0 =>
    replace h := (chars_in.l0.eq_2 _ _ _ _).symm.trans h
    refine AW.seq ?_
    refine AW.region ?_
    refine s_binI (v := (.bool (decide (x1 < (a1.length : Int))))) rfl rfl rfl ?_
    refine AWops.nil ?_
    refine AW.seq ?_
    by_cases c2 : (decide (x1 < (a1.length : Int))) = true
    · replace h := (if_pos c2).symm.trans h
      refine AW.cond_yes rfl c2 ?_
      refine AW.skip ?_
      refine AW.seq ?_
      refine AW.block ?_
      refine AW.seq ?_
      refine AW.region ?_
      obtain ⟨v3, ev3, h⟩ := Option.bind_eq_some_iff.mp h
      obtain ⟨pv3, qv3, gv3⟩ := rd_some ev3
      refine s_indexImm (ps := (p_chars_span v3)) F.u_42 F.sz_41 rfl rfl pv3 qv3 (flat_at e_chars_span_len gv3 (e_chars_span_eq v3)) ?_
      refine s_loadN (ds := (c_chars_span v3)) F.ag_41 F.sz_41 rfl rfl rfl ?_
      refine s_alloc (cs := [(C.p true (.v (.int .i64 0))), (C.p true (.v (.int .i64 0)))]) F.z_41 rfl rfl ?_
      refine s_store (cs' := (c_chars_span v3)) rfl rfl rfl (List.cons_ne_nil _ _) rfl F.sz_41 (Nat.le_of_ble_eq_true rfl) rfl ?_
      refine AWops.nil ?_
      refine AW.seq ?_
      refine AW.region ?_
      refine s_fieldRef F.fo_41_0 (by decide) rfl ?_
      refine s_load1 (c' := (C.p true (.v (.int .i64 v3.low)))) F.ag_3 rfl rfl ?_
      refine s_move (d := (sc (.int .i64 a0))) rfl ?_
      refine s_binI (v := (.bool (decide (v3.low ≤ a0)))) rfl rfl rfl ?_
      refine s_move (d := (sc (.bool (decide (v3.low ≤ a0))))) rfl ?_
      by_cases c4 : (decide (v3.low ≤ a0)) = true
      · replace h := (if_pos c4).symm.trans h
        refine AWops.guard_yes rfl (Nat.le_of_ble_eq_true rfl) rfl c4 ?_
        refine s_move (d := (sc (.int .i64 a0))) rfl ?_
        refine AWops.guard_yes rfl (Nat.le_of_ble_eq_true rfl) rfl c4 ?_
        refine s_fieldRef F.fo_41_1 (by decide) rfl ?_
        refine AWops.guard_yes rfl (Nat.le_of_ble_eq_true rfl) rfl c4 ?_
        refine s_load1 (c' := (C.p true (.v (.int .i64 v3.high)))) F.ag_3 rfl rfl ?_
        refine AWops.guard_yes rfl (Nat.le_of_ble_eq_true rfl) rfl c4 ?_
        refine s_binI (v := (.bool (decide (a0 ≤ v3.high)))) rfl rfl rfl ?_
        refine s_pick_yes (d := (sc (.bool (decide (a0 ≤ v3.high))))) rfl c4 rfl ?_
        refine AWops.nil ?_
        by_cases c5 : (decide (a0 ≤ v3.high)) = true
        · replace h := (if_pos c5).symm.trans h
          refine AW.cond_yes rfl c5 ?_
          refine AW.seq ?_
          refine AW.region ?_
          refine s_assign (d := (sc (.bool true))) rfl ?_
          refine AWops.nil ?_
          refine AW.ret ?_
          obtain rfl := Option.some.inj h
          exact ⟨_, rfl, (Weak.gen (kk := 0) [] [] rfl rfl (by decide) (by decide) rfl rfl rfl (le_upd (le_top _) (.t (.one .sc))) All2.nil)⟩
        · replace h := (if_neg c5).symm.trans h
          replace c5 := Bool.eq_false_iff.mpr c5
          refine AW.cond_no rfl c5 ?_
          refine AW.skip ?_
          refine AW.region ?_
          refine s_binI (v := (.int .i64 (IntKind.i64.wrap (x1 + 1)))) rfl rfl rfl ?_
          refine s_move (d := (sc (.int .i64 (IntKind.i64.wrap (x1 + 1))))) rfl ?_
          refine AWops.nil ?_
          exact ⟨_, ⟨24, (upd 24 (upd 24 (upd 24 (upd 24 topF 0 (sc (.int .i64 a0))) 7 (D.one (C.p false (.sl a1.length (a1.flatMap e_chars_span))))) 8 (sc (.int .i64 (a1.length : Int)))) 9 (sc (.int .i64 (IntKind.i64.wrap (x1 + 1))))), []⟩, by omega, (Weak.gen (kk := 0) [] [] hx rfl (by decide) (by decide) rfl rfl rfl (le_upd (le_upd (le_upd (le_upd (le_top _) (.t (.one .sc))) (.t (.one .same))) (.t (.one .sc))) (.t (.one .sc))) All2.nil), by omega, IntKind.i64.wrap (x1 + 1), h, rfl⟩
      · replace h := (if_neg c4).symm.trans h
        replace c4 := Bool.eq_false_iff.mpr c4
        refine AWops.guard_no rfl (Nat.le_of_ble_eq_true rfl) rfl c4 ?_
        refine AWops.guard_no rfl (Nat.le_of_ble_eq_true rfl) rfl c4 ?_
        refine AWops.guard_no rfl (Nat.le_of_ble_eq_true rfl) rfl c4 ?_
        refine AWops.guard_no rfl (Nat.le_of_ble_eq_true rfl) rfl c4 ?_
        refine s_pick_no (d := (sc (.bool false))) rfl c4 rfl ?_
        refine AWops.nil ?_
        refine AW.cond_no rfl rfl ?_
        refine AW.skip ?_
        refine AW.region ?_
        refine s_binI (v := (.int .i64 (IntKind.i64.wrap (x1 + 1)))) rfl rfl rfl ?_
        refine s_move (d := (sc (.int .i64 (IntKind.i64.wrap (x1 + 1))))) rfl ?_
        refine AWops.nil ?_
        exact ⟨_, ⟨24, (upd 24 (upd 24 (upd 24 (upd 24 topF 0 (sc (.int .i64 a0))) 7 (D.one (C.p false (.sl a1.length (a1.flatMap e_chars_span))))) 8 (sc (.int .i64 (a1.length : Int)))) 9 (sc (.int .i64 (IntKind.i64.wrap (x1 + 1))))), []⟩, by omega, (Weak.gen (kk := 0) [] [] hx rfl (by decide) (by decide) rfl rfl rfl (le_upd (le_upd (le_upd (le_upd (le_top _) (.t (.one .sc))) (.t (.one .same))) (.t (.one .sc))) (.t (.one .sc))) All2.nil), by omega, IntKind.i64.wrap (x1 + 1), h, rfl⟩
    · replace h := (if_neg c2).symm.trans h
      replace c2 := Bool.eq_false_iff.mpr c2
      refine AW.cond_no rfl c2 ?_
      refine AW.exit ?_
      refine AW.seq ?_
      refine AW.region ?_
      refine s_assign (d := (sc (.bool false))) rfl ?_
      refine AWops.nil ?_
      refine AW.ret ?_
      obtain rfl := Option.some.inj h
      exact ⟨_, rfl, (Weak.gen (kk := 0) [] [] rfl rfl (by decide) (by decide) rfl rfl rfl (le_upd (le_top _) (.t (.one .sc))) All2.nil)⟩
def chars_First.f (k : Nat) (a0 : Int) : Option Bool := if (decide (a0 < 128)) = true then (if (decide ((Go.bits .or .i64 a0 32) ≥ 97)) = true then (if (decide ((Go.bits .or .i64 a0 32) ≤ 122)) = true then (some true) else (some (a0 == 95))) else (some (a0 == 95))) else ((chars_in.f k a0 ([(⟨192, 214⟩ : chars_span), (⟨216, 246⟩ : chars_span), (⟨248, 767⟩ : chars_span), (⟨880, 893⟩ : chars_span), (⟨895, 8191⟩ : chars_span), (⟨8204, 8205⟩ : chars_span), (⟨8304, 8591⟩ : chars_span), (⟨11264, 12271⟩ : chars_span), (⟨12289, 55295⟩ : chars_span), (⟨63744, 64975⟩ : chars_span), (⟨65008, 65533⟩ : chars_span), (⟨65536, 983039⟩ : chars_span)] : List chars_span)).bind fun r4 => some r4)
theorem chars_First.meets (k : Nat) (a0 : Int) (r : Bool) (h : chars_First.f k a0 = some r) : Meets Tryd.prog 9 [(sc (.int .i64 a0))] [] (sc (.bool r)) [] := by
  unfold chars_First.f at h
  refine Meets.of_body (n := 32) Tryd.func9 rfl rfl (Nat.le_of_ble_eq_true rfl) fun x hx => ?_
  replace hx : x.k = 0 := hx
  show AW _ x _ _ ⟨32, fr0 [(sc (.int .i64 a0))], []⟩
  refine AW.seq ?_
  refine AW.region ?_
  refine s_assign (d := (sc (.bool false))) rfl ?_
  refine AWops.nil ?_
  refine AW.seq ?_
  refine AW.seq ?_
  refine AW.region ?_
  refine s_move (d := (sc (.int .i64 a0))) rfl ?_
  refine s_binI (v := (.bool (decide (a0 < 128)))) rfl rfl rfl ?_
  refine AWops.nil ?_
  by_cases c1 : (decide (a0 < 128)) = true
  · replace h := (if_pos c1).symm.trans h
    refine AW.cond_yes rfl c1 ?_
    refine AW.seq ?_
    refine AW.region ?_
    refine s_move (d := (sc (.int .i64 a0))) rfl ?_
    refine s_binI (v := (.int .i64 (Go.bits .or .i64 a0 32))) rfl rfl rfl ?_
    refine s_binI (v := (.bool (decide ((Go.bits .or .i64 a0 32) ≥ 97)))) rfl rfl rfl ?_
    refine s_move (d := (sc (.bool (decide ((Go.bits .or .i64 a0 32) ≥ 97))))) rfl ?_
    by_cases c2 : (decide ((Go.bits .or .i64 a0 32) ≥ 97)) = true
    · replace h := (if_pos c2).symm.trans h
      refine AWops.guard_yes rfl (Nat.le_of_ble_eq_true rfl) rfl c2 ?_
      refine s_move (d := (sc (.int .i64 a0))) rfl ?_
      refine AWops.guard_yes rfl (Nat.le_of_ble_eq_true rfl) rfl c2 ?_
      refine s_binI (v := (.int .i64 (Go.bits .or .i64 a0 32))) rfl rfl rfl ?_
      refine AWops.guard_yes rfl (Nat.le_of_ble_eq_true rfl) rfl c2 ?_
      refine s_binI (v := (.bool (decide ((Go.bits .or .i64 a0 32) ≤ 122)))) rfl rfl rfl ?_
      refine s_pick_yes (d := (sc (.bool (decide ((Go.bits .or .i64 a0 32) ≤ 122))))) rfl c2 rfl ?_
      refine s_move (d := (sc (.bool (decide ((Go.bits .or .i64 a0 32) ≤ 122))))) rfl ?_
      by_cases c3 : (decide ((Go.bits .or .i64 a0 32) ≤ 122)) = true
      · replace h := (if_pos c3).symm.trans h
        refine AWops.guard_no rfl (Nat.le_of_ble_eq_true rfl) rfl c3 ?_
        refine AWops.guard_no rfl (Nat.le_of_ble_eq_true rfl) rfl c3 ?_
        refine s_pick_yes (d := (sc (.bool true))) rfl c3 rfl ?_
        refine s_assign (d := (sc (.bool true))) rfl ?_
        refine AWops.nil ?_
        refine AW.ret ?_
        obtain rfl := Option.some.inj h
        exact ⟨_, rfl, (Weak.gen (kk := 0) [] [] rfl rfl (by decide) (by decide) rfl rfl rfl (le_upd (le_top _) (.t (.one .sc))) All2.nil)⟩
      · replace h := (if_neg c3).symm.trans h
        replace c3 := Bool.eq_false_iff.mpr c3
        refine AWops.guard_yes rfl (Nat.le_of_ble_eq_true rfl) rfl c3 ?_
        refine s_move (d := (sc (.int .i64 a0))) rfl ?_
        refine AWops.guard_yes rfl (Nat.le_of_ble_eq_true rfl) rfl c3 ?_
        refine s_binI (v := (.bool (a0 == 95))) rfl rfl rfl ?_
        refine s_pick_no (d := (sc (.bool (a0 == 95)))) rfl c3 rfl ?_
        refine s_assign (d := (sc (.bool (a0 == 95)))) rfl ?_
        refine AWops.nil ?_
        refine AW.ret ?_
        obtain rfl := Option.some.inj h
        exact ⟨_, rfl, (Weak.gen (kk := 0) [] [] rfl rfl (by decide) (by decide) rfl rfl rfl (le_upd (le_top _) (.t (.one .sc))) All2.nil)⟩
    · replace h := (if_neg c2).symm.trans h
      replace c2 := Bool.eq_false_iff.mpr c2
      refine AWops.guard_no rfl (Nat.le_of_ble_eq_true rfl) rfl c2 ?_
      refine AWops.guard_no rfl (Nat.le_of_ble_eq_true rfl) rfl c2 ?_
      refine AWops.guard_no rfl (Nat.le_of_ble_eq_true rfl) rfl c2 ?_
      refine s_pick_no (d := (sc (.bool false))) rfl c2 rfl ?_
      refine s_move (d := (sc (.bool false))) rfl ?_
      refine AWops.guard_yes rfl (Nat.le_of_ble_eq_true rfl) rfl rfl ?_
      refine s_move (d := (sc (.int .i64 a0))) rfl ?_
      refine AWops.guard_yes rfl (Nat.le_of_ble_eq_true rfl) rfl rfl ?_
      refine s_binI (v := (.bool (a0 == 95))) rfl rfl rfl ?_
      refine s_pick_no (d := (sc (.bool (a0 == 95)))) rfl rfl rfl ?_
      refine s_assign (d := (sc (.bool (a0 == 95)))) rfl ?_
      refine AWops.nil ?_
      refine AW.ret ?_
      obtain rfl := Option.some.inj h
      exact ⟨_, rfl, (Weak.gen (kk := 0) [] [] rfl rfl (by decide) (by decide) rfl rfl rfl (le_upd (le_top _) (.t (.one .sc))) All2.nil)⟩
  · replace h := (if_neg c1).symm.trans h
    replace c1 := Bool.eq_false_iff.mpr c1
    refine AW.cond_no rfl c1 ?_
    refine AW.skip ?_
    refine AW.seq ?_
    refine AW.region ?_
    refine s_move (d := (sc (.int .i64 a0))) rfl ?_
    refine s_build (ps := [(0, (sc (.int .i64 192))), (1, (sc (.int .i64 214)))]) (cs := [(C.p true (.v (.int .i64 192))), (C.p true (.v (.int .i64 214)))]) F.z_41 rfl F.so_41 rfl rfl ?_
    refine s_build (ps := [(0, (sc (.int .i64 216))), (1, (sc (.int .i64 246)))]) (cs := [(C.p true (.v (.int .i64 216))), (C.p true (.v (.int .i64 246)))]) F.z_41 rfl F.so_41 rfl rfl ?_
    refine s_build (ps := [(0, (sc (.int .i64 248))), (1, (sc (.int .i64 767)))]) (cs := [(C.p true (.v (.int .i64 248))), (C.p true (.v (.int .i64 767)))]) F.z_41 rfl F.so_41 rfl rfl ?_
    refine s_build (ps := [(0, (sc (.int .i64 880))), (1, (sc (.int .i64 893)))]) (cs := [(C.p true (.v (.int .i64 880))), (C.p true (.v (.int .i64 893)))]) F.z_41 rfl F.so_41 rfl rfl ?_
    refine s_build (ps := [(0, (sc (.int .i64 895))), (1, (sc (.int .i64 8191)))]) (cs := [(C.p true (.v (.int .i64 895))), (C.p true (.v (.int .i64 8191)))]) F.z_41 rfl F.so_41 rfl rfl ?_
    refine s_build (ps := [(0, (sc (.int .i64 8204))), (1, (sc (.int .i64 8205)))]) (cs := [(C.p true (.v (.int .i64 8204))), (C.p true (.v (.int .i64 8205)))]) F.z_41 rfl F.so_41 rfl rfl ?_
    refine s_build (ps := [(0, (sc (.int .i64 8304))), (1, (sc (.int .i64 8591)))]) (cs := [(C.p true (.v (.int .i64 8304))), (C.p true (.v (.int .i64 8591)))]) F.z_41 rfl F.so_41 rfl rfl ?_
    refine s_build (ps := [(0, (sc (.int .i64 11264))), (1, (sc (.int .i64 12271)))]) (cs := [(C.p true (.v (.int .i64 11264))), (C.p true (.v (.int .i64 12271)))]) F.z_41 rfl F.so_41 rfl rfl ?_
    refine s_build (ps := [(0, (sc (.int .i64 12289))), (1, (sc (.int .i64 55295)))]) (cs := [(C.p true (.v (.int .i64 12289))), (C.p true (.v (.int .i64 55295)))]) F.z_41 rfl F.so_41 rfl rfl ?_
    refine s_build (ps := [(0, (sc (.int .i64 63744))), (1, (sc (.int .i64 64975)))]) (cs := [(C.p true (.v (.int .i64 63744))), (C.p true (.v (.int .i64 64975)))]) F.z_41 rfl F.so_41 rfl rfl ?_
    refine s_build (ps := [(0, (sc (.int .i64 65008))), (1, (sc (.int .i64 65533)))]) (cs := [(C.p true (.v (.int .i64 65008))), (C.p true (.v (.int .i64 65533)))]) F.z_41 rfl F.so_41 rfl rfl ?_
    refine s_build (ps := [(0, (sc (.int .i64 65536))), (1, (sc (.int .i64 983039)))]) (cs := [(C.p true (.v (.int .i64 65536))), (C.p true (.v (.int .i64 983039)))]) F.z_41 rfl F.so_41 rfl rfl ?_
    refine s_buildSlice (n := 12) (ps := [(0, (D.agg [(C.p true (.v (.int .i64 192))), (C.p true (.v (.int .i64 214)))])), (1, (D.agg [(C.p true (.v (.int .i64 216))), (C.p true (.v (.int .i64 246)))])), (2, (D.agg [(C.p true (.v (.int .i64 248))), (C.p true (.v (.int .i64 767)))])), (3, (D.agg [(C.p true (.v (.int .i64 880))), (C.p true (.v (.int .i64 893)))])), (4, (D.agg [(C.p true (.v (.int .i64 895))), (C.p true (.v (.int .i64 8191)))])), (5, (D.agg [(C.p true (.v (.int .i64 8204))), (C.p true (.v (.int .i64 8205)))])), (6, (D.agg [(C.p true (.v (.int .i64 8304))), (C.p true (.v (.int .i64 8591)))])), (7, (D.agg [(C.p true (.v (.int .i64 11264))), (C.p true (.v (.int .i64 12271)))])), (8, (D.agg [(C.p true (.v (.int .i64 12289))), (C.p true (.v (.int .i64 55295)))])), (9, (D.agg [(C.p true (.v (.int .i64 63744))), (C.p true (.v (.int .i64 64975)))])), (10, (D.agg [(C.p true (.v (.int .i64 65008))), (C.p true (.v (.int .i64 65533)))])), (11, (D.agg [(C.p true (.v (.int .i64 65536))), (C.p true (.v (.int .i64 983039)))]))]) (cs := rowC e_chars_span ([(⟨192, 214⟩ : chars_span), (⟨216, 246⟩ : chars_span), (⟨248, 767⟩ : chars_span), (⟨880, 893⟩ : chars_span), (⟨895, 8191⟩ : chars_span), (⟨8204, 8205⟩ : chars_span), (⟨8304, 8591⟩ : chars_span), (⟨11264, 12271⟩ : chars_span), (⟨12289, 55295⟩ : chars_span), (⟨63744, 64975⟩ : chars_span), (⟨65008, 65533⟩ : chars_span), (⟨65536, 983039⟩ : chars_span)] : List chars_span)) F.u_42 F.sz_41 F.z_41 rfl rfl (by decide) (by decide) rfl rfl ?_
    obtain ⟨r4, er4, h⟩ := Option.bind_eq_some_iff.mp h
    refine s_call2 (ρ := []) (br := true) (H2 := [(some (AObj.cells true (rowC e_chars_span ([(⟨192, 214⟩ : chars_span), (⟨216, 246⟩ : chars_span), (⟨248, 767⟩ : chars_span), (⟨880, 893⟩ : chars_span), (⟨895, 8191⟩ : chars_span), (⟨8204, 8205⟩ : chars_span), (⟨8304, 8591⟩ : chars_span), (⟨11264, 12271⟩ : chars_span), (⟨12289, 55295⟩ : chars_span), (⟨63744, 64975⟩ : chars_span), (⟨65008, 65533⟩ : chars_span), (⟨65536, 983039⟩ : chars_span)] : List chars_span))))]) (d := (sc (.bool r4))) F.ca_27 rfl rfl (All2.cons (.one .sc) (All2.cons (.one (LendC.bor e_chars_span_len rfl rfl rfl)) All2.nil)) All2.nil (by decide) rfl (chars_in.meets _ a0 ([(⟨192, 214⟩ : chars_span), (⟨216, 246⟩ : chars_span), (⟨248, 767⟩ : chars_span), (⟨880, 893⟩ : chars_span), (⟨895, 8191⟩ : chars_span), (⟨8204, 8205⟩ : chars_span), (⟨8304, 8591⟩ : chars_span), (⟨11264, 12271⟩ : chars_span), (⟨12289, 55295⟩ : chars_span), (⟨63744, 64975⟩ : chars_span), (⟨65008, 65533⟩ : chars_span), (⟨65536, 983039⟩ : chars_span)] : List chars_span) r4 er4) (.inr ⟨rfl, rfl⟩) rfl rfl ?_
    refine s_assign (d := (sc (.bool r4))) rfl ?_
    refine AWops.nil ?_
    refine AW.ret ?_
    obtain rfl := Option.some.inj h
    exact ⟨_, rfl, (Weak.gen (kk := 0) [] [] rfl rfl (by decide) (by decide) rfl rfl rfl (le_upd (le_top _) (.t (.one .sc))) All2.nil)⟩
mutual
def dossierref01_within.l0 : Nat → Int → Int → (List Int) → Option Bool
  | 0, _, _, _ => none
  | k + 1, x1, a0, a1 => if (decide ((IntKind.i64.wrap (x1 + 1)) < (a1.length : Int))) = true then ((rd a1 x1).bind fun v3 => if (decide (a0 ≥ v3)) = true then ((rd a1 (IntKind.i64.wrap (x1 + 1))).bind fun v5 => if (decide (a0 ≤ v5)) = true then (some true) else (dossierref01_within.l0 k (IntKind.i64.wrap (x1 + 2)) a0 a1)) else (dossierref01_within.l0 k (IntKind.i64.wrap (x1 + 2)) a0 a1)) else (some false)
end
def dossierref01_within.f (k : Nat) (a0 : Int) (a1 : List Int) : Option Bool := dossierref01_within.l0 k 0 a0 a1
theorem dossierref01_within.meets (k : Nat) (a0 : Int) (a1 : List Int) (r : Bool) (h : dossierref01_within.f k a0 a1 = some r) : Meets Tryd.prog 28 [(sc (.int .i64 a0)), (D.one (C.p false (.sl a1.length (a1.flatMap e_i64))))] [] (sc (.bool r)) [] := by
  unfold dossierref01_within.f at h
  refine Meets.of_body (n := 28) Tryd.func28 rfl rfl (Nat.le_of_ble_eq_true rfl) fun x hx => ?_
  replace hx : x.k = 0 := hx
  show AW _ x _ _ ⟨28, fr0 [(sc (.int .i64 a0)), (D.one (C.p false (.sl a1.length (a1.flatMap e_i64))))], []⟩
  refine AW.seq ?_
  refine AW.region ?_
  refine s_assign (d := (sc (.bool false))) rfl ?_
  refine AWops.nil ?_
  refine AW.seq ?_
  refine AW.seq ?_
  refine AW.region ?_
  refine s_assign (d := (sc (.int .i64 0))) rfl ?_
  refine AWops.nil ?_
  refine AW.block ?_
  refine AW.loopw (st0 := ⟨28, (upd 28 (upd 28 (upd 28 topF 0 (sc (.int .i64 a0))) 1 (D.one (C.p false (.sl a1.length (a1.flatMap e_i64))))) 5 (sc (.int .i64 0))), []⟩) (fun kv st => kv ≤ k ∧ ∃ (x1 : Int), dossierref01_within.l0 kv x1 a0 a1 = some r ∧ st = ⟨28, (upd 28 (upd 28 (upd 28 topF 0 (sc (.int .i64 a0))) 1 (D.one (C.p false (.sl a1.length (a1.flatMap e_i64))))) 5 (sc (.int .i64 x1))), []⟩) (k := k) (Weak.gen (kk := 0) [] [] hx rfl (by decide) (by decide) rfl rfl rfl (le_upd (le_upd (le_upd (le_top _) (.t (.one .sc))) (.t (.one .same))) (.t (.one .sc))) All2.nil) ⟨Nat.le_refl _, 0, h, rfl⟩ ?_
  rintro ql0 st ⟨hkl0, x1, h, rfl⟩
  cases ql0 with
  | zero => exact absurd h (by simp [dossierref01_within.l0])
  | succ ql0 =>
    replace h := (dossierref01_within.l0.eq_2 _ _ _ _).symm.trans h
    refine AW.seq ?_
    refine AW.seq ?_
    refine AW.region ?_
    refine s_move (d := (sc (.int .i64 x1))) rfl ?_
    refine s_binI (v := (.int .i64 (IntKind.i64.wrap (x1 + 1)))) rfl rfl rfl ?_
    refine s_move (d := (D.one (C.p false (.sl a1.length (a1.flatMap e_i64))))) rfl ?_
    refine s_len (n := a1.length) F.u_44 rfl (.inr ⟨(fun _ _ h => by cases h), ⟨_, rfl⟩⟩) ?_
    refine s_binI (v := (.bool (decide ((IntKind.i64.wrap (x1 + 1)) < (a1.length : Int))))) rfl rfl rfl ?_
    refine AWops.nil ?_
    by_cases c2 : (decide ((IntKind.i64.wrap (x1 + 1)) < (a1.length : Int))) = true
    · replace h := (if_pos c2).symm.trans h
      refine AW.cond_yes rfl c2 ?_
      refine AW.skip ?_
      refine AW.seq ?_
      refine AW.block ?_
      refine AW.seq ?_
      refine AW.region ?_
      refine s_move (d := (sc (.int .i64 a0))) rfl ?_
      refine s_move (d := (D.one (C.p false (.sl a1.length (a1.flatMap e_i64))))) rfl ?_
      refine s_move (d := (sc (.int .i64 x1))) rfl ?_
      obtain ⟨v3, ev3, h⟩ := Option.bind_eq_some_iff.mp h
      obtain ⟨pv3, qv3, gv3⟩ := rd_some ev3
      refine s_indexImm (ps := [P.v (.int .i64 v3)]) F.u_44 F.sz_3 rfl rfl pv3 qv3 (flat_at e_i64_len gv3 (e_i64_eq v3)) ?_
      refine s_load1 (c' := (C.p true (.v (.int .i64 v3)))) F.ag_3 rfl rfl ?_
      refine s_binI (v := (.bool (decide (a0 ≥ v3)))) rfl rfl rfl ?_
      refine s_move (d := (sc (.bool (decide (a0 ≥ v3))))) rfl ?_
      by_cases c4 : (decide (a0 ≥ v3)) = true
      · replace h := (if_pos c4).symm.trans h
        refine AWops.guard_yes rfl (Nat.le_of_ble_eq_true rfl) rfl c4 ?_
        refine s_move (d := (sc (.int .i64 a0))) rfl ?_
        refine AWops.guard_yes rfl (Nat.le_of_ble_eq_true rfl) rfl c4 ?_
        refine s_move (d := (D.one (C.p false (.sl a1.length (a1.flatMap e_i64))))) rfl ?_
        refine AWops.guard_yes rfl (Nat.le_of_ble_eq_true rfl) rfl c4 ?_
        refine s_move (d := (sc (.int .i64 x1))) rfl ?_
        refine AWops.guard_yes rfl (Nat.le_of_ble_eq_true rfl) rfl c4 ?_
        refine s_binI (v := (.int .i64 (IntKind.i64.wrap (x1 + 1)))) rfl rfl rfl ?_
        refine AWops.guard_yes rfl (Nat.le_of_ble_eq_true rfl) rfl c4 ?_
        obtain ⟨v5, ev5, h⟩ := Option.bind_eq_some_iff.mp h
        obtain ⟨pv5, qv5, gv5⟩ := rd_some ev5
        refine s_indexImm (ps := [P.v (.int .i64 v5)]) F.u_44 F.sz_3 rfl rfl pv5 qv5 (flat_at e_i64_len gv5 (e_i64_eq v5)) ?_
        refine AWops.guard_yes rfl (Nat.le_of_ble_eq_true rfl) rfl c4 ?_
        refine s_load1 (c' := (C.p true (.v (.int .i64 v5)))) F.ag_3 rfl rfl ?_
        refine AWops.guard_yes rfl (Nat.le_of_ble_eq_true rfl) rfl c4 ?_
        refine s_binI (v := (.bool (decide (a0 ≤ v5)))) rfl rfl rfl ?_
        refine s_pick_yes (d := (sc (.bool (decide (a0 ≤ v5))))) rfl c4 rfl ?_
        refine AWops.nil ?_
        by_cases c6 : (decide (a0 ≤ v5)) = true
        · replace h := (if_pos c6).symm.trans h
          refine AW.cond_yes rfl c6 ?_
          refine AW.seq ?_
          refine AW.region ?_
          refine s_assign (d := (sc (.bool true))) rfl ?_
          refine AWops.nil ?_
          refine AW.ret ?_
          obtain rfl := Option.some.inj h
          exact ⟨_, rfl, (Weak.gen (kk := 0) [] [] rfl rfl (by decide) (by decide) rfl rfl rfl (le_upd (le_top _) (.t (.one .sc))) All2.nil)⟩
        · replace h := (if_neg c6).symm.trans h
          replace c6 := Bool.eq_false_iff.mpr c6
          refine AW.cond_no rfl c6 ?_
          refine AW.skip ?_
          refine AW.region ?_
          refine s_move (d := (sc (.int .i64 x1))) rfl ?_
          refine s_binI (v := (.int .i64 (IntKind.i64.wrap (x1 + 2)))) rfl rfl rfl ?_
          refine s_assign (d := (sc (.int .i64 (IntKind.i64.wrap (x1 + 2))))) rfl ?_
          refine AWops.nil ?_
          exact ⟨_, ⟨28, (upd 28 (upd 28 (upd 28 topF 0 (sc (.int .i64 a0))) 1 (D.one (C.p false (.sl a1.length (a1.flatMap e_i64))))) 5 (sc (.int .i64 (IntKind.i64.wrap (x1 + 2))))), []⟩, by omega, (Weak.gen (kk := 0) [] [] hx rfl (by decide) (by decide) rfl rfl rfl (le_upd (le_upd (le_upd (le_top _) (.t (.one .sc))) (.t (.one .same))) (.t (.one .sc))) All2.nil), by omega, IntKind.i64.wrap (x1 + 2), h, rfl⟩
      · replace h := (if_neg c4).symm.trans h
        replace c4 := Bool.eq_false_iff.mpr c4
        refine AWops.guard_no rfl (Nat.le_of_ble_eq_true rfl) rfl c4 ?_
        refine AWops.guard_no rfl (Nat.le_of_ble_eq_true rfl) rfl c4 ?_
        refine AWops.guard_no rfl (Nat.le_of_ble_eq_true rfl) rfl c4 ?_
        refine AWops.guard_no rfl (Nat.le_of_ble_eq_true rfl) rfl c4 ?_
        refine AWops.guard_no rfl (Nat.le_of_ble_eq_true rfl) rfl c4 ?_
        refine AWops.guard_no rfl (Nat.le_of_ble_eq_true rfl) rfl c4 ?_
        refine AWops.guard_no rfl (Nat.le_of_ble_eq_true rfl) rfl c4 ?_
        refine s_pick_no (d := (sc (.bool false))) rfl c4 rfl ?_
        refine AWops.nil ?_
        refine AW.cond_no rfl rfl ?_
        refine AW.skip ?_
        refine AW.region ?_
        refine s_move (d := (sc (.int .i64 x1))) rfl ?_
        refine s_binI (v := (.int .i64 (IntKind.i64.wrap (x1 + 2)))) rfl rfl rfl ?_
        refine s_assign (d := (sc (.int .i64 (IntKind.i64.wrap (x1 + 2))))) rfl ?_
        refine AWops.nil ?_
        exact ⟨_, ⟨28, (upd 28 (upd 28 (upd 28 topF 0 (sc (.int .i64 a0))) 1 (D.one (C.p false (.sl a1.length (a1.flatMap e_i64))))) 5 (sc (.int .i64 (IntKind.i64.wrap (x1 + 2))))), []⟩, by omega, (Weak.gen (kk := 0) [] [] hx rfl (by decide) (by decide) rfl rfl rfl (le_upd (le_upd (le_upd (le_top _) (.t (.one .sc))) (.t (.one .same))) (.t (.one .sc))) All2.nil), by omega, IntKind.i64.wrap (x1 + 2), h, rfl⟩
    · replace h := (if_neg c2).symm.trans h
      replace c2 := Bool.eq_false_iff.mpr c2
      refine AW.cond_no rfl c2 ?_
      refine AW.exit ?_
      refine AW.seq ?_
      refine AW.region ?_
      refine s_assign (d := (sc (.bool false))) rfl ?_
      refine AWops.nil ?_
      refine AW.ret ?_
      obtain rfl := Option.some.inj h
      exact ⟨_, rfl, (Weak.gen (kk := 0) [] [] rfl rfl (by decide) (by decide) rfl rfl rfl (le_upd (le_top _) (.t (.one .sc))) All2.nil)⟩
def dossierref01_First.f (k : Nat) (a0 : Int) : Option Bool := (dossierref01_within.f k a0 ([65, 90, 95, 95, 97, 122, 192, 214, 216, 246, 248, 767, 880, 893, 895, 8191, 8204, 8205, 8304, 8591, 11264, 12271, 12289, 55295, 63744, 64975, 65008, 65533, 65536, 983039] : List Int)).bind fun r1 => some r1
theorem dossierref01_First.meets (k : Nat) (a0 : Int) (r : Bool) (h : dossierref01_First.f k a0 = some r) : Meets Tryd.prog 10 [(sc (.int .i64 a0))] [] (sc (.bool r)) [] := by
  unfold dossierref01_First.f at h
  refine Meets.of_body (n := 6) Tryd.func10 rfl rfl (Nat.le_of_ble_eq_true rfl) fun x hx => ?_
  replace hx : x.k = 0 := hx
  show AW _ x _ _ ⟨6, fr0 [(sc (.int .i64 a0))], []⟩
  refine AW.seq ?_
  refine AW.region ?_
  refine s_assign (d := (sc (.bool false))) rfl ?_
  refine AWops.nil ?_
  refine AW.seq ?_
  refine AW.region ?_
  refine s_move (d := (sc (.int .i64 a0))) rfl ?_
  refine s_buildSlice (n := 30) (ps := [(0, (sc (.int .i64 65))), (1, (sc (.int .i64 90))), (2, (sc (.int .i64 95))), (3, (sc (.int .i64 95))), (4, (sc (.int .i64 97))), (5, (sc (.int .i64 122))), (6, (sc (.int .i64 192))), (7, (sc (.int .i64 214))), (8, (sc (.int .i64 216))), (9, (sc (.int .i64 246))), (10, (sc (.int .i64 248))), (11, (sc (.int .i64 767))), (12, (sc (.int .i64 880))), (13, (sc (.int .i64 893))), (14, (sc (.int .i64 895))), (15, (sc (.int .i64 8191))), (16, (sc (.int .i64 8204))), (17, (sc (.int .i64 8205))), (18, (sc (.int .i64 8304))), (19, (sc (.int .i64 8591))), (20, (sc (.int .i64 11264))), (21, (sc (.int .i64 12271))), (22, (sc (.int .i64 12289))), (23, (sc (.int .i64 55295))), (24, (sc (.int .i64 63744))), (25, (sc (.int .i64 64975))), (26, (sc (.int .i64 65008))), (27, (sc (.int .i64 65533))), (28, (sc (.int .i64 65536))), (29, (sc (.int .i64 983039)))]) (cs := rowC e_i64 ([65, 90, 95, 95, 97, 122, 192, 214, 216, 246, 248, 767, 880, 893, 895, 8191, 8204, 8205, 8304, 8591, 11264, 12271, 12289, 55295, 63744, 64975, 65008, 65533, 65536, 983039] : List Int)) F.u_44 F.sz_3 F.z_3 rfl rfl (by decide) (by decide) rfl rfl ?_
  obtain ⟨r1, er1, h⟩ := Option.bind_eq_some_iff.mp h
  refine s_call2 (ρ := []) (br := true) (H2 := [(some (AObj.cells true (rowC e_i64 ([65, 90, 95, 95, 97, 122, 192, 214, 216, 246, 248, 767, 880, 893, 895, 8191, 8204, 8205, 8304, 8591, 11264, 12271, 12289, 55295, 63744, 64975, 65008, 65533, 65536, 983039] : List Int))))]) (d := (sc (.bool r1))) F.ca_28 rfl rfl (All2.cons (.one .sc) (All2.cons (.one (LendC.bor e_i64_len rfl rfl rfl)) All2.nil)) All2.nil (by decide) rfl (dossierref01_within.meets _ a0 ([65, 90, 95, 95, 97, 122, 192, 214, 216, 246, 248, 767, 880, 893, 895, 8191, 8204, 8205, 8304, 8591, 11264, 12271, 12289, 55295, 63744, 64975, 65008, 65533, 65536, 983039] : List Int) r1 er1) (.inr ⟨rfl, rfl⟩) rfl rfl ?_
  refine s_assign (d := (sc (.bool r1))) rfl ?_
  refine AWops.nil ?_
  refine AW.ret ?_
  obtain rfl := Option.some.inj h
  exact ⟨_, rfl, (Weak.gen (kk := 0) [] [] rfl rfl (by decide) (by decide) rfl rfl rfl (le_upd (le_top _) (.t (.one .sc))) All2.nil)⟩
def chars_Later.f (k : Nat) (a0 : Int) : Option Bool := (chars_First.f k a0).bind fun r1 => if r1 = true then (some true) else (if (a0 == 45) = true then (some true) else (if (a0 == 46) = true then (some true) else (if (a0 == 183) = true then (some true) else ((chars_in.f k a0 ([(⟨48, 57⟩ : chars_span), (⟨768, 879⟩ : chars_span), (⟨8255, 8256⟩ : chars_span)] : List chars_span)).bind fun r6 => some r6))))
theorem chars_Later.meets (k : Nat) (a0 : Int) (r : Bool) (h : chars_Later.f k a0 = some r) : Meets Tryd.prog 11 [(sc (.int .i64 a0))] [] (sc (.bool r)) [] := by
  unfold chars_Later.f at h
  refine Meets.of_body (n := 18) Tryd.func11 rfl rfl (Nat.le_of_ble_eq_true rfl) fun x hx => ?_
  replace hx : x.k = 0 := hx
  show AW _ x _ _ ⟨18, fr0 [(sc (.int .i64 a0))], []⟩
  refine AW.seq ?_
  refine AW.region ?_
  refine s_assign (d := (sc (.bool false))) rfl ?_
  refine AWops.nil ?_
  refine AW.seq ?_
  refine AW.block ?_
  refine AW.seq ?_
  refine AW.seq ?_
  refine AW.region ?_
  refine s_move (d := (sc (.int .i64 a0))) rfl ?_
  obtain ⟨r1, er1, h⟩ := Option.bind_eq_some_iff.mp h
  refine s_call2 (ρ := []) (br := false) (H2 := []) (d := (sc (.bool r1))) F.ca_9 rfl rfl (All2.cons (.one .sc) All2.nil) All2.nil (by decide) rfl (chars_First.meets _ a0 r1 er1) (.inl rfl) rfl rfl ?_
  refine s_assign (d := (sc (.bool r1))) rfl ?_
  refine AWops.nil ?_
  by_cases c2 : r1 = true
  · replace h := (if_pos c2).symm.trans h
    refine AW.cond_yes rfl c2 ?_
    refine AW.skip ?_
    refine AW.cond_yes rfl c2 ?_
    refine AW.seq ?_
    refine AW.region ?_
    refine s_assign (d := (sc (.bool true))) rfl ?_
    refine AWops.nil ?_
    refine AW.ret ?_
    obtain rfl := Option.some.inj h
    exact ⟨_, rfl, (Weak.gen (kk := 0) [] [] rfl rfl (by decide) (by decide) rfl rfl rfl (le_upd (le_top _) (.t (.one .sc))) All2.nil)⟩
  · replace h := (if_neg c2).symm.trans h
    replace c2 := Bool.eq_false_iff.mpr c2
    refine AW.cond_no rfl c2 ?_
    refine AW.seq ?_
    refine AW.region ?_
    refine s_move (d := (sc (.int .i64 a0))) rfl ?_
    refine s_binI (v := (.bool (a0 == 45))) rfl rfl rfl ?_
    refine s_assign (d := (sc (.bool (a0 == 45)))) rfl ?_
    refine AWops.nil ?_
    by_cases c3 : (a0 == 45) = true
    · replace h := (if_pos c3).symm.trans h
      refine AW.cond_yes rfl c3 ?_
      refine AW.skip ?_
      refine AW.cond_yes rfl c3 ?_
      refine AW.seq ?_
      refine AW.region ?_
      refine s_assign (d := (sc (.bool true))) rfl ?_
      refine AWops.nil ?_
      refine AW.ret ?_
      obtain rfl := Option.some.inj h
      exact ⟨_, rfl, (Weak.gen (kk := 0) [] [] rfl rfl (by decide) (by decide) rfl rfl rfl (le_upd (le_top _) (.t (.one .sc))) All2.nil)⟩
    · replace h := (if_neg c3).symm.trans h
      replace c3 := Bool.eq_false_iff.mpr c3
      refine AW.cond_no rfl c3 ?_
      refine AW.seq ?_
      refine AW.region ?_
      refine s_move (d := (sc (.int .i64 a0))) rfl ?_
      refine s_binI (v := (.bool (a0 == 46))) rfl rfl rfl ?_
      refine s_assign (d := (sc (.bool (a0 == 46)))) rfl ?_
      refine AWops.nil ?_
      by_cases c4 : (a0 == 46) = true
      · replace h := (if_pos c4).symm.trans h
        refine AW.cond_yes rfl c4 ?_
        refine AW.skip ?_
        refine AW.cond_yes rfl c4 ?_
        refine AW.seq ?_
        refine AW.region ?_
        refine s_assign (d := (sc (.bool true))) rfl ?_
        refine AWops.nil ?_
        refine AW.ret ?_
        obtain rfl := Option.some.inj h
        exact ⟨_, rfl, (Weak.gen (kk := 0) [] [] rfl rfl (by decide) (by decide) rfl rfl rfl (le_upd (le_top _) (.t (.one .sc))) All2.nil)⟩
      · replace h := (if_neg c4).symm.trans h
        replace c4 := Bool.eq_false_iff.mpr c4
        refine AW.cond_no rfl c4 ?_
        refine AW.region ?_
        refine s_move (d := (sc (.int .i64 a0))) rfl ?_
        refine s_binI (v := (.bool (a0 == 183))) rfl rfl rfl ?_
        refine s_assign (d := (sc (.bool (a0 == 183)))) rfl ?_
        refine AWops.nil ?_
        by_cases c5 : (a0 == 183) = true
        · replace h := (if_pos c5).symm.trans h
          refine AW.cond_yes rfl c5 ?_
          refine AW.seq ?_
          refine AW.region ?_
          refine s_assign (d := (sc (.bool true))) rfl ?_
          refine AWops.nil ?_
          refine AW.ret ?_
          obtain rfl := Option.some.inj h
          exact ⟨_, rfl, (Weak.gen (kk := 0) [] [] rfl rfl (by decide) (by decide) rfl rfl rfl (le_upd (le_top _) (.t (.one .sc))) All2.nil)⟩
        · replace h := (if_neg c5).symm.trans h
          replace c5 := Bool.eq_false_iff.mpr c5
          refine AW.cond_no rfl c5 ?_
          refine AW.skip ?_
          refine AW.seq ?_
          refine AW.region ?_
          refine s_move (d := (sc (.int .i64 a0))) rfl ?_
          refine s_build (ps := [(0, (sc (.int .i64 48))), (1, (sc (.int .i64 57)))]) (cs := [(C.p true (.v (.int .i64 48))), (C.p true (.v (.int .i64 57)))]) F.z_41 rfl F.so_41 rfl rfl ?_
          refine s_build (ps := [(0, (sc (.int .i64 768))), (1, (sc (.int .i64 879)))]) (cs := [(C.p true (.v (.int .i64 768))), (C.p true (.v (.int .i64 879)))]) F.z_41 rfl F.so_41 rfl rfl ?_
          refine s_build (ps := [(0, (sc (.int .i64 8255))), (1, (sc (.int .i64 8256)))]) (cs := [(C.p true (.v (.int .i64 8255))), (C.p true (.v (.int .i64 8256)))]) F.z_41 rfl F.so_41 rfl rfl ?_
          refine s_buildSlice (n := 3) (ps := [(0, (D.agg [(C.p true (.v (.int .i64 48))), (C.p true (.v (.int .i64 57)))])), (1, (D.agg [(C.p true (.v (.int .i64 768))), (C.p true (.v (.int .i64 879)))])), (2, (D.agg [(C.p true (.v (.int .i64 8255))), (C.p true (.v (.int .i64 8256)))]))]) (cs := rowC e_chars_span ([(⟨48, 57⟩ : chars_span), (⟨768, 879⟩ : chars_span), (⟨8255, 8256⟩ : chars_span)] : List chars_span)) F.u_42 F.sz_41 F.z_41 rfl rfl (by decide) (by decide) rfl rfl ?_
          obtain ⟨r6, er6, h⟩ := Option.bind_eq_some_iff.mp h
          refine s_call2 (ρ := []) (br := true) (H2 := [(some (AObj.cells true (rowC e_chars_span ([(⟨48, 57⟩ : chars_span), (⟨768, 879⟩ : chars_span), (⟨8255, 8256⟩ : chars_span)] : List chars_span))))]) (d := (sc (.bool r6))) F.ca_27 rfl rfl (All2.cons (.one .sc) (All2.cons (.one (LendC.bor e_chars_span_len rfl rfl rfl)) All2.nil)) All2.nil (by decide) rfl (chars_in.meets _ a0 ([(⟨48, 57⟩ : chars_span), (⟨768, 879⟩ : chars_span), (⟨8255, 8256⟩ : chars_span)] : List chars_span) r6 er6) (.inr ⟨rfl, rfl⟩) rfl rfl ?_
          refine s_assign (d := (sc (.bool r6))) rfl ?_
          refine AWops.nil ?_
          refine AW.ret ?_
          obtain rfl := Option.some.inj h
          exact ⟨_, rfl, (Weak.gen (kk := 0) [] [] rfl rfl (by decide) (by decide) rfl rfl rfl (le_upd (le_top _) (.t (.one .sc))) All2.nil)⟩
def dossierref01_Later.f (k : Nat) (a0 : Int) : Option Bool := (dossierref01_First.f k a0).bind fun r1 => if r1 = true then (some true) else ((dossierref01_within.f k a0 ([45, 46, 48, 57, 183, 183, 768, 879, 8255, 8256] : List Int)).bind fun r3 => some r3)
theorem dossierref01_Later.meets (k : Nat) (a0 : Int) (r : Bool) (h : dossierref01_Later.f k a0 = some r) : Meets Tryd.prog 12 [(sc (.int .i64 a0))] [] (sc (.bool r)) [] := by
  unfold dossierref01_Later.f at h
  refine Meets.of_body (n := 10) Tryd.func12 rfl rfl (Nat.le_of_ble_eq_true rfl) fun x hx => ?_
  replace hx : x.k = 0 := hx
  show AW _ x _ _ ⟨10, fr0 [(sc (.int .i64 a0))], []⟩
  refine AW.seq ?_
  refine AW.region ?_
  refine s_assign (d := (sc (.bool false))) rfl ?_
  refine AWops.nil ?_
  refine AW.seq ?_
  refine AW.region ?_
  refine s_move (d := (sc (.int .i64 a0))) rfl ?_
  obtain ⟨r1, er1, h⟩ := Option.bind_eq_some_iff.mp h
  refine s_call2 (ρ := []) (br := false) (H2 := []) (d := (sc (.bool r1))) F.ca_10 rfl rfl (All2.cons (.one .sc) All2.nil) All2.nil (by decide) rfl (dossierref01_First.meets _ a0 r1 er1) (.inl rfl) rfl rfl ?_
  refine s_move (d := (sc (.bool r1))) rfl ?_
  by_cases c2 : r1 = true
  · replace h := (if_pos c2).symm.trans h
    refine AWops.guard_no rfl (Nat.le_of_ble_eq_true rfl) rfl c2 ?_
    refine AWops.guard_no rfl (Nat.le_of_ble_eq_true rfl) rfl c2 ?_
    refine AWops.guard_no rfl (Nat.le_of_ble_eq_true rfl) rfl c2 ?_
    refine s_pick_yes (d := (sc (.bool true))) rfl c2 rfl ?_
    refine s_assign (d := (sc (.bool true))) rfl ?_
    refine AWops.nil ?_
    refine AW.ret ?_
    obtain rfl := Option.some.inj h
    exact ⟨_, rfl, (Weak.gen (kk := 0) [] [] rfl rfl (by decide) (by decide) rfl rfl rfl (le_upd (le_top _) (.t (.one .sc))) All2.nil)⟩
  · replace h := (if_neg c2).symm.trans h
    replace c2 := Bool.eq_false_iff.mpr c2
    refine AWops.guard_yes rfl (Nat.le_of_ble_eq_true rfl) rfl c2 ?_
    refine s_move (d := (sc (.int .i64 a0))) rfl ?_
    refine AWops.guard_yes rfl (Nat.le_of_ble_eq_true rfl) rfl c2 ?_
    refine s_buildSlice (n := 10) (ps := [(0, (sc (.int .i64 45))), (1, (sc (.int .i64 46))), (2, (sc (.int .i64 48))), (3, (sc (.int .i64 57))), (4, (sc (.int .i64 183))), (5, (sc (.int .i64 183))), (6, (sc (.int .i64 768))), (7, (sc (.int .i64 879))), (8, (sc (.int .i64 8255))), (9, (sc (.int .i64 8256)))]) (cs := rowC e_i64 ([45, 46, 48, 57, 183, 183, 768, 879, 8255, 8256] : List Int)) F.u_44 F.sz_3 F.z_3 rfl rfl (by decide) (by decide) rfl rfl ?_
    refine AWops.guard_yes rfl (Nat.le_of_ble_eq_true rfl) rfl c2 ?_
    obtain ⟨r3, er3, h⟩ := Option.bind_eq_some_iff.mp h
    refine s_call2 (ρ := []) (br := true) (H2 := [(some (AObj.cells true (rowC e_i64 ([45, 46, 48, 57, 183, 183, 768, 879, 8255, 8256] : List Int))))]) (d := (sc (.bool r3))) F.ca_28 rfl rfl (All2.cons (.one .sc) (All2.cons (.one (LendC.bor e_i64_len rfl rfl rfl)) All2.nil)) All2.nil (by decide) rfl (dossierref01_within.meets _ a0 ([45, 46, 48, 57, 183, 183, 768, 879, 8255, 8256] : List Int) r3 er3) (.inr ⟨rfl, rfl⟩) rfl rfl ?_
    refine s_pick_no (d := (sc (.bool r3))) rfl c2 rfl ?_
    refine s_assign (d := (sc (.bool r3))) rfl ?_
    refine AWops.nil ?_
    refine AW.ret ?_
    obtain rfl := Option.some.inj h
    exact ⟨_, rfl, (Weak.gen (kk := 0) [] [] rfl rfl (by decide) (by decide) rfl rfl rfl (le_upd (le_top _) (.t (.one .sc))) All2.nil)⟩
def utf8_decodeRuneSlow.f (k : Nat) (a0 : List Int) : Option (Int × Int) := if (decide ((a0.length : Int) < 1)) = true then (some (65533, 0)) else ((rd a0 0).bind fun v2 => (rd GX0 v2).bind fun v3 => if (decide (v3 ≥ 240)) = true then ((rd a0 0).bind fun v5 => some (Go.bits .or .i32 (Go.bits .andNot .i32 (IntKind.i32.wrap v5) (Int.fdiv (IntKind.i32.wrap ((IntKind.i32.wrap v3) * 2 ^ 31)) (2 ^ 31))) (Go.bits .and .i32 65533 (Int.fdiv (IntKind.i32.wrap ((IntKind.i32.wrap v3) * 2 ^ 31)) (2 ^ 31))), 1)) else ((rd gx1 (Int.fdiv v3 (2 ^ 4))).bind fun v6 => if (decide ((a0.length : Int) < (IntKind.i64.wrap (Go.bits .and .u8 v3 7)))) = true then (some (65533, 1)) else ((rd a0 1).bind fun v8 => if (decide (v8 < v6.lo)) = true then (some (65533, 1)) else (if (decide (v6.hi < v8)) = true then (some (65533, 1)) else (if (decide ((IntKind.i64.wrap (Go.bits .and .u8 v3 7)) ≤ 2)) = true then (some (Go.bits .or .i32 (IntKind.i32.wrap ((IntKind.i32.wrap (Go.bits .and .u8 v2 31)) * 2 ^ 6)) (IntKind.i32.wrap (Go.bits .and .u8 v8 63)), 2)) else ((rd a0 2).bind fun v12 => if (decide (v12 < 128)) = true then (some (65533, 1)) else (if (decide (191 < v12)) = true then (some (65533, 1)) else (if (decide ((IntKind.i64.wrap (Go.bits .and .u8 v3 7)) ≤ 3)) = true then (some (Go.bits .or .i32 (Go.bits .or .i32 (IntKind.i32.wrap ((IntKind.i32.wrap (Go.bits .and .u8 v2 15)) * 2 ^ 12)) (IntKind.i32.wrap ((IntKind.i32.wrap (Go.bits .and .u8 v8 63)) * 2 ^ 6))) (IntKind.i32.wrap (Go.bits .and .u8 v12 63)), 3)) else ((rd a0 3).bind fun v16 => if (decide (v16 < 128)) = true then (some (65533, 1)) else (if (decide (191 < v16)) = true then (some (65533, 1)) else (some (Go.bits .or .i32 (Go.bits .or .i32 (Go.bits .or .i32 (IntKind.i32.wrap ((IntKind.i32.wrap (Go.bits .and .u8 v2 7)) * 2 ^ 18)) (IntKind.i32.wrap ((IntKind.i32.wrap (Go.bits .and .u8 v8 63)) * 2 ^ 12))) (IntKind.i32.wrap ((IntKind.i32.wrap (Go.bits .and .u8 v12 63)) * 2 ^ 6))) (IntKind.i32.wrap (Go.bits .and .u8 v16 63)), 4))))))))))))
theorem utf8_decodeRuneSlow.meets (k : Nat) (a0 : List Int) (r : Int × Int) (h : utf8_decodeRuneSlow.f k a0 = some r) : Meets Tryd.prog 35 [(D.one (C.p false (.sl a0.length (a0.flatMap e_u8))))] [] (D.tup [(sc (.int .i32 r.1)), (sc (.int .i64 r.2))]) [] := by
  unfold utf8_decodeRuneSlow.f at h
  refine Meets.of_body (n := 122) Tryd.func35 rfl rfl (Nat.le_of_ble_eq_true rfl) fun x hx => ?_
  replace hx : x.k = 0 := hx
  show AW _ x _ _ ⟨122, fr0 [(D.one (C.p false (.sl a0.length (a0.flatMap e_u8))))], []⟩
  refine AW.seq ?_
  refine AW.region ?_
  refine s_assign (d := (sc (.int .i32 0))) rfl ?_
  refine s_assign (d := (sc (.int .i64 0))) rfl ?_
  refine AWops.nil ?_
  refine AW.seq ?_
  refine AW.region ?_
  refine s_move (d := (D.one (C.p false (.sl a0.length (a0.flatMap e_u8))))) rfl ?_
  refine s_len (n := a0.length) F.u_31 rfl (.inr ⟨(fun _ _ h => by cases h), ⟨_, rfl⟩⟩) ?_
  refine s_assign (d := (sc (.int .i64 (a0.length : Int)))) rfl ?_
  refine AWops.nil ?_
  refine AW.seq ?_
  refine AW.seq ?_
  refine AW.region ?_
  refine s_move (d := (sc (.int .i64 (a0.length : Int)))) rfl ?_
  refine s_binI (v := (.bool (decide ((a0.length : Int) < 1)))) rfl rfl rfl ?_
  refine AWops.nil ?_
  by_cases c1 : (decide ((a0.length : Int) < 1)) = true
  · replace h := (if_pos c1).symm.trans h
    refine AW.cond_yes rfl c1 ?_
    refine AW.seq ?_
    refine AW.region ?_
    refine s_assign (d := (sc (.int .i32 65533))) rfl ?_
    refine s_assign (d := (sc (.int .i64 0))) rfl ?_
    refine AWops.nil ?_
    refine AW.ret ?_
    obtain rfl := Option.some.inj h
    exact ⟨_, rfl, (Weak.gen (kk := 0) [] [] rfl rfl (by decide) (by decide) rfl rfl rfl (le_upd (le_top _) (DLe.tup (All2.cons (TLe.one .sc) (All2.cons (TLe.one .sc) All2.nil)))) All2.nil)⟩
  · replace h := (if_neg c1).symm.trans h
    replace c1 := Bool.eq_false_iff.mpr c1
    refine AW.cond_no rfl c1 ?_
    refine AW.skip ?_
    refine AW.seq ?_
    refine AW.region ?_
    refine s_move (d := (D.one (C.p false (.sl a0.length (a0.flatMap e_u8))))) rfl ?_
    obtain ⟨v2, ev2, h⟩ := Option.bind_eq_some_iff.mp h
    obtain ⟨pv2, qv2, gv2⟩ := rd_some ev2
    refine s_indexImm (ps := [P.v (.int .u8 v2)]) F.u_31 F.sz_5 rfl rfl pv2 qv2 (flat_at e_u8_len gv2 (e_u8_eq v2)) ?_
    refine s_load1 (c' := (C.p true (.v (.int .u8 v2)))) F.ag_5 rfl rfl ?_
    refine s_assign (d := (sc (.int .u8 v2))) rfl ?_
    refine AWops.nil ?_
    refine AW.seq ?_
    refine AW.region ?_
    refine s_move (d := (sc (.int .u8 v2))) rfl ?_
    obtain ⟨v3, ev3, h⟩ := Option.bind_eq_some_iff.mp h
    obtain ⟨pv3, qv3, gv3⟩ := rd_some ev3
    refine s_indexPk (ps := [P.v (.int .u8 v3)]) F.u_53 F.sz_5 (G.gl_0 _) rfl pv3 qv3 (flat_at e_u8_len gv3 (e_u8_eq v3)) ?_
    refine s_load1 (c' := (C.p true (.v (.int .u8 v3)))) F.ag_5 rfl rfl ?_
    refine s_assign (d := (sc (.int .u8 v3))) rfl ?_
    refine AWops.nil ?_
    refine AW.seq ?_
    refine AW.seq ?_
    refine AW.region ?_
    refine s_move (d := (sc (.int .u8 v3))) rfl ?_
    refine s_binI (v := (.bool (decide (v3 ≥ 240)))) rfl rfl rfl ?_
    refine AWops.nil ?_
    by_cases c4 : (decide (v3 ≥ 240)) = true
    · replace h := (if_pos c4).symm.trans h
      refine AW.cond_yes rfl c4 ?_
      refine AW.seq ?_
      refine AW.region ?_
      refine s_move (d := (sc (.int .u8 v3))) rfl ?_
      refine s_convI F.u_5 F.u_21 rfl ?_
      refine s_shift (v := (.int .i32 (IntKind.i32.wrap ((IntKind.i32.wrap v3) * 2 ^ 31)))) rfl rfl rfl ?_
      refine s_shift (v := (.int .i32 (Int.fdiv (IntKind.i32.wrap ((IntKind.i32.wrap v3) * 2 ^ 31)) (2 ^ 31)))) rfl rfl rfl ?_
      refine s_assign (d := (sc (.int .i32 (Int.fdiv (IntKind.i32.wrap ((IntKind.i32.wrap v3) * 2 ^ 31)) (2 ^ 31))))) rfl ?_
      refine AWops.nil ?_
      refine AW.seq ?_
      refine AW.region ?_
      refine s_move (d := (D.one (C.p false (.sl a0.length (a0.flatMap e_u8))))) rfl ?_
      obtain ⟨v5, ev5, h⟩ := Option.bind_eq_some_iff.mp h
      obtain ⟨pv5, qv5, gv5⟩ := rd_some ev5
      refine s_indexImm (ps := [P.v (.int .u8 v5)]) F.u_31 F.sz_5 rfl rfl pv5 qv5 (flat_at e_u8_len gv5 (e_u8_eq v5)) ?_
      refine s_load1 (c' := (C.p true (.v (.int .u8 v5)))) F.ag_5 rfl rfl ?_
      refine s_convI F.u_5 F.u_21 rfl ?_
      refine s_move (d := (sc (.int .i32 (Int.fdiv (IntKind.i32.wrap ((IntKind.i32.wrap v3) * 2 ^ 31)) (2 ^ 31))))) rfl ?_
      refine s_binI (v := (.int .i32 (Go.bits .andNot .i32 (IntKind.i32.wrap v5) (Int.fdiv (IntKind.i32.wrap ((IntKind.i32.wrap v3) * 2 ^ 31)) (2 ^ 31))))) rfl rfl rfl ?_
      refine s_move (d := (sc (.int .i32 (Int.fdiv (IntKind.i32.wrap ((IntKind.i32.wrap v3) * 2 ^ 31)) (2 ^ 31))))) rfl ?_
      refine s_binI (v := (.int .i32 (Go.bits .and .i32 65533 (Int.fdiv (IntKind.i32.wrap ((IntKind.i32.wrap v3) * 2 ^ 31)) (2 ^ 31))))) rfl rfl rfl ?_
      refine s_binI (v := (.int .i32 (Go.bits .or .i32 (Go.bits .andNot .i32 (IntKind.i32.wrap v5) (Int.fdiv (IntKind.i32.wrap ((IntKind.i32.wrap v3) * 2 ^ 31)) (2 ^ 31))) (Go.bits .and .i32 65533 (Int.fdiv (IntKind.i32.wrap ((IntKind.i32.wrap v3) * 2 ^ 31)) (2 ^ 31)))))) rfl rfl rfl ?_
      refine s_assign (d := (sc (.int .i32 (Go.bits .or .i32 (Go.bits .andNot .i32 (IntKind.i32.wrap v5) (Int.fdiv (IntKind.i32.wrap ((IntKind.i32.wrap v3) * 2 ^ 31)) (2 ^ 31))) (Go.bits .and .i32 65533 (Int.fdiv (IntKind.i32.wrap ((IntKind.i32.wrap v3) * 2 ^ 31)) (2 ^ 31))))))) rfl ?_
      refine s_assign (d := (sc (.int .i64 1))) rfl ?_
      refine AWops.nil ?_
      refine AW.ret ?_
      obtain rfl := Option.some.inj h
      exact ⟨_, rfl, (Weak.gen (kk := 0) [] [] rfl rfl (by decide) (by decide) rfl rfl rfl (le_upd (le_top _) (DLe.tup (All2.cons (TLe.one .sc) (All2.cons (TLe.one .sc) All2.nil)))) All2.nil)⟩
    · replace h := (if_neg c4).symm.trans h
      replace c4 := Bool.eq_false_iff.mpr c4
      refine AW.cond_no rfl c4 ?_
      refine AW.skip ?_
      refine AW.seq ?_
      refine AW.region ?_
      refine s_move (d := (sc (.int .u8 v3))) rfl ?_
      refine s_binI (v := (.int .u8 (Go.bits .and .u8 v3 7))) rfl rfl rfl ?_
      refine s_convI F.u_5 F.u_3 rfl ?_
      refine s_assign (d := (sc (.int .i64 (IntKind.i64.wrap (Go.bits .and .u8 v3 7))))) rfl ?_
      refine AWops.nil ?_
      refine AW.seq ?_
      refine AW.region ?_
      refine s_move (d := (sc (.int .u8 v3))) rfl ?_
      refine s_shift (v := (.int .u8 (Int.fdiv v3 (2 ^ 4)))) rfl rfl rfl ?_
      obtain ⟨v6, ev6, h⟩ := Option.bind_eq_some_iff.mp h
      obtain ⟨pv6, qv6, gv6⟩ := rd_some ev6
      refine s_indexPk (ps := (p_utf8_acceptRange v6)) F.u_56 F.sz_55 (G.gl_1 _) rfl pv6 qv6 (flat_at e_utf8_acceptRange_len gv6 (e_utf8_acceptRange_eq v6)) ?_
      refine s_loadN (ds := (c_utf8_acceptRange v6)) F.ag_55 F.sz_55 rfl rfl rfl ?_
      refine s_alloc (cs := [(C.p true (.v (.int .u8 0))), (C.p true (.v (.int .u8 0)))]) F.z_55 rfl rfl ?_
      refine s_store (cs' := (c_utf8_acceptRange v6)) rfl rfl rfl (List.cons_ne_nil _ _) rfl F.sz_55 (Nat.le_of_ble_eq_true rfl) rfl ?_
      refine AWops.nil ?_
      refine AW.seq ?_
      refine AW.seq ?_
      refine AW.region ?_
      refine s_move (d := (sc (.int .i64 (a0.length : Int)))) rfl ?_
      refine s_move (d := (sc (.int .i64 (IntKind.i64.wrap (Go.bits .and .u8 v3 7))))) rfl ?_
      refine s_binI (v := (.bool (decide ((a0.length : Int) < (IntKind.i64.wrap (Go.bits .and .u8 v3 7)))))) rfl rfl rfl ?_
      refine AWops.nil ?_
      by_cases c7 : (decide ((a0.length : Int) < (IntKind.i64.wrap (Go.bits .and .u8 v3 7)))) = true
      · replace h := (if_pos c7).symm.trans h
        refine AW.cond_yes rfl c7 ?_
        refine AW.seq ?_
        refine AW.region ?_
        refine s_assign (d := (sc (.int .i32 65533))) rfl ?_
        refine s_assign (d := (sc (.int .i64 1))) rfl ?_
        refine AWops.nil ?_
        refine AW.ret ?_
        obtain rfl := Option.some.inj h
        exact ⟨_, rfl, (Weak.gen (kk := 0) [] [] rfl rfl (by decide) (by decide) rfl rfl rfl (le_upd (le_top _) (DLe.tup (All2.cons (TLe.one .sc) (All2.cons (TLe.one .sc) All2.nil)))) All2.nil)⟩
      · replace h := (if_neg c7).symm.trans h
        replace c7 := Bool.eq_false_iff.mpr c7
        refine AW.cond_no rfl c7 ?_
        refine AW.skip ?_
        refine AW.seq ?_
        refine AW.region ?_
        refine s_move (d := (D.one (C.p false (.sl a0.length (a0.flatMap e_u8))))) rfl ?_
        obtain ⟨v8, ev8, h⟩ := Option.bind_eq_some_iff.mp h
        obtain ⟨pv8, qv8, gv8⟩ := rd_some ev8
        refine s_indexImm (ps := [P.v (.int .u8 v8)]) F.u_31 F.sz_5 rfl rfl pv8 qv8 (flat_at e_u8_len gv8 (e_u8_eq v8)) ?_
        refine s_load1 (c' := (C.p true (.v (.int .u8 v8)))) F.ag_5 rfl rfl ?_
        refine s_assign (d := (sc (.int .u8 v8))) rfl ?_
        refine AWops.nil ?_
        refine AW.seq ?_
        refine AW.seq ?_
        refine AW.region ?_
        refine s_move (d := (sc (.int .u8 v8))) rfl ?_
        refine s_fieldRef F.fo_55_0 (by decide) rfl ?_
        refine s_load1 (c' := (C.p true (.v (.int .u8 v6.lo)))) F.ag_5 rfl rfl ?_
        refine s_binI (v := (.bool (decide (v8 < v6.lo)))) rfl rfl rfl ?_
        refine s_move (d := (sc (.bool (decide (v8 < v6.lo))))) rfl ?_
        by_cases c9 : (decide (v8 < v6.lo)) = true
        · replace h := (if_pos c9).symm.trans h
          refine AWops.guard_no rfl (Nat.le_of_ble_eq_true rfl) rfl c9 ?_
          refine AWops.guard_no rfl (Nat.le_of_ble_eq_true rfl) rfl c9 ?_
          refine AWops.guard_no rfl (Nat.le_of_ble_eq_true rfl) rfl c9 ?_
          refine AWops.guard_no rfl (Nat.le_of_ble_eq_true rfl) rfl c9 ?_
          refine s_pick_yes (d := (sc (.bool true))) rfl c9 rfl ?_
          refine AWops.nil ?_
          refine AW.cond_yes rfl rfl ?_
          refine AW.seq ?_
          refine AW.region ?_
          refine s_assign (d := (sc (.int .i32 65533))) rfl ?_
          refine s_assign (d := (sc (.int .i64 1))) rfl ?_
          refine AWops.nil ?_
          refine AW.ret ?_
          obtain rfl := Option.some.inj h
          exact ⟨_, rfl, (Weak.gen (kk := 0) [] [] rfl rfl (by decide) (by decide) rfl rfl rfl (le_upd (le_top _) (DLe.tup (All2.cons (TLe.one .sc) (All2.cons (TLe.one .sc) All2.nil)))) All2.nil)⟩
        · replace h := (if_neg c9).symm.trans h
          replace c9 := Bool.eq_false_iff.mpr c9
          refine AWops.guard_yes rfl (Nat.le_of_ble_eq_true rfl) rfl c9 ?_
          refine s_fieldRef F.fo_55_1 (by decide) rfl ?_
          refine AWops.guard_yes rfl (Nat.le_of_ble_eq_true rfl) rfl c9 ?_
          refine s_load1 (c' := (C.p true (.v (.int .u8 v6.hi)))) F.ag_5 rfl rfl ?_
          refine AWops.guard_yes rfl (Nat.le_of_ble_eq_true rfl) rfl c9 ?_
          refine s_move (d := (sc (.int .u8 v8))) rfl ?_
          refine AWops.guard_yes rfl (Nat.le_of_ble_eq_true rfl) rfl c9 ?_
          refine s_binI (v := (.bool (decide (v6.hi < v8)))) rfl rfl rfl ?_
          refine s_pick_no (d := (sc (.bool (decide (v6.hi < v8))))) rfl c9 rfl ?_
          refine AWops.nil ?_
          by_cases c10 : (decide (v6.hi < v8)) = true
          · replace h := (if_pos c10).symm.trans h
            refine AW.cond_yes rfl c10 ?_
            refine AW.seq ?_
            refine AW.region ?_
            refine s_assign (d := (sc (.int .i32 65533))) rfl ?_
            refine s_assign (d := (sc (.int .i64 1))) rfl ?_
            refine AWops.nil ?_
            refine AW.ret ?_
            obtain rfl := Option.some.inj h
            exact ⟨_, rfl, (Weak.gen (kk := 0) [] [] rfl rfl (by decide) (by decide) rfl rfl rfl (le_upd (le_top _) (DLe.tup (All2.cons (TLe.one .sc) (All2.cons (TLe.one .sc) All2.nil)))) All2.nil)⟩
          · replace h := (if_neg c10).symm.trans h
            replace c10 := Bool.eq_false_iff.mpr c10
            refine AW.cond_no rfl c10 ?_
            refine AW.skip ?_
            refine AW.seq ?_
            refine AW.seq ?_
            refine AW.region ?_
            refine s_move (d := (sc (.int .i64 (IntKind.i64.wrap (Go.bits .and .u8 v3 7))))) rfl ?_
            refine s_binI (v := (.bool (decide ((IntKind.i64.wrap (Go.bits .and .u8 v3 7)) ≤ 2)))) rfl rfl rfl ?_
            refine AWops.nil ?_
            by_cases c11 : (decide ((IntKind.i64.wrap (Go.bits .and .u8 v3 7)) ≤ 2)) = true
            · replace h := (if_pos c11).symm.trans h
              refine AW.cond_yes rfl c11 ?_
              refine AW.seq ?_
              refine AW.region ?_
              refine s_move (d := (sc (.int .u8 v2))) rfl ?_
              refine s_binI (v := (.int .u8 (Go.bits .and .u8 v2 31))) rfl rfl rfl ?_
              refine s_convI F.u_5 F.u_21 rfl ?_
              refine s_shift (v := (.int .i32 (IntKind.i32.wrap ((IntKind.i32.wrap (Go.bits .and .u8 v2 31)) * 2 ^ 6)))) rfl rfl rfl ?_
              refine s_move (d := (sc (.int .u8 v8))) rfl ?_
              refine s_binI (v := (.int .u8 (Go.bits .and .u8 v8 63))) rfl rfl rfl ?_
              refine s_convI F.u_5 F.u_21 rfl ?_
              refine s_binI (v := (.int .i32 (Go.bits .or .i32 (IntKind.i32.wrap ((IntKind.i32.wrap (Go.bits .and .u8 v2 31)) * 2 ^ 6)) (IntKind.i32.wrap (Go.bits .and .u8 v8 63))))) rfl rfl rfl ?_
              refine s_assign (d := (sc (.int .i32 (Go.bits .or .i32 (IntKind.i32.wrap ((IntKind.i32.wrap (Go.bits .and .u8 v2 31)) * 2 ^ 6)) (IntKind.i32.wrap (Go.bits .and .u8 v8 63)))))) rfl ?_
              refine s_assign (d := (sc (.int .i64 2))) rfl ?_
              refine AWops.nil ?_
              refine AW.ret ?_
              obtain rfl := Option.some.inj h
              exact ⟨_, rfl, (Weak.gen (kk := 0) [] [] rfl rfl (by decide) (by decide) rfl rfl rfl (le_upd (le_top _) (DLe.tup (All2.cons (TLe.one .sc) (All2.cons (TLe.one .sc) All2.nil)))) All2.nil)⟩
            · replace h := (if_neg c11).symm.trans h
              replace c11 := Bool.eq_false_iff.mpr c11
              refine AW.cond_no rfl c11 ?_
              refine AW.skip ?_
              refine AW.seq ?_
              refine AW.region ?_
              refine s_move (d := (D.one (C.p false (.sl a0.length (a0.flatMap e_u8))))) rfl ?_
              obtain ⟨v12, ev12, h⟩ := Option.bind_eq_some_iff.mp h
              obtain ⟨pv12, qv12, gv12⟩ := rd_some ev12
              refine s_indexImm (ps := [P.v (.int .u8 v12)]) F.u_31 F.sz_5 rfl rfl pv12 qv12 (flat_at e_u8_len gv12 (e_u8_eq v12)) ?_
              refine s_load1 (c' := (C.p true (.v (.int .u8 v12)))) F.ag_5 rfl rfl ?_
              refine s_assign (d := (sc (.int .u8 v12))) rfl ?_
              refine AWops.nil ?_
              refine AW.seq ?_
              refine AW.seq ?_
              refine AW.region ?_
              refine s_move (d := (sc (.int .u8 v12))) rfl ?_
              refine s_binI (v := (.bool (decide (v12 < 128)))) rfl rfl rfl ?_
              refine s_move (d := (sc (.bool (decide (v12 < 128))))) rfl ?_
              by_cases c13 : (decide (v12 < 128)) = true
              · replace h := (if_pos c13).symm.trans h
                refine AWops.guard_no rfl (Nat.le_of_ble_eq_true rfl) rfl c13 ?_
                refine AWops.guard_no rfl (Nat.le_of_ble_eq_true rfl) rfl c13 ?_
                refine s_pick_yes (d := (sc (.bool true))) rfl c13 rfl ?_
                refine AWops.nil ?_
                refine AW.cond_yes rfl rfl ?_
                refine AW.seq ?_
                refine AW.region ?_
                refine s_assign (d := (sc (.int .i32 65533))) rfl ?_
                refine s_assign (d := (sc (.int .i64 1))) rfl ?_
                refine AWops.nil ?_
                refine AW.ret ?_
                obtain rfl := Option.some.inj h
                exact ⟨_, rfl, (Weak.gen (kk := 0) [] [] rfl rfl (by decide) (by decide) rfl rfl rfl (le_upd (le_top _) (DLe.tup (All2.cons (TLe.one .sc) (All2.cons (TLe.one .sc) All2.nil)))) All2.nil)⟩
              · replace h := (if_neg c13).symm.trans h
                replace c13 := Bool.eq_false_iff.mpr c13
                refine AWops.guard_yes rfl (Nat.le_of_ble_eq_true rfl) rfl c13 ?_
                refine s_move (d := (sc (.int .u8 v12))) rfl ?_
                refine AWops.guard_yes rfl (Nat.le_of_ble_eq_true rfl) rfl c13 ?_
                refine s_binI (v := (.bool (decide (191 < v12)))) rfl rfl rfl ?_
                refine s_pick_no (d := (sc (.bool (decide (191 < v12))))) rfl c13 rfl ?_
                refine AWops.nil ?_
                by_cases c14 : (decide (191 < v12)) = true
                · replace h := (if_pos c14).symm.trans h
                  refine AW.cond_yes rfl c14 ?_
                  refine AW.seq ?_
                  refine AW.region ?_
                  refine s_assign (d := (sc (.int .i32 65533))) rfl ?_
                  refine s_assign (d := (sc (.int .i64 1))) rfl ?_
                  refine AWops.nil ?_
                  refine AW.ret ?_
                  obtain rfl := Option.some.inj h
                  exact ⟨_, rfl, (Weak.gen (kk := 0) [] [] rfl rfl (by decide) (by decide) rfl rfl rfl (le_upd (le_top _) (DLe.tup (All2.cons (TLe.one .sc) (All2.cons (TLe.one .sc) All2.nil)))) All2.nil)⟩
                · replace h := (if_neg c14).symm.trans h
                  replace c14 := Bool.eq_false_iff.mpr c14
                  refine AW.cond_no rfl c14 ?_
                  refine AW.skip ?_
                  refine AW.seq ?_
                  refine AW.seq ?_
                  refine AW.region ?_
                  refine s_move (d := (sc (.int .i64 (IntKind.i64.wrap (Go.bits .and .u8 v3 7))))) rfl ?_
                  refine s_binI (v := (.bool (decide ((IntKind.i64.wrap (Go.bits .and .u8 v3 7)) ≤ 3)))) rfl rfl rfl ?_
                  refine AWops.nil ?_
                  by_cases c15 : (decide ((IntKind.i64.wrap (Go.bits .and .u8 v3 7)) ≤ 3)) = true
                  · replace h := (if_pos c15).symm.trans h
                    refine AW.cond_yes rfl c15 ?_
                    refine AW.seq ?_
                    refine AW.region ?_
                    refine s_move (d := (sc (.int .u8 v2))) rfl ?_
                    refine s_binI (v := (.int .u8 (Go.bits .and .u8 v2 15))) rfl rfl rfl ?_
                    refine s_convI F.u_5 F.u_21 rfl ?_
                    refine s_shift (v := (.int .i32 (IntKind.i32.wrap ((IntKind.i32.wrap (Go.bits .and .u8 v2 15)) * 2 ^ 12)))) rfl rfl rfl ?_
                    refine s_move (d := (sc (.int .u8 v8))) rfl ?_
                    refine s_binI (v := (.int .u8 (Go.bits .and .u8 v8 63))) rfl rfl rfl ?_
                    refine s_convI F.u_5 F.u_21 rfl ?_
                    refine s_shift (v := (.int .i32 (IntKind.i32.wrap ((IntKind.i32.wrap (Go.bits .and .u8 v8 63)) * 2 ^ 6)))) rfl rfl rfl ?_
                    refine s_binI (v := (.int .i32 (Go.bits .or .i32 (IntKind.i32.wrap ((IntKind.i32.wrap (Go.bits .and .u8 v2 15)) * 2 ^ 12)) (IntKind.i32.wrap ((IntKind.i32.wrap (Go.bits .and .u8 v8 63)) * 2 ^ 6))))) rfl rfl rfl ?_
                    refine s_move (d := (sc (.int .u8 v12))) rfl ?_
                    refine s_binI (v := (.int .u8 (Go.bits .and .u8 v12 63))) rfl rfl rfl ?_
                    refine s_convI F.u_5 F.u_21 rfl ?_
                    refine s_binI (v := (.int .i32 (Go.bits .or .i32 (Go.bits .or .i32 (IntKind.i32.wrap ((IntKind.i32.wrap (Go.bits .and .u8 v2 15)) * 2 ^ 12)) (IntKind.i32.wrap ((IntKind.i32.wrap (Go.bits .and .u8 v8 63)) * 2 ^ 6))) (IntKind.i32.wrap (Go.bits .and .u8 v12 63))))) rfl rfl rfl ?_
                    refine s_assign (d := (sc (.int .i32 (Go.bits .or .i32 (Go.bits .or .i32 (IntKind.i32.wrap ((IntKind.i32.wrap (Go.bits .and .u8 v2 15)) * 2 ^ 12)) (IntKind.i32.wrap ((IntKind.i32.wrap (Go.bits .and .u8 v8 63)) * 2 ^ 6))) (IntKind.i32.wrap (Go.bits .and .u8 v12 63)))))) rfl ?_
                    refine s_assign (d := (sc (.int .i64 3))) rfl ?_
                    refine AWops.nil ?_
                    refine AW.ret ?_
                    obtain rfl := Option.some.inj h
                    exact ⟨_, rfl, (Weak.gen (kk := 0) [] [] rfl rfl (by decide) (by decide) rfl rfl rfl (le_upd (le_top _) (DLe.tup (All2.cons (TLe.one .sc) (All2.cons (TLe.one .sc) All2.nil)))) All2.nil)⟩
                  · replace h := (if_neg c15).symm.trans h
                    replace c15 := Bool.eq_false_iff.mpr c15
                    refine AW.cond_no rfl c15 ?_
                    refine AW.skip ?_
                    refine AW.seq ?_
                    refine AW.region ?_
                    refine s_move (d := (D.one (C.p false (.sl a0.length (a0.flatMap e_u8))))) rfl ?_
                    obtain ⟨v16, ev16, h⟩ := Option.bind_eq_some_iff.mp h
                    obtain ⟨pv16, qv16, gv16⟩ := rd_some ev16
                    refine s_indexImm (ps := [P.v (.int .u8 v16)]) F.u_31 F.sz_5 rfl rfl pv16 qv16 (flat_at e_u8_len gv16 (e_u8_eq v16)) ?_
                    refine s_load1 (c' := (C.p true (.v (.int .u8 v16)))) F.ag_5 rfl rfl ?_
                    refine s_assign (d := (sc (.int .u8 v16))) rfl ?_
                    refine AWops.nil ?_
                    refine AW.seq ?_
                    refine AW.seq ?_
                    refine AW.region ?_
                    refine s_move (d := (sc (.int .u8 v16))) rfl ?_
                    refine s_binI (v := (.bool (decide (v16 < 128)))) rfl rfl rfl ?_
                    refine s_move (d := (sc (.bool (decide (v16 < 128))))) rfl ?_
                    by_cases c17 : (decide (v16 < 128)) = true
                    · replace h := (if_pos c17).symm.trans h
                      refine AWops.guard_no rfl (Nat.le_of_ble_eq_true rfl) rfl c17 ?_
                      refine AWops.guard_no rfl (Nat.le_of_ble_eq_true rfl) rfl c17 ?_
                      refine s_pick_yes (d := (sc (.bool true))) rfl c17 rfl ?_
                      refine AWops.nil ?_
                      refine AW.cond_yes rfl rfl ?_
                      refine AW.seq ?_
                      refine AW.region ?_
                      refine s_assign (d := (sc (.int .i32 65533))) rfl ?_
                      refine s_assign (d := (sc (.int .i64 1))) rfl ?_
                      refine AWops.nil ?_
                      refine AW.ret ?_
                      obtain rfl := Option.some.inj h
                      exact ⟨_, rfl, (Weak.gen (kk := 0) [] [] rfl rfl (by decide) (by decide) rfl rfl rfl (le_upd (le_top _) (DLe.tup (All2.cons (TLe.one .sc) (All2.cons (TLe.one .sc) All2.nil)))) All2.nil)⟩
                    · replace h := (if_neg c17).symm.trans h
                      replace c17 := Bool.eq_false_iff.mpr c17
                      refine AWops.guard_yes rfl (Nat.le_of_ble_eq_true rfl) rfl c17 ?_
                      refine s_move (d := (sc (.int .u8 v16))) rfl ?_
                      refine AWops.guard_yes rfl (Nat.le_of_ble_eq_true rfl) rfl c17 ?_
                      refine s_binI (v := (.bool (decide (191 < v16)))) rfl rfl rfl ?_
                      refine s_pick_no (d := (sc (.bool (decide (191 < v16))))) rfl c17 rfl ?_
                      refine AWops.nil ?_
                      by_cases c18 : (decide (191 < v16)) = true
                      · replace h := (if_pos c18).symm.trans h
                        refine AW.cond_yes rfl c18 ?_
                        refine AW.seq ?_
                        refine AW.region ?_
                        refine s_assign (d := (sc (.int .i32 65533))) rfl ?_
                        refine s_assign (d := (sc (.int .i64 1))) rfl ?_
                        refine AWops.nil ?_
                        refine AW.ret ?_
                        obtain rfl := Option.some.inj h
                        exact ⟨_, rfl, (Weak.gen (kk := 0) [] [] rfl rfl (by decide) (by decide) rfl rfl rfl (le_upd (le_top _) (DLe.tup (All2.cons (TLe.one .sc) (All2.cons (TLe.one .sc) All2.nil)))) All2.nil)⟩
                      · replace h := (if_neg c18).symm.trans h
                        replace c18 := Bool.eq_false_iff.mpr c18
                        refine AW.cond_no rfl c18 ?_
                        refine AW.skip ?_
                        refine AW.seq ?_
                        refine AW.region ?_
                        refine s_move (d := (sc (.int .u8 v2))) rfl ?_
                        refine s_binI (v := (.int .u8 (Go.bits .and .u8 v2 7))) rfl rfl rfl ?_
                        refine s_convI F.u_5 F.u_21 rfl ?_
                        refine s_shift (v := (.int .i32 (IntKind.i32.wrap ((IntKind.i32.wrap (Go.bits .and .u8 v2 7)) * 2 ^ 18)))) rfl rfl rfl ?_
                        refine s_move (d := (sc (.int .u8 v8))) rfl ?_
                        refine s_binI (v := (.int .u8 (Go.bits .and .u8 v8 63))) rfl rfl rfl ?_
                        refine s_convI F.u_5 F.u_21 rfl ?_
                        refine s_shift (v := (.int .i32 (IntKind.i32.wrap ((IntKind.i32.wrap (Go.bits .and .u8 v8 63)) * 2 ^ 12)))) rfl rfl rfl ?_
                        refine s_binI (v := (.int .i32 (Go.bits .or .i32 (IntKind.i32.wrap ((IntKind.i32.wrap (Go.bits .and .u8 v2 7)) * 2 ^ 18)) (IntKind.i32.wrap ((IntKind.i32.wrap (Go.bits .and .u8 v8 63)) * 2 ^ 12))))) rfl rfl rfl ?_
                        refine s_move (d := (sc (.int .u8 v12))) rfl ?_
                        refine s_binI (v := (.int .u8 (Go.bits .and .u8 v12 63))) rfl rfl rfl ?_
                        refine s_convI F.u_5 F.u_21 rfl ?_
                        refine s_shift (v := (.int .i32 (IntKind.i32.wrap ((IntKind.i32.wrap (Go.bits .and .u8 v12 63)) * 2 ^ 6)))) rfl rfl rfl ?_
                        refine s_binI (v := (.int .i32 (Go.bits .or .i32 (Go.bits .or .i32 (IntKind.i32.wrap ((IntKind.i32.wrap (Go.bits .and .u8 v2 7)) * 2 ^ 18)) (IntKind.i32.wrap ((IntKind.i32.wrap (Go.bits .and .u8 v8 63)) * 2 ^ 12))) (IntKind.i32.wrap ((IntKind.i32.wrap (Go.bits .and .u8 v12 63)) * 2 ^ 6))))) rfl rfl rfl ?_
                        refine s_move (d := (sc (.int .u8 v16))) rfl ?_
                        refine s_binI (v := (.int .u8 (Go.bits .and .u8 v16 63))) rfl rfl rfl ?_
                        refine s_convI F.u_5 F.u_21 rfl ?_
                        refine s_binI (v := (.int .i32 (Go.bits .or .i32 (Go.bits .or .i32 (Go.bits .or .i32 (IntKind.i32.wrap ((IntKind.i32.wrap (Go.bits .and .u8 v2 7)) * 2 ^ 18)) (IntKind.i32.wrap ((IntKind.i32.wrap (Go.bits .and .u8 v8 63)) * 2 ^ 12))) (IntKind.i32.wrap ((IntKind.i32.wrap (Go.bits .and .u8 v12 63)) * 2 ^ 6))) (IntKind.i32.wrap (Go.bits .and .u8 v16 63))))) rfl rfl rfl ?_
                        refine s_assign (d := (sc (.int .i32 (Go.bits .or .i32 (Go.bits .or .i32 (Go.bits .or .i32 (IntKind.i32.wrap ((IntKind.i32.wrap (Go.bits .and .u8 v2 7)) * 2 ^ 18)) (IntKind.i32.wrap ((IntKind.i32.wrap (Go.bits .and .u8 v8 63)) * 2 ^ 12))) (IntKind.i32.wrap ((IntKind.i32.wrap (Go.bits .and .u8 v12 63)) * 2 ^ 6))) (IntKind.i32.wrap (Go.bits .and .u8 v16 63)))))) rfl ?_
                        refine s_assign (d := (sc (.int .i64 4))) rfl ?_
                        refine AWops.nil ?_
                        refine AW.ret ?_
                        obtain rfl := Option.some.inj h
                        exact ⟨_, rfl, (Weak.gen (kk := 0) [] [] rfl rfl (by decide) (by decide) rfl rfl rfl (le_upd (le_top _) (DLe.tup (All2.cons (TLe.one .sc) (All2.cons (TLe.one .sc) All2.nil)))) All2.nil)⟩
def utf8_DecodeRune.f (k : Nat) (a0 : List Int) : Option (Int × Int) := if (decide (0 < (a0.length : Int))) = true then ((rd a0 0).bind fun v2 => if (decide (v2 < 128)) = true then (some (IntKind.i32.wrap v2, 1)) else ((utf8_decodeRuneSlow.f k a0).bind fun r4 => some (r4.1, r4.2))) else ((utf8_decodeRuneSlow.f k a0).bind fun r5 => some (r5.1, r5.2))
theorem utf8_DecodeRune.meets (k : Nat) (a0 : List Int) (r : Int × Int) (h : utf8_DecodeRune.f k a0 = some r) : Meets Tryd.prog 30 [(D.one (C.p false (.sl a0.length (a0.flatMap e_u8))))] [] (D.tup [(sc (.int .i32 r.1)), (sc (.int .i64 r.2))]) [] := by
  unfold utf8_DecodeRune.f at h
  refine Meets.of_body (n := 22) Tryd.func30 rfl rfl (Nat.le_of_ble_eq_true rfl) fun x hx => ?_
  replace hx : x.k = 0 := hx
  show AW _ x _ _ ⟨22, fr0 [(D.one (C.p false (.sl a0.length (a0.flatMap e_u8))))], []⟩
  refine AW.seq ?_
  refine AW.region ?_
  refine s_assign (d := (sc (.int .i32 0))) rfl ?_
  refine s_assign (d := (sc (.int .i64 0))) rfl ?_
  refine AWops.nil ?_
  refine AW.seq ?_
  refine AW.seq ?_
  refine AW.region ?_
  refine s_move (d := (D.one (C.p false (.sl a0.length (a0.flatMap e_u8))))) rfl ?_
  refine s_len (n := a0.length) F.u_31 rfl (.inr ⟨(fun _ _ h => by cases h), ⟨_, rfl⟩⟩) ?_
  refine s_move (d := (sc (.int .i64 0))) rfl ?_
  refine AWops.nil ?_
  refine AW.block ?_
  refine AW.unroll 9 ?_
  refine U.step ?_
  refine AW.seq ?_
  refine AW.region ?_
  refine s_binI (v := (.bool (decide (0 < (a0.length : Int))))) rfl rfl rfl ?_
  refine AWops.nil ?_
  refine AW.seq ?_
  by_cases c1 : (decide (0 < (a0.length : Int))) = true
  · replace h := (if_pos c1).symm.trans h
    refine AW.cond_yes rfl c1 ?_
    refine AW.skip ?_
    refine AW.seq ?_
    refine AW.block ?_
    refine AW.seq ?_
    refine AW.region ?_
    obtain ⟨v2, ev2, h⟩ := Option.bind_eq_some_iff.mp h
    obtain ⟨pv2, qv2, gv2⟩ := rd_some ev2
    refine s_indexImm (ps := [P.v (.int .u8 v2)]) F.u_31 F.sz_5 rfl rfl pv2 qv2 (flat_at e_u8_len gv2 (e_u8_eq v2)) ?_
    refine s_load1 (c' := (C.p true (.v (.int .u8 v2)))) F.ag_5 rfl rfl ?_
    refine s_assign (d := (sc (.int .u8 v2))) rfl ?_
    refine AWops.nil ?_
    refine AW.seq ?_
    refine AW.seq ?_
    refine AW.region ?_
    refine s_move (d := (sc (.int .u8 v2))) rfl ?_
    refine s_binI (v := (.bool (decide (v2 < 128)))) rfl rfl rfl ?_
    refine AWops.nil ?_
    by_cases c3 : (decide (v2 < 128)) = true
    · replace h := (if_pos c3).symm.trans h
      refine AW.cond_yes rfl c3 ?_
      refine AW.seq ?_
      refine AW.region ?_
      refine s_move (d := (sc (.int .u8 v2))) rfl ?_
      refine s_convI F.u_5 F.u_21 rfl ?_
      refine s_assign (d := (sc (.int .i32 (IntKind.i32.wrap v2)))) rfl ?_
      refine s_assign (d := (sc (.int .i64 1))) rfl ?_
      refine AWops.nil ?_
      refine AW.ret ?_
      obtain rfl := Option.some.inj h
      exact ⟨_, rfl, (Weak.gen (kk := 0) [] [] rfl rfl (by decide) (by decide) rfl rfl rfl (le_upd (le_top _) (DLe.tup (All2.cons (TLe.one .sc) (All2.cons (TLe.one .sc) All2.nil)))) All2.nil)⟩
    · replace h := (if_neg c3).symm.trans h
      replace c3 := Bool.eq_false_iff.mpr c3
      refine AW.cond_no rfl c3 ?_
      refine AW.skip ?_
      refine AW.exit ?_
      refine AW.seq ?_
      refine AW.region ?_
      refine s_move (d := (D.one (C.p false (.sl a0.length (a0.flatMap e_u8))))) rfl ?_
      obtain ⟨r4, er4, h⟩ := Option.bind_eq_some_iff.mp h
      refine s_call2 (ρ := []) (br := false) (H2 := []) (d := (D.tup [(sc (.int .i32 r4.1)), (sc (.int .i64 r4.2))])) F.ca_35 rfl rfl (All2.cons (.one .imm) All2.nil) All2.nil (by decide) rfl (utf8_decodeRuneSlow.meets _ a0 r4 er4) (.inl rfl) rfl rfl ?_
      refine s_move (d := (D.tup [(sc (.int .i32 r4.1)), (sc (.int .i64 r4.2))])) rfl ?_
      refine s_extract (d := (sc (.int .i32 r4.1))) rfl rfl ?_
      refine s_extract (d := (sc (.int .i64 r4.2))) rfl rfl ?_
      refine s_assign (d := (sc (.int .i32 r4.1))) rfl ?_
      refine s_assign (d := (sc (.int .i64 r4.2))) rfl ?_
      refine AWops.nil ?_
      refine AW.ret ?_
      obtain rfl := Option.some.inj h
      exact ⟨_, rfl, (Weak.gen (kk := 0) [] [] rfl rfl (by decide) (by decide) rfl rfl rfl (le_upd (le_top _) (DLe.tup (All2.cons (TLe.one .sc) (All2.cons (TLe.one .sc) All2.nil)))) All2.nil)⟩
  · replace h := (if_neg c1).symm.trans h
    replace c1 := Bool.eq_false_iff.mpr c1
    refine AW.cond_no rfl c1 ?_
    refine AW.exit ?_
    refine AW.seq ?_
    refine AW.region ?_
    refine s_move (d := (D.one (C.p false (.sl a0.length (a0.flatMap e_u8))))) rfl ?_
    obtain ⟨r5, er5, h⟩ := Option.bind_eq_some_iff.mp h
    refine s_call2 (ρ := []) (br := false) (H2 := []) (d := (D.tup [(sc (.int .i32 r5.1)), (sc (.int .i64 r5.2))])) F.ca_35 rfl rfl (All2.cons (.one .imm) All2.nil) All2.nil (by decide) rfl (utf8_decodeRuneSlow.meets _ a0 r5 er5) (.inl rfl) rfl rfl ?_
    refine s_move (d := (D.tup [(sc (.int .i32 r5.1)), (sc (.int .i64 r5.2))])) rfl ?_
    refine s_extract (d := (sc (.int .i32 r5.1))) rfl rfl ?_
    refine s_extract (d := (sc (.int .i64 r5.2))) rfl rfl ?_
    refine s_assign (d := (sc (.int .i32 r5.1))) rfl ?_
    refine s_assign (d := (sc (.int .i64 r5.2))) rfl ?_
    refine AWops.nil ?_
    refine AW.ret ?_
    obtain rfl := Option.some.inj h
    exact ⟨_, rfl, (Weak.gen (kk := 0) [] [] rfl rfl (by decide) (by decide) rfl rfl rfl (le_upd (le_top _) (DLe.tup (All2.cons (TLe.one .sc) (All2.cons (TLe.one .sc) All2.nil)))) All2.nil)⟩
def chars_Decode.f (k : Nat) (a0 : List Int) : Option (Int × Int) := (utf8_DecodeRune.f k a0).bind fun r1 => if (r1.1 == 65533) = true then (if (decide (r1.2 ≤ 1)) = true then (some (0, 0)) else (some (IntKind.i64.wrap r1.1, r1.2))) else (some (IntKind.i64.wrap r1.1, r1.2))
theorem chars_Decode.meets (k : Nat) (a0 : List Int) (r : Int × Int) (h : chars_Decode.f k a0 = some r) : Meets Tryd.prog 20 [(D.one (C.p false (.sl a0.length (a0.flatMap e_u8))))] [] (D.tup [(sc (.int .i64 r.1)), (sc (.int .i64 r.2))]) [] := by
  unfold chars_Decode.f at h
  refine Meets.of_body (n := 20) Tryd.func20 rfl rfl (Nat.le_of_ble_eq_true rfl) fun x hx => ?_
  replace hx : x.k = 0 := hx
  show AW _ x _ _ ⟨20, fr0 [(D.one (C.p false (.sl a0.length (a0.flatMap e_u8))))], []⟩
  refine AW.seq ?_
  refine AW.region ?_
  refine s_assign (d := (sc (.int .i64 0))) rfl ?_
  refine s_assign (d := (sc (.int .i64 0))) rfl ?_
  refine AWops.nil ?_
  refine AW.seq ?_
  refine AW.region ?_
  refine s_move (d := (D.one (C.p false (.sl a0.length (a0.flatMap e_u8))))) rfl ?_
  obtain ⟨r1, er1, h⟩ := Option.bind_eq_some_iff.mp h
  refine s_call2 (ρ := []) (br := false) (H2 := []) (d := (D.tup [(sc (.int .i32 r1.1)), (sc (.int .i64 r1.2))])) F.ca_30 rfl rfl (All2.cons (.one .imm) All2.nil) All2.nil (by decide) rfl (utf8_DecodeRune.meets _ a0 r1 er1) (.inl rfl) rfl rfl ?_
  refine s_move (d := (D.tup [(sc (.int .i32 r1.1)), (sc (.int .i64 r1.2))])) rfl ?_
  refine s_extract (d := (sc (.int .i32 r1.1))) rfl rfl ?_
  refine s_extract (d := (sc (.int .i64 r1.2))) rfl rfl ?_
  refine s_assign (d := (sc (.int .i32 r1.1))) rfl ?_
  refine s_assign (d := (sc (.int .i64 r1.2))) rfl ?_
  refine AWops.nil ?_
  refine AW.seq ?_
  refine AW.seq ?_
  refine AW.region ?_
  refine s_move (d := (sc (.int .i32 r1.1))) rfl ?_
  refine s_binI (v := (.bool (r1.1 == 65533))) rfl rfl rfl ?_
  refine s_move (d := (sc (.bool (r1.1 == 65533)))) rfl ?_
  by_cases c2 : (r1.1 == 65533) = true
  · replace h := (if_pos c2).symm.trans h
    refine AWops.guard_yes rfl (Nat.le_of_ble_eq_true rfl) rfl c2 ?_
    refine s_move (d := (sc (.int .i64 r1.2))) rfl ?_
    refine AWops.guard_yes rfl (Nat.le_of_ble_eq_true rfl) rfl c2 ?_
    refine s_binI (v := (.bool (decide (r1.2 ≤ 1)))) rfl rfl rfl ?_
    refine s_pick_yes (d := (sc (.bool (decide (r1.2 ≤ 1))))) rfl c2 rfl ?_
    refine AWops.nil ?_
    by_cases c3 : (decide (r1.2 ≤ 1)) = true
    · replace h := (if_pos c3).symm.trans h
      refine AW.cond_yes rfl c3 ?_
      refine AW.seq ?_
      refine AW.region ?_
      refine s_assign (d := (sc (.int .i64 0))) rfl ?_
      refine s_assign (d := (sc (.int .i64 0))) rfl ?_
      refine AWops.nil ?_
      refine AW.ret ?_
      obtain rfl := Option.some.inj h
      exact ⟨_, rfl, (Weak.gen (kk := 0) [] [] rfl rfl (by decide) (by decide) rfl rfl rfl (le_upd (le_top _) (DLe.tup (All2.cons (TLe.one .sc) (All2.cons (TLe.one .sc) All2.nil)))) All2.nil)⟩
    · replace h := (if_neg c3).symm.trans h
      replace c3 := Bool.eq_false_iff.mpr c3
      refine AW.cond_no rfl c3 ?_
      refine AW.skip ?_
      refine AW.seq ?_
      refine AW.region ?_
      refine s_move (d := (sc (.int .i32 r1.1))) rfl ?_
      refine s_convI F.u_21 F.u_3 rfl ?_
      refine s_move (d := (sc (.int .i64 r1.2))) rfl ?_
      refine s_assign (d := (sc (.int .i64 (IntKind.i64.wrap r1.1)))) rfl ?_
      refine s_assign (d := (sc (.int .i64 r1.2))) rfl ?_
      refine AWops.nil ?_
      refine AW.ret ?_
      obtain rfl := Option.some.inj h
      exact ⟨_, rfl, (Weak.gen (kk := 0) [] [] rfl rfl (by decide) (by decide) rfl rfl rfl (le_upd (le_top _) (DLe.tup (All2.cons (TLe.one .sc) (All2.cons (TLe.one .sc) All2.nil)))) All2.nil)⟩
  · replace h := (if_neg c2).symm.trans h
    replace c2 := Bool.eq_false_iff.mpr c2
    refine AWops.guard_no rfl (Nat.le_of_ble_eq_true rfl) rfl c2 ?_
    refine AWops.guard_no rfl (Nat.le_of_ble_eq_true rfl) rfl c2 ?_
    refine s_pick_no (d := (sc (.bool false))) rfl c2 rfl ?_
    refine AWops.nil ?_
    refine AW.cond_no rfl rfl ?_
    refine AW.skip ?_
    refine AW.seq ?_
    refine AW.region ?_
    refine s_move (d := (sc (.int .i32 r1.1))) rfl ?_
    refine s_convI F.u_21 F.u_3 rfl ?_
    refine s_move (d := (sc (.int .i64 r1.2))) rfl ?_
    refine s_assign (d := (sc (.int .i64 (IntKind.i64.wrap r1.1)))) rfl ?_
    refine s_assign (d := (sc (.int .i64 r1.2))) rfl ?_
    refine AWops.nil ?_
    refine AW.ret ?_
    obtain rfl := Option.some.inj h
    exact ⟨_, rfl, (Weak.gen (kk := 0) [] [] rfl rfl (by decide) (by decide) rfl rfl rfl (le_upd (le_top _) (DLe.tup (All2.cons (TLe.one .sc) (All2.cons (TLe.one .sc) All2.nil)))) All2.nil)⟩
mutual
def chars_Name.l0 : Nat → Int → ByteArray → Option Bool
  | 0, _, _ => none
  | k + 1, x1, a0 => if (decide (x1 < ((bytesI a0).length : Int))) = true then (if (decide (0 ≤ x1 ∧ x1 ≤ ((bytesI a0).length : Int) ∧ ((bytesI a0).length : Int) ≤ ((bytesI a0).length : Int))) = true then ((chars_Decode.f k (sub (bytesI a0) x1 ((bytesI a0).length : Int))).bind fun r4 => if (r4.2 == 0) = true then (some false) else (if (x1 == 0) = true then ((chars_First.f k r4.1).bind fun r7 => if r7 = true then ((chars_Later.f k r4.1).bind fun r9 => if r9 = true then (chars_Name.l0 k (IntKind.i64.wrap (x1 + r4.2)) a0) else (some false)) else (some false)) else ((chars_Later.f k r4.1).bind fun r11 => if r11 = true then (chars_Name.l0 k (IntKind.i64.wrap (x1 + r4.2)) a0) else (some false)))) else none) else (some (decide (((bytesI a0).length : Int) > 0)))
end
def chars_Name.f (k : Nat) (a0 : ByteArray) : Option Bool := chars_Name.l0 k 0 a0
theorem chars_Name.meets (k : Nat) (a0 : ByteArray) (r : Bool) (h : chars_Name.f k a0 = some r) : Meets Tryd.prog 13 [(sc (.string a0))] [] (sc (.bool r)) [] := by
  unfold chars_Name.f at h
  refine Meets.of_body (n := 42) Tryd.func13 rfl rfl (Nat.le_of_ble_eq_true rfl) fun x hx => ?_
  replace hx : x.k = 0 := hx
  show AW _ x _ _ ⟨42, fr0 [(sc (.string a0))], []⟩
  refine AW.seq ?_
  refine AW.region ?_
  refine s_assign (d := (sc (.bool false))) rfl ?_
  refine AWops.nil ?_
  refine AW.seq ?_
  refine AW.region ?_
  refine s_move (d := (sc (.string a0))) rfl ?_
  refine t_ofStr F.u_9 F.u_31 F.u_5 rfl ?_
  refine s_assign (d := (D.one (C.p false (.sl (bytesI a0).length ((bytesI a0).flatMap e_u8))))) rfl ?_
  refine AWops.nil ?_
  refine AW.seq ?_
  refine AW.seq ?_
  refine AW.region ?_
  refine s_assign (d := (sc (.int .i64 0))) rfl ?_
  refine AWops.nil ?_
  refine AW.block ?_
  refine AW.loopw (st0 := ⟨42, (upd 42 (upd 42 topF 3 (D.one (C.p false (.sl (bytesI a0).length ((bytesI a0).flatMap e_u8))))) 4 (sc (.int .i64 0))), []⟩) (fun kv st => kv ≤ k ∧ ∃ (x1 : Int), chars_Name.l0 kv x1 a0 = some r ∧ st = ⟨42, (upd 42 (upd 42 topF 3 (D.one (C.p false (.sl (bytesI a0).length ((bytesI a0).flatMap e_u8))))) 4 (sc (.int .i64 x1))), []⟩) (k := k) (Weak.gen (kk := 0) [] [] hx rfl (by decide) (by decide) rfl rfl rfl (le_upd (le_upd (le_top _) (.t (.one .same))) (.t (.one .sc))) All2.nil) ⟨Nat.le_refl _, 0, h, rfl⟩ ?_
  rintro ql0 st ⟨hkl0, x1, h, rfl⟩
  cases ql0 with
  | zero => exact absurd h (by simp [chars_Name.l0])
  | succ ql0 =>
    replace h := (chars_Name.l0.eq_2 _ _ _).symm.trans h
    refine AW.seq ?_
    refine AW.seq ?_
    refine AW.region ?_
    refine s_move (d := (sc (.int .i64 x1))) rfl ?_
    refine s_move (d := (D.one (C.p false (.sl (bytesI a0).length ((bytesI a0).flatMap e_u8))))) rfl ?_
    refine s_len (n := (bytesI a0).length) F.u_31 rfl (.inr ⟨(fun _ _ h => by cases h), ⟨_, rfl⟩⟩) ?_
    refine s_binI (v := (.bool (decide (x1 < ((bytesI a0).length : Int))))) rfl rfl rfl ?_
    refine AWops.nil ?_
    by_cases c2 : (decide (x1 < ((bytesI a0).length : Int))) = true
    · replace h := (if_pos c2).symm.trans h
      refine AW.cond_yes rfl c2 ?_
      refine AW.skip ?_
      refine AW.block ?_
      refine AW.seq ?_
      refine AW.region ?_
      refine s_move (d := (D.one (C.p false (.sl (bytesI a0).length ((bytesI a0).flatMap e_u8))))) rfl ?_
      refine s_move (d := (sc (.int .i64 x1))) rfl ?_
      by_cases c3 : (decide (0 ≤ x1 ∧ x1 ≤ ((bytesI a0).length : Int) ∧ ((bytesI a0).length : Int) ≤ ((bytesI a0).length : Int))) = true
      · replace h := (if_pos c3).symm.trans h
        have dc3 := of_decide_eq_true c3
        refine t_sliceImm (a := x1) (b := ((bytesI a0).length : Int)) F.u_31 F.sz_5 e_u8_len rfl (by omega) (by omega) (by omega) (.yes rfl (by omega) rfl) .no ?_
        obtain ⟨r4, er4, h⟩ := Option.bind_eq_some_iff.mp h
        refine s_call2 (ρ := []) (br := false) (H2 := []) (d := (D.tup [(sc (.int .i64 r4.1)), (sc (.int .i64 r4.2))])) F.ca_20 rfl rfl (All2.cons (.one .imm) All2.nil) All2.nil (by decide) rfl (chars_Decode.meets _ (sub (bytesI a0) x1 ((bytesI a0).length : Int)) r4 er4) (.inl rfl) rfl rfl ?_
        refine s_move (d := (D.tup [(sc (.int .i64 r4.1)), (sc (.int .i64 r4.2))])) rfl ?_
        refine s_extract (d := (sc (.int .i64 r4.1))) rfl rfl ?_
        refine s_extract (d := (sc (.int .i64 r4.2))) rfl rfl ?_
        refine s_assign (d := (sc (.int .i64 r4.1))) rfl ?_
        refine s_assign (d := (sc (.int .i64 r4.2))) rfl ?_
        refine AWops.nil ?_
        refine AW.seq ?_
        refine AW.seq ?_
        refine AW.region ?_
        refine s_move (d := (sc (.int .i64 r4.2))) rfl ?_
        refine s_binI (v := (.bool (r4.2 == 0))) rfl rfl rfl ?_
        refine s_move (d := (sc (.bool (r4.2 == 0)))) rfl ?_
        by_cases c5 : (r4.2 == 0) = true
        · replace h := (if_pos c5).symm.trans h
          refine AWops.guard_no rfl (Nat.le_of_ble_eq_true rfl) rfl c5 ?_
          refine AWops.guard_no rfl (Nat.le_of_ble_eq_true rfl) rfl c5 ?_
          refine AWops.guard_no rfl (Nat.le_of_ble_eq_true rfl) rfl c5 ?_
          refine AWops.guard_undef rfl rfl ?_
          refine AWops.guard_undef rfl rfl ?_
          refine AWops.guard_undef rfl rfl ?_
          refine AWops.guard_no rfl (Nat.le_of_ble_eq_true rfl) rfl c5 ?_
          refine s_pick_yes (d := (sc (.bool true))) rfl c5 rfl ?_
          refine s_move (d := (sc (.bool true))) rfl ?_
          refine AWops.guard_no rfl (Nat.le_of_ble_eq_true rfl) rfl rfl ?_
          refine AWops.guard_no rfl (Nat.le_of_ble_eq_true rfl) rfl rfl ?_
          refine AWops.guard_no rfl (Nat.le_of_ble_eq_true rfl) rfl rfl ?_
          refine s_pick_yes (d := (sc (.bool true))) rfl rfl rfl ?_
          refine AWops.nil ?_
          refine AW.cond_yes rfl rfl ?_
          refine AW.seq ?_
          refine AW.region ?_
          refine s_assign (d := (sc (.bool false))) rfl ?_
          refine AWops.nil ?_
          refine AW.ret ?_
          obtain rfl := Option.some.inj h
          exact ⟨_, rfl, (Weak.gen (kk := 0) [] [] rfl rfl (by decide) (by decide) rfl rfl rfl (le_upd (le_top _) (.t (.one .sc))) All2.nil)⟩
        · replace h := (if_neg c5).symm.trans h
          replace c5 := Bool.eq_false_iff.mpr c5
          refine AWops.guard_yes rfl (Nat.le_of_ble_eq_true rfl) rfl c5 ?_
          refine s_move (d := (sc (.int .i64 x1))) rfl ?_
          refine AWops.guard_yes rfl (Nat.le_of_ble_eq_true rfl) rfl c5 ?_
          refine s_binI (v := (.bool (x1 == 0))) rfl rfl rfl ?_
          refine AWops.guard_yes rfl (Nat.le_of_ble_eq_true rfl) rfl c5 ?_
          refine s_move (d := (sc (.bool (x1 == 0)))) rfl ?_
          by_cases c6 : (x1 == 0) = true
          · replace h := (if_pos c6).symm.trans h
            refine AWops.guard_yes rfl (Nat.le_of_ble_eq_true rfl) rfl c6 ?_
            refine s_move (d := (sc (.int .i64 r4.1))) rfl ?_
            refine AWops.guard_yes rfl (Nat.le_of_ble_eq_true rfl) rfl c6 ?_
            obtain ⟨r7, er7, h⟩ := Option.bind_eq_some_iff.mp h
            refine s_call2 (ρ := []) (br := false) (H2 := []) (d := (sc (.bool r7))) F.ca_9 rfl rfl (All2.cons (.one .sc) All2.nil) All2.nil (by decide) rfl (chars_First.meets _ r4.1 r7 er7) (.inl rfl) rfl rfl ?_
            refine AWops.guard_yes rfl (Nat.le_of_ble_eq_true rfl) rfl c6 ?_
            refine s_not rfl ?_
            refine AWops.guard_yes rfl (Nat.le_of_ble_eq_true rfl) rfl c5 ?_
            refine s_pick_yes (d := (sc (.bool (!r7)))) rfl c6 rfl ?_
            refine s_pick_no (d := (sc (.bool (!r7)))) rfl c5 rfl ?_
            refine s_move (d := (sc (.bool (!r7)))) rfl ?_
            by_cases c8 : r7 = true
            · replace h := (if_pos c8).symm.trans h
              refine AWops.guard_yes rfl (Nat.le_of_ble_eq_true rfl) rfl (by rw [c8] <;> rfl) ?_
              refine s_move (d := (sc (.int .i64 r4.1))) rfl ?_
              refine AWops.guard_yes rfl (Nat.le_of_ble_eq_true rfl) rfl (by rw [c8] <;> rfl) ?_
              obtain ⟨r9, er9, h⟩ := Option.bind_eq_some_iff.mp h
              refine s_call2 (ρ := []) (br := false) (H2 := []) (d := (sc (.bool r9))) F.ca_11 rfl rfl (All2.cons (.one .sc) All2.nil) All2.nil (by decide) rfl (chars_Later.meets _ r4.1 r9 er9) (.inl rfl) rfl rfl ?_
              refine AWops.guard_yes rfl (Nat.le_of_ble_eq_true rfl) rfl (by rw [c8] <;> rfl) ?_
              refine s_not rfl ?_
              refine s_pick_no (d := (sc (.bool (!r9)))) rfl (by rw [c8] <;> rfl) rfl ?_
              refine AWops.nil ?_
              by_cases c10 : r9 = true
              · replace h := (if_pos c10).symm.trans h
                refine AW.cond_no rfl (by rw [c10] <;> rfl) ?_
                refine AW.skip ?_
                refine AW.region ?_
                refine s_move (d := (sc (.int .i64 x1))) rfl ?_
                refine s_move (d := (sc (.int .i64 r4.2))) rfl ?_
                refine s_binI (v := (.int .i64 (IntKind.i64.wrap (x1 + r4.2)))) rfl rfl rfl ?_
                refine s_assign (d := (sc (.int .i64 (IntKind.i64.wrap (x1 + r4.2))))) rfl ?_
                refine AWops.nil ?_
                exact ⟨_, ⟨42, (upd 42 (upd 42 topF 3 (D.one (C.p false (.sl (bytesI a0).length ((bytesI a0).flatMap e_u8))))) 4 (sc (.int .i64 (IntKind.i64.wrap (x1 + r4.2))))), []⟩, by omega, (Weak.gen (kk := 0) [] [] hx rfl (by decide) (by decide) rfl rfl rfl (le_upd (le_upd (le_top _) (.t (.one .same))) (.t (.one .sc))) All2.nil), by omega, IntKind.i64.wrap (x1 + r4.2), h, rfl⟩
              · replace h := (if_neg c10).symm.trans h
                replace c10 := Bool.eq_false_iff.mpr c10
                refine AW.cond_yes rfl (by rw [c10] <;> rfl) ?_
                refine AW.seq ?_
                refine AW.region ?_
                refine s_assign (d := (sc (.bool false))) rfl ?_
                refine AWops.nil ?_
                refine AW.ret ?_
                obtain rfl := Option.some.inj h
                exact ⟨_, rfl, (Weak.gen (kk := 0) [] [] rfl rfl (by decide) (by decide) rfl rfl rfl (le_upd (le_top _) (.t (.one .sc))) All2.nil)⟩
            · replace h := (if_neg c8).symm.trans h
              replace c8 := Bool.eq_false_iff.mpr c8
              refine AWops.guard_no rfl (Nat.le_of_ble_eq_true rfl) rfl (by rw [c8] <;> rfl) ?_
              refine AWops.guard_no rfl (Nat.le_of_ble_eq_true rfl) rfl (by rw [c8] <;> rfl) ?_
              refine AWops.guard_no rfl (Nat.le_of_ble_eq_true rfl) rfl (by rw [c8] <;> rfl) ?_
              refine s_pick_yes (d := (sc (.bool true))) rfl (by rw [c8] <;> rfl) rfl ?_
              refine AWops.nil ?_
              refine AW.cond_yes rfl rfl ?_
              refine AW.seq ?_
              refine AW.region ?_
              refine s_assign (d := (sc (.bool false))) rfl ?_
              refine AWops.nil ?_
              refine AW.ret ?_
              obtain rfl := Option.some.inj h
              exact ⟨_, rfl, (Weak.gen (kk := 0) [] [] rfl rfl (by decide) (by decide) rfl rfl rfl (le_upd (le_top _) (.t (.one .sc))) All2.nil)⟩
          · replace h := (if_neg c6).symm.trans h
            replace c6 := Bool.eq_false_iff.mpr c6
            refine AWops.guard_no rfl (Nat.le_of_ble_eq_true rfl) rfl c6 ?_
            refine AWops.guard_no rfl (Nat.le_of_ble_eq_true rfl) rfl c6 ?_
            refine AWops.guard_no rfl (Nat.le_of_ble_eq_true rfl) rfl c6 ?_
            refine AWops.guard_yes rfl (Nat.le_of_ble_eq_true rfl) rfl c5 ?_
            refine s_pick_no (d := (sc (.bool false))) rfl c6 rfl ?_
            refine s_pick_no (d := (sc (.bool false))) rfl c5 rfl ?_
            refine s_move (d := (sc (.bool false))) rfl ?_
            refine AWops.guard_yes rfl (Nat.le_of_ble_eq_true rfl) rfl rfl ?_
            refine s_move (d := (sc (.int .i64 r4.1))) rfl ?_
            refine AWops.guard_yes rfl (Nat.le_of_ble_eq_true rfl) rfl rfl ?_
            obtain ⟨r11, er11, h⟩ := Option.bind_eq_some_iff.mp h
            refine s_call2 (ρ := []) (br := false) (H2 := []) (d := (sc (.bool r11))) F.ca_11 rfl rfl (All2.cons (.one .sc) All2.nil) All2.nil (by decide) rfl (chars_Later.meets _ r4.1 r11 er11) (.inl rfl) rfl rfl ?_
            refine AWops.guard_yes rfl (Nat.le_of_ble_eq_true rfl) rfl rfl ?_
            refine s_not rfl ?_
            refine s_pick_no (d := (sc (.bool (!r11)))) rfl rfl rfl ?_
            refine AWops.nil ?_
            by_cases c12 : r11 = true
            · replace h := (if_pos c12).symm.trans h
              refine AW.cond_no rfl (by rw [c12] <;> rfl) ?_
              refine AW.skip ?_
              refine AW.region ?_
              refine s_move (d := (sc (.int .i64 x1))) rfl ?_
              refine s_move (d := (sc (.int .i64 r4.2))) rfl ?_
              refine s_binI (v := (.int .i64 (IntKind.i64.wrap (x1 + r4.2)))) rfl rfl rfl ?_
              refine s_assign (d := (sc (.int .i64 (IntKind.i64.wrap (x1 + r4.2))))) rfl ?_
              refine AWops.nil ?_
              exact ⟨_, ⟨42, (upd 42 (upd 42 topF 3 (D.one (C.p false (.sl (bytesI a0).length ((bytesI a0).flatMap e_u8))))) 4 (sc (.int .i64 (IntKind.i64.wrap (x1 + r4.2))))), []⟩, by omega, (Weak.gen (kk := 0) [] [] hx rfl (by decide) (by decide) rfl rfl rfl (le_upd (le_upd (le_top _) (.t (.one .same))) (.t (.one .sc))) All2.nil), by omega, IntKind.i64.wrap (x1 + r4.2), h, rfl⟩
            · replace h := (if_neg c12).symm.trans h
              replace c12 := Bool.eq_false_iff.mpr c12
              refine AW.cond_yes rfl (by rw [c12] <;> rfl) ?_
              refine AW.seq ?_
              refine AW.region ?_
              refine s_assign (d := (sc (.bool false))) rfl ?_
              refine AWops.nil ?_
              refine AW.ret ?_
              obtain rfl := Option.some.inj h
              exact ⟨_, rfl, (Weak.gen (kk := 0) [] [] rfl rfl (by decide) (by decide) rfl rfl rfl (le_upd (le_top _) (.t (.one .sc))) All2.nil)⟩
      · replace h := (if_neg c3).symm.trans h
        cases h
    · replace h := (if_neg c2).symm.trans h
      replace c2 := Bool.eq_false_iff.mpr c2
      refine AW.cond_no rfl c2 ?_
      refine AW.exit ?_
      refine AW.seq ?_
      refine AW.region ?_
      refine s_move (d := (D.one (C.p false (.sl (bytesI a0).length ((bytesI a0).flatMap e_u8))))) rfl ?_
      refine s_len (n := (bytesI a0).length) F.u_31 rfl (.inr ⟨(fun _ _ h => by cases h), ⟨_, rfl⟩⟩) ?_
      refine s_binI (v := (.bool (decide (((bytesI a0).length : Int) > 0)))) rfl rfl rfl ?_
      refine s_assign (d := (sc (.bool (decide (((bytesI a0).length : Int) > 0))))) rfl ?_
      refine AWops.nil ?_
      refine AW.ret ?_
      obtain rfl := Option.some.inj h
      exact ⟨_, rfl, (Weak.gen (kk := 0) [] [] rfl rfl (by decide) (by decide) rfl rfl rfl (le_upd (le_top _) (.t (.one .sc))) All2.nil)⟩
def dossierref01_Encode.f (k : Nat) (a0 : Int) : Option (List Int) := if (decide (a0 < 0)) = true then (some ([] : List Int)) else (if (decide (a0 > 1114111)) = true then (some ([] : List Int)) else (if (decide (a0 ≥ 55296)) = true then (if (decide (a0 ≤ 57343)) = true then (some ([] : List Int)) else (if (decide (a0 < 128)) = true then (some ([IntKind.u8.wrap a0] : List Int)) else (if (decide (a0 < 2048)) = true then (some ([IntKind.u8.wrap (IntKind.i64.wrap (192 + (Int.fdiv a0 (2 ^ 6)))), IntKind.u8.wrap (IntKind.i64.wrap (128 + (Int.tmod a0 64)))] : List Int)) else (if (decide (a0 < 65536)) = true then (some ([IntKind.u8.wrap (IntKind.i64.wrap (224 + (Int.fdiv a0 (2 ^ 12)))), IntKind.u8.wrap (IntKind.i64.wrap (128 + (Int.tmod (Int.fdiv a0 (2 ^ 6)) 64))), IntKind.u8.wrap (IntKind.i64.wrap (128 + (Int.tmod a0 64)))] : List Int)) else (some ([IntKind.u8.wrap (IntKind.i64.wrap (240 + (Int.fdiv a0 (2 ^ 18)))), IntKind.u8.wrap (IntKind.i64.wrap (128 + (Int.tmod (Int.fdiv a0 (2 ^ 12)) 64))), IntKind.u8.wrap (IntKind.i64.wrap (128 + (Int.tmod (Int.fdiv a0 (2 ^ 6)) 64))), IntKind.u8.wrap (IntKind.i64.wrap (128 + (Int.tmod a0 64)))] : List Int)))))) else (if (decide (a0 < 128)) = true then (some ([IntKind.u8.wrap a0] : List Int)) else (if (decide (a0 < 2048)) = true then (some ([IntKind.u8.wrap (IntKind.i64.wrap (192 + (Int.fdiv a0 (2 ^ 6)))), IntKind.u8.wrap (IntKind.i64.wrap (128 + (Int.tmod a0 64)))] : List Int)) else (if (decide (a0 < 65536)) = true then (some ([IntKind.u8.wrap (IntKind.i64.wrap (224 + (Int.fdiv a0 (2 ^ 12)))), IntKind.u8.wrap (IntKind.i64.wrap (128 + (Int.tmod (Int.fdiv a0 (2 ^ 6)) 64))), IntKind.u8.wrap (IntKind.i64.wrap (128 + (Int.tmod a0 64)))] : List Int)) else (some ([IntKind.u8.wrap (IntKind.i64.wrap (240 + (Int.fdiv a0 (2 ^ 18)))), IntKind.u8.wrap (IntKind.i64.wrap (128 + (Int.tmod (Int.fdiv a0 (2 ^ 12)) 64))), IntKind.u8.wrap (IntKind.i64.wrap (128 + (Int.tmod (Int.fdiv a0 (2 ^ 6)) 64))), IntKind.u8.wrap (IntKind.i64.wrap (128 + (Int.tmod a0 64)))] : List Int)))))))
theorem dossierref01_Encode.meets (k : Nat) (a0 : Int) (r : (List Int)) (h : dossierref01_Encode.f k a0 = some r) : Meets Tryd.prog 24 [(sc (.int .i64 a0))] [] (D.one (C.own 0 0 r.length 1)) [(some (AObj.cells true (rowC e_u8 r)))] := by
  unfold dossierref01_Encode.f at h
  refine Meets.of_body (n := 72) Tryd.func24 rfl rfl (Nat.le_of_ble_eq_true rfl) fun x hx => ?_
  replace hx : x.k = 0 := hx
  show AW _ x _ _ ⟨72, fr0 [(sc (.int .i64 a0))], []⟩
  refine AW.seq ?_
  refine AW.region ?_
  refine s_assign (d := (sc (.slice none 0 0))) rfl ?_
  refine AWops.nil ?_
  refine AW.seq ?_
  refine AW.block ?_
  refine AW.seq ?_
  refine AW.region ?_
  refine s_move (d := (sc (.int .i64 a0))) rfl ?_
  refine s_binI (v := (.bool (decide (a0 < 0)))) rfl rfl rfl ?_
  refine s_move (d := (sc (.bool (decide (a0 < 0))))) rfl ?_
  by_cases c1 : (decide (a0 < 0)) = true
  · replace h := (if_pos c1).symm.trans h
    refine AWops.guard_no rfl (Nat.le_of_ble_eq_true rfl) rfl c1 ?_
    refine AWops.guard_no rfl (Nat.le_of_ble_eq_true rfl) rfl c1 ?_
    refine s_pick_yes (d := (sc (.bool true))) rfl c1 rfl ?_
    refine s_move (d := (sc (.bool true))) rfl ?_
    refine AWops.guard_no rfl (Nat.le_of_ble_eq_true rfl) rfl rfl ?_
    refine AWops.guard_no rfl (Nat.le_of_ble_eq_true rfl) rfl rfl ?_
    refine AWops.guard_no rfl (Nat.le_of_ble_eq_true rfl) rfl rfl ?_
    refine AWops.guard_undef rfl rfl ?_
    refine AWops.guard_undef rfl rfl ?_
    refine AWops.guard_no rfl (Nat.le_of_ble_eq_true rfl) rfl rfl ?_
    refine s_pick_yes (d := (sc (.bool true))) rfl rfl rfl ?_
    refine s_assign (d := (sc (.bool true))) rfl ?_
    refine AWops.nil ?_
    refine AW.cond_yes rfl rfl ?_
    refine AW.seq ?_
    refine AW.region ?_
    refine s_assign (d := (sc (.slice none 0 0))) rfl ?_
    refine AWops.nil ?_
    refine AW.ret ?_
    obtain rfl := Option.some.inj h
    exact ⟨_, rfl, (Weak.trans (Weak.nil (sz := 1) (i := 0) rfl) (Weak.gen (kk := 0) [0] [] rfl rfl (by decide) (by decide) rfl rfl rfl (le_upd (le_top _) (.t (.one (CLe.ownN rfl (by simp))))) (All2.cons (.cells (fun h => h) All2.nil) All2.nil)))⟩
  · replace h := (if_neg c1).symm.trans h
    replace c1 := Bool.eq_false_iff.mpr c1
    refine AWops.guard_yes rfl (Nat.le_of_ble_eq_true rfl) rfl c1 ?_
    refine s_move (d := (sc (.int .i64 a0))) rfl ?_
    refine AWops.guard_yes rfl (Nat.le_of_ble_eq_true rfl) rfl c1 ?_
    refine s_binI (v := (.bool (decide (a0 > 1114111)))) rfl rfl rfl ?_
    refine s_pick_no (d := (sc (.bool (decide (a0 > 1114111))))) rfl c1 rfl ?_
    refine s_move (d := (sc (.bool (decide (a0 > 1114111))))) rfl ?_
    by_cases c2 : (decide (a0 > 1114111)) = true
    · replace h := (if_pos c2).symm.trans h
      refine AWops.guard_no rfl (Nat.le_of_ble_eq_true rfl) rfl c2 ?_
      refine AWops.guard_no rfl (Nat.le_of_ble_eq_true rfl) rfl c2 ?_
      refine AWops.guard_no rfl (Nat.le_of_ble_eq_true rfl) rfl c2 ?_
      refine AWops.guard_undef rfl rfl ?_
      refine AWops.guard_undef rfl rfl ?_
      refine AWops.guard_no rfl (Nat.le_of_ble_eq_true rfl) rfl c2 ?_
      refine s_pick_yes (d := (sc (.bool true))) rfl c2 rfl ?_
      refine s_assign (d := (sc (.bool true))) rfl ?_
      refine AWops.nil ?_
      refine AW.cond_yes rfl rfl ?_
      refine AW.seq ?_
      refine AW.region ?_
      refine s_assign (d := (sc (.slice none 0 0))) rfl ?_
      refine AWops.nil ?_
      refine AW.ret ?_
      obtain rfl := Option.some.inj h
      exact ⟨_, rfl, (Weak.trans (Weak.nil (sz := 1) (i := 0) rfl) (Weak.gen (kk := 0) [0] [] rfl rfl (by decide) (by decide) rfl rfl rfl (le_upd (le_top _) (.t (.one (CLe.ownN rfl (by simp))))) (All2.cons (.cells (fun h => h) All2.nil) All2.nil)))⟩
    · replace h := (if_neg c2).symm.trans h
      replace c2 := Bool.eq_false_iff.mpr c2
      refine AWops.guard_yes rfl (Nat.le_of_ble_eq_true rfl) rfl c2 ?_
      refine s_move (d := (sc (.int .i64 a0))) rfl ?_
      refine AWops.guard_yes rfl (Nat.le_of_ble_eq_true rfl) rfl c2 ?_
      refine s_binI (v := (.bool (decide (a0 ≥ 55296)))) rfl rfl rfl ?_
      refine AWops.guard_yes rfl (Nat.le_of_ble_eq_true rfl) rfl c2 ?_
      refine s_move (d := (sc (.bool (decide (a0 ≥ 55296))))) rfl ?_
      by_cases c3 : (decide (a0 ≥ 55296)) = true
      · replace h := (if_pos c3).symm.trans h
        refine AWops.guard_yes rfl (Nat.le_of_ble_eq_true rfl) rfl c3 ?_
        refine s_move (d := (sc (.int .i64 a0))) rfl ?_
        refine AWops.guard_yes rfl (Nat.le_of_ble_eq_true rfl) rfl c3 ?_
        refine s_binI (v := (.bool (decide (a0 ≤ 57343)))) rfl rfl rfl ?_
        refine AWops.guard_yes rfl (Nat.le_of_ble_eq_true rfl) rfl c2 ?_
        refine s_pick_yes (d := (sc (.bool (decide (a0 ≤ 57343))))) rfl c3 rfl ?_
        refine s_pick_no (d := (sc (.bool (decide (a0 ≤ 57343))))) rfl c2 rfl ?_
        refine s_assign (d := (sc (.bool (decide (a0 ≤ 57343))))) rfl ?_
        refine AWops.nil ?_
        by_cases c4 : (decide (a0 ≤ 57343)) = true
        · replace h := (if_pos c4).symm.trans h
          refine AW.cond_yes rfl c4 ?_
          refine AW.seq ?_
          refine AW.region ?_
          refine s_assign (d := (sc (.slice none 0 0))) rfl ?_
          refine AWops.nil ?_
          refine AW.ret ?_
          obtain rfl := Option.some.inj h
          exact ⟨_, rfl, (Weak.trans (Weak.nil (sz := 1) (i := 0) rfl) (Weak.gen (kk := 0) [0] [] rfl rfl (by decide) (by decide) rfl rfl rfl (le_upd (le_top _) (.t (.one (CLe.ownN rfl (by simp))))) (All2.cons (.cells (fun h => h) All2.nil) All2.nil)))⟩
        · replace h := (if_neg c4).symm.trans h
          replace c4 := Bool.eq_false_iff.mpr c4
          refine AW.cond_no rfl c4 ?_
          refine AW.seq ?_
          refine AW.region ?_
          refine s_move (d := (sc (.int .i64 a0))) rfl ?_
          refine s_binI (v := (.bool (decide (a0 < 128)))) rfl rfl rfl ?_
          refine s_assign (d := (sc (.bool (decide (a0 < 128))))) rfl ?_
          refine AWops.nil ?_
          by_cases c5 : (decide (a0 < 128)) = true
          · replace h := (if_pos c5).symm.trans h
            refine AW.cond_yes rfl c5 ?_
            refine AW.seq ?_
            refine AW.region ?_
            refine s_move (d := (sc (.int .i64 a0))) rfl ?_
            refine s_convI F.u_3 F.u_5 rfl ?_
            refine s_buildSlice (n := 1) (ps := [(0, (sc (.int .u8 (IntKind.u8.wrap a0))))]) (cs := rowC e_u8 ([IntKind.u8.wrap a0] : List Int)) F.u_31 F.sz_5 F.z_5 rfl rfl (by decide) (by decide) rfl rfl ?_
            refine s_assign (d := (D.one (C.own 0 0 (([IntKind.u8.wrap a0] : List Int).length) 1))) rfl ?_
            refine AWops.nil ?_
            refine AW.ret ?_
            obtain rfl := Option.some.inj h
            exact ⟨_, rfl, (Weak.gen (kk := 0) [0] [] rfl rfl (by decide) (by decide) rfl rfl rfl (le_upd (le_top _) (.t (.one (.own rfl)))) (All2.cons (.cells (fun h => h) (all2_row _)) All2.nil))⟩
          · replace h := (if_neg c5).symm.trans h
            replace c5 := Bool.eq_false_iff.mpr c5
            refine AW.cond_no rfl c5 ?_
            refine AW.seq ?_
            refine AW.region ?_
            refine s_move (d := (sc (.int .i64 a0))) rfl ?_
            refine s_binI (v := (.bool (decide (a0 < 2048)))) rfl rfl rfl ?_
            refine s_assign (d := (sc (.bool (decide (a0 < 2048))))) rfl ?_
            refine AWops.nil ?_
            by_cases c6 : (decide (a0 < 2048)) = true
            · replace h := (if_pos c6).symm.trans h
              refine AW.cond_yes rfl c6 ?_
              refine AW.seq ?_
              refine AW.region ?_
              refine s_move (d := (sc (.int .i64 a0))) rfl ?_
              refine s_shift (v := (.int .i64 (Int.fdiv a0 (2 ^ 6)))) rfl rfl rfl ?_
              refine s_binI (v := (.int .i64 (IntKind.i64.wrap (192 + (Int.fdiv a0 (2 ^ 6)))))) rfl rfl rfl ?_
              refine s_convI F.u_3 F.u_5 rfl ?_
              refine s_move (d := (sc (.int .i64 a0))) rfl ?_
              refine s_binI (v := (.int .i64 (Int.tmod a0 64))) rfl rfl rfl ?_
              refine s_binI (v := (.int .i64 (IntKind.i64.wrap (128 + (Int.tmod a0 64))))) rfl rfl rfl ?_
              refine s_convI F.u_3 F.u_5 rfl ?_
              refine s_buildSlice (n := 2) (ps := [(0, (sc (.int .u8 (IntKind.u8.wrap (IntKind.i64.wrap (192 + (Int.fdiv a0 (2 ^ 6)))))))), (1, (sc (.int .u8 (IntKind.u8.wrap (IntKind.i64.wrap (128 + (Int.tmod a0 64)))))))]) (cs := rowC e_u8 ([IntKind.u8.wrap (IntKind.i64.wrap (192 + (Int.fdiv a0 (2 ^ 6)))), IntKind.u8.wrap (IntKind.i64.wrap (128 + (Int.tmod a0 64)))] : List Int)) F.u_31 F.sz_5 F.z_5 rfl rfl (by decide) (by decide) rfl rfl ?_
              refine s_assign (d := (D.one (C.own 0 0 (([IntKind.u8.wrap (IntKind.i64.wrap (192 + (Int.fdiv a0 (2 ^ 6)))), IntKind.u8.wrap (IntKind.i64.wrap (128 + (Int.tmod a0 64)))] : List Int).length) 1))) rfl ?_
              refine AWops.nil ?_
              refine AW.ret ?_
              obtain rfl := Option.some.inj h
              exact ⟨_, rfl, (Weak.gen (kk := 0) [0] [] rfl rfl (by decide) (by decide) rfl rfl rfl (le_upd (le_top _) (.t (.one (.own rfl)))) (All2.cons (.cells (fun h => h) (all2_row _)) All2.nil))⟩
            · replace h := (if_neg c6).symm.trans h
              replace c6 := Bool.eq_false_iff.mpr c6
              refine AW.cond_no rfl c6 ?_
              refine AW.seq ?_
              refine AW.region ?_
              refine s_move (d := (sc (.int .i64 a0))) rfl ?_
              refine s_binI (v := (.bool (decide (a0 < 65536)))) rfl rfl rfl ?_
              refine s_assign (d := (sc (.bool (decide (a0 < 65536))))) rfl ?_
              refine AWops.nil ?_
              by_cases c7 : (decide (a0 < 65536)) = true
              · replace h := (if_pos c7).symm.trans h
                refine AW.cond_yes rfl c7 ?_
                refine AW.seq ?_
                refine AW.region ?_
                refine s_move (d := (sc (.int .i64 a0))) rfl ?_
                refine s_shift (v := (.int .i64 (Int.fdiv a0 (2 ^ 12)))) rfl rfl rfl ?_
                refine s_binI (v := (.int .i64 (IntKind.i64.wrap (224 + (Int.fdiv a0 (2 ^ 12)))))) rfl rfl rfl ?_
                refine s_convI F.u_3 F.u_5 rfl ?_
                refine s_move (d := (sc (.int .i64 a0))) rfl ?_
                refine s_shift (v := (.int .i64 (Int.fdiv a0 (2 ^ 6)))) rfl rfl rfl ?_
                refine s_binI (v := (.int .i64 (Int.tmod (Int.fdiv a0 (2 ^ 6)) 64))) rfl rfl rfl ?_
                refine s_binI (v := (.int .i64 (IntKind.i64.wrap (128 + (Int.tmod (Int.fdiv a0 (2 ^ 6)) 64))))) rfl rfl rfl ?_
                refine s_convI F.u_3 F.u_5 rfl ?_
                refine s_move (d := (sc (.int .i64 a0))) rfl ?_
                refine s_binI (v := (.int .i64 (Int.tmod a0 64))) rfl rfl rfl ?_
                refine s_binI (v := (.int .i64 (IntKind.i64.wrap (128 + (Int.tmod a0 64))))) rfl rfl rfl ?_
                refine s_convI F.u_3 F.u_5 rfl ?_
                refine s_buildSlice (n := 3) (ps := [(0, (sc (.int .u8 (IntKind.u8.wrap (IntKind.i64.wrap (224 + (Int.fdiv a0 (2 ^ 12)))))))), (1, (sc (.int .u8 (IntKind.u8.wrap (IntKind.i64.wrap (128 + (Int.tmod (Int.fdiv a0 (2 ^ 6)) 64))))))), (2, (sc (.int .u8 (IntKind.u8.wrap (IntKind.i64.wrap (128 + (Int.tmod a0 64)))))))]) (cs := rowC e_u8 ([IntKind.u8.wrap (IntKind.i64.wrap (224 + (Int.fdiv a0 (2 ^ 12)))), IntKind.u8.wrap (IntKind.i64.wrap (128 + (Int.tmod (Int.fdiv a0 (2 ^ 6)) 64))), IntKind.u8.wrap (IntKind.i64.wrap (128 + (Int.tmod a0 64)))] : List Int)) F.u_31 F.sz_5 F.z_5 rfl rfl (by decide) (by decide) rfl rfl ?_
                refine s_assign (d := (D.one (C.own 0 0 (([IntKind.u8.wrap (IntKind.i64.wrap (224 + (Int.fdiv a0 (2 ^ 12)))), IntKind.u8.wrap (IntKind.i64.wrap (128 + (Int.tmod (Int.fdiv a0 (2 ^ 6)) 64))), IntKind.u8.wrap (IntKind.i64.wrap (128 + (Int.tmod a0 64)))] : List Int).length) 1))) rfl ?_
                refine AWops.nil ?_
                refine AW.ret ?_
                obtain rfl := Option.some.inj h
                exact ⟨_, rfl, (Weak.gen (kk := 0) [0] [] rfl rfl (by decide) (by decide) rfl rfl rfl (le_upd (le_top _) (.t (.one (.own rfl)))) (All2.cons (.cells (fun h => h) (all2_row _)) All2.nil))⟩
              · replace h := (if_neg c7).symm.trans h
                replace c7 := Bool.eq_false_iff.mpr c7
                refine AW.cond_no rfl c7 ?_
                refine AW.skip ?_
                refine AW.seq ?_
                refine AW.region ?_
                refine s_move (d := (sc (.int .i64 a0))) rfl ?_
                refine s_shift (v := (.int .i64 (Int.fdiv a0 (2 ^ 18)))) rfl rfl rfl ?_
                refine s_binI (v := (.int .i64 (IntKind.i64.wrap (240 + (Int.fdiv a0 (2 ^ 18)))))) rfl rfl rfl ?_
                refine s_convI F.u_3 F.u_5 rfl ?_
                refine s_move (d := (sc (.int .i64 a0))) rfl ?_
                refine s_shift (v := (.int .i64 (Int.fdiv a0 (2 ^ 12)))) rfl rfl rfl ?_
                refine s_binI (v := (.int .i64 (Int.tmod (Int.fdiv a0 (2 ^ 12)) 64))) rfl rfl rfl ?_
                refine s_binI (v := (.int .i64 (IntKind.i64.wrap (128 + (Int.tmod (Int.fdiv a0 (2 ^ 12)) 64))))) rfl rfl rfl ?_
                refine s_convI F.u_3 F.u_5 rfl ?_
                refine s_move (d := (sc (.int .i64 a0))) rfl ?_
                refine s_shift (v := (.int .i64 (Int.fdiv a0 (2 ^ 6)))) rfl rfl rfl ?_
                refine s_binI (v := (.int .i64 (Int.tmod (Int.fdiv a0 (2 ^ 6)) 64))) rfl rfl rfl ?_
                refine s_binI (v := (.int .i64 (IntKind.i64.wrap (128 + (Int.tmod (Int.fdiv a0 (2 ^ 6)) 64))))) rfl rfl rfl ?_
                refine s_convI F.u_3 F.u_5 rfl ?_
                refine s_move (d := (sc (.int .i64 a0))) rfl ?_
                refine s_binI (v := (.int .i64 (Int.tmod a0 64))) rfl rfl rfl ?_
                refine s_binI (v := (.int .i64 (IntKind.i64.wrap (128 + (Int.tmod a0 64))))) rfl rfl rfl ?_
                refine s_convI F.u_3 F.u_5 rfl ?_
                refine s_buildSlice (n := 4) (ps := [(0, (sc (.int .u8 (IntKind.u8.wrap (IntKind.i64.wrap (240 + (Int.fdiv a0 (2 ^ 18)))))))), (1, (sc (.int .u8 (IntKind.u8.wrap (IntKind.i64.wrap (128 + (Int.tmod (Int.fdiv a0 (2 ^ 12)) 64))))))), (2, (sc (.int .u8 (IntKind.u8.wrap (IntKind.i64.wrap (128 + (Int.tmod (Int.fdiv a0 (2 ^ 6)) 64))))))), (3, (sc (.int .u8 (IntKind.u8.wrap (IntKind.i64.wrap (128 + (Int.tmod a0 64)))))))]) (cs := rowC e_u8 ([IntKind.u8.wrap (IntKind.i64.wrap (240 + (Int.fdiv a0 (2 ^ 18)))), IntKind.u8.wrap (IntKind.i64.wrap (128 + (Int.tmod (Int.fdiv a0 (2 ^ 12)) 64))), IntKind.u8.wrap (IntKind.i64.wrap (128 + (Int.tmod (Int.fdiv a0 (2 ^ 6)) 64))), IntKind.u8.wrap (IntKind.i64.wrap (128 + (Int.tmod a0 64)))] : List Int)) F.u_31 F.sz_5 F.z_5 rfl rfl (by decide) (by decide) rfl rfl ?_
                refine s_assign (d := (D.one (C.own 0 0 (([IntKind.u8.wrap (IntKind.i64.wrap (240 + (Int.fdiv a0 (2 ^ 18)))), IntKind.u8.wrap (IntKind.i64.wrap (128 + (Int.tmod (Int.fdiv a0 (2 ^ 12)) 64))), IntKind.u8.wrap (IntKind.i64.wrap (128 + (Int.tmod (Int.fdiv a0 (2 ^ 6)) 64))), IntKind.u8.wrap (IntKind.i64.wrap (128 + (Int.tmod a0 64)))] : List Int).length) 1))) rfl ?_
                refine AWops.nil ?_
                refine AW.ret ?_
                obtain rfl := Option.some.inj h
                exact ⟨_, rfl, (Weak.gen (kk := 0) [0] [] rfl rfl (by decide) (by decide) rfl rfl rfl (le_upd (le_top _) (.t (.one (.own rfl)))) (All2.cons (.cells (fun h => h) (all2_row _)) All2.nil))⟩
      · replace h := (if_neg c3).symm.trans h
        replace c3 := Bool.eq_false_iff.mpr c3
        refine AWops.guard_no rfl (Nat.le_of_ble_eq_true rfl) rfl c3 ?_
        refine AWops.guard_no rfl (Nat.le_of_ble_eq_true rfl) rfl c3 ?_
        refine AWops.guard_yes rfl (Nat.le_of_ble_eq_true rfl) rfl c2 ?_
        refine s_pick_no (d := (sc (.bool false))) rfl c3 rfl ?_
        refine s_pick_no (d := (sc (.bool false))) rfl c2 rfl ?_
        refine s_assign (d := (sc (.bool false))) rfl ?_
        refine AWops.nil ?_
        refine AW.cond_no rfl rfl ?_
        refine AW.seq ?_
        refine AW.region ?_
        refine s_move (d := (sc (.int .i64 a0))) rfl ?_
        refine s_binI (v := (.bool (decide (a0 < 128)))) rfl rfl rfl ?_
        refine s_assign (d := (sc (.bool (decide (a0 < 128))))) rfl ?_
        refine AWops.nil ?_
        by_cases c8 : (decide (a0 < 128)) = true
        · replace h := (if_pos c8).symm.trans h
          refine AW.cond_yes rfl c8 ?_
          refine AW.seq ?_
          refine AW.region ?_
          refine s_move (d := (sc (.int .i64 a0))) rfl ?_
          refine s_convI F.u_3 F.u_5 rfl ?_
          refine s_buildSlice (n := 1) (ps := [(0, (sc (.int .u8 (IntKind.u8.wrap a0))))]) (cs := rowC e_u8 ([IntKind.u8.wrap a0] : List Int)) F.u_31 F.sz_5 F.z_5 rfl rfl (by decide) (by decide) rfl rfl ?_
          refine s_assign (d := (D.one (C.own 0 0 (([IntKind.u8.wrap a0] : List Int).length) 1))) rfl ?_
          refine AWops.nil ?_
          refine AW.ret ?_
          obtain rfl := Option.some.inj h
          exact ⟨_, rfl, (Weak.gen (kk := 0) [0] [] rfl rfl (by decide) (by decide) rfl rfl rfl (le_upd (le_top _) (.t (.one (.own rfl)))) (All2.cons (.cells (fun h => h) (all2_row _)) All2.nil))⟩
        · replace h := (if_neg c8).symm.trans h
          replace c8 := Bool.eq_false_iff.mpr c8
          refine AW.cond_no rfl c8 ?_
          refine AW.seq ?_
          refine AW.region ?_
          refine s_move (d := (sc (.int .i64 a0))) rfl ?_
          refine s_binI (v := (.bool (decide (a0 < 2048)))) rfl rfl rfl ?_
          refine s_assign (d := (sc (.bool (decide (a0 < 2048))))) rfl ?_
          refine AWops.nil ?_
          by_cases c9 : (decide (a0 < 2048)) = true
          · replace h := (if_pos c9).symm.trans h
            refine AW.cond_yes rfl c9 ?_
            refine AW.seq ?_
            refine AW.region ?_
            refine s_move (d := (sc (.int .i64 a0))) rfl ?_
            refine s_shift (v := (.int .i64 (Int.fdiv a0 (2 ^ 6)))) rfl rfl rfl ?_
            refine s_binI (v := (.int .i64 (IntKind.i64.wrap (192 + (Int.fdiv a0 (2 ^ 6)))))) rfl rfl rfl ?_
            refine s_convI F.u_3 F.u_5 rfl ?_
            refine s_move (d := (sc (.int .i64 a0))) rfl ?_
            refine s_binI (v := (.int .i64 (Int.tmod a0 64))) rfl rfl rfl ?_
            refine s_binI (v := (.int .i64 (IntKind.i64.wrap (128 + (Int.tmod a0 64))))) rfl rfl rfl ?_
            refine s_convI F.u_3 F.u_5 rfl ?_
            refine s_buildSlice (n := 2) (ps := [(0, (sc (.int .u8 (IntKind.u8.wrap (IntKind.i64.wrap (192 + (Int.fdiv a0 (2 ^ 6)))))))), (1, (sc (.int .u8 (IntKind.u8.wrap (IntKind.i64.wrap (128 + (Int.tmod a0 64)))))))]) (cs := rowC e_u8 ([IntKind.u8.wrap (IntKind.i64.wrap (192 + (Int.fdiv a0 (2 ^ 6)))), IntKind.u8.wrap (IntKind.i64.wrap (128 + (Int.tmod a0 64)))] : List Int)) F.u_31 F.sz_5 F.z_5 rfl rfl (by decide) (by decide) rfl rfl ?_
            refine s_assign (d := (D.one (C.own 0 0 (([IntKind.u8.wrap (IntKind.i64.wrap (192 + (Int.fdiv a0 (2 ^ 6)))), IntKind.u8.wrap (IntKind.i64.wrap (128 + (Int.tmod a0 64)))] : List Int).length) 1))) rfl ?_
            refine AWops.nil ?_
            refine AW.ret ?_
            obtain rfl := Option.some.inj h
            exact ⟨_, rfl, (Weak.gen (kk := 0) [0] [] rfl rfl (by decide) (by decide) rfl rfl rfl (le_upd (le_top _) (.t (.one (.own rfl)))) (All2.cons (.cells (fun h => h) (all2_row _)) All2.nil))⟩
          · replace h := (if_neg c9).symm.trans h
            replace c9 := Bool.eq_false_iff.mpr c9
            refine AW.cond_no rfl c9 ?_
            refine AW.seq ?_
            refine AW.region ?_
            refine s_move (d := (sc (.int .i64 a0))) rfl ?_
            refine s_binI (v := (.bool (decide (a0 < 65536)))) rfl rfl rfl ?_
            refine s_assign (d := (sc (.bool (decide (a0 < 65536))))) rfl ?_
            refine AWops.nil ?_
            by_cases c10 : (decide (a0 < 65536)) = true
            · replace h := (if_pos c10).symm.trans h
              refine AW.cond_yes rfl c10 ?_
              refine AW.seq ?_
              refine AW.region ?_
              refine s_move (d := (sc (.int .i64 a0))) rfl ?_
              refine s_shift (v := (.int .i64 (Int.fdiv a0 (2 ^ 12)))) rfl rfl rfl ?_
              refine s_binI (v := (.int .i64 (IntKind.i64.wrap (224 + (Int.fdiv a0 (2 ^ 12)))))) rfl rfl rfl ?_
              refine s_convI F.u_3 F.u_5 rfl ?_
              refine s_move (d := (sc (.int .i64 a0))) rfl ?_
              refine s_shift (v := (.int .i64 (Int.fdiv a0 (2 ^ 6)))) rfl rfl rfl ?_
              refine s_binI (v := (.int .i64 (Int.tmod (Int.fdiv a0 (2 ^ 6)) 64))) rfl rfl rfl ?_
              refine s_binI (v := (.int .i64 (IntKind.i64.wrap (128 + (Int.tmod (Int.fdiv a0 (2 ^ 6)) 64))))) rfl rfl rfl ?_
              refine s_convI F.u_3 F.u_5 rfl ?_
              refine s_move (d := (sc (.int .i64 a0))) rfl ?_
              refine s_binI (v := (.int .i64 (Int.tmod a0 64))) rfl rfl rfl ?_
              refine s_binI (v := (.int .i64 (IntKind.i64.wrap (128 + (Int.tmod a0 64))))) rfl rfl rfl ?_
              refine s_convI F.u_3 F.u_5 rfl ?_
              refine s_buildSlice (n := 3) (ps := [(0, (sc (.int .u8 (IntKind.u8.wrap (IntKind.i64.wrap (224 + (Int.fdiv a0 (2 ^ 12)))))))), (1, (sc (.int .u8 (IntKind.u8.wrap (IntKind.i64.wrap (128 + (Int.tmod (Int.fdiv a0 (2 ^ 6)) 64))))))), (2, (sc (.int .u8 (IntKind.u8.wrap (IntKind.i64.wrap (128 + (Int.tmod a0 64)))))))]) (cs := rowC e_u8 ([IntKind.u8.wrap (IntKind.i64.wrap (224 + (Int.fdiv a0 (2 ^ 12)))), IntKind.u8.wrap (IntKind.i64.wrap (128 + (Int.tmod (Int.fdiv a0 (2 ^ 6)) 64))), IntKind.u8.wrap (IntKind.i64.wrap (128 + (Int.tmod a0 64)))] : List Int)) F.u_31 F.sz_5 F.z_5 rfl rfl (by decide) (by decide) rfl rfl ?_
              refine s_assign (d := (D.one (C.own 0 0 (([IntKind.u8.wrap (IntKind.i64.wrap (224 + (Int.fdiv a0 (2 ^ 12)))), IntKind.u8.wrap (IntKind.i64.wrap (128 + (Int.tmod (Int.fdiv a0 (2 ^ 6)) 64))), IntKind.u8.wrap (IntKind.i64.wrap (128 + (Int.tmod a0 64)))] : List Int).length) 1))) rfl ?_
              refine AWops.nil ?_
              refine AW.ret ?_
              obtain rfl := Option.some.inj h
              exact ⟨_, rfl, (Weak.gen (kk := 0) [0] [] rfl rfl (by decide) (by decide) rfl rfl rfl (le_upd (le_top _) (.t (.one (.own rfl)))) (All2.cons (.cells (fun h => h) (all2_row _)) All2.nil))⟩
            · replace h := (if_neg c10).symm.trans h
              replace c10 := Bool.eq_false_iff.mpr c10
              refine AW.cond_no rfl c10 ?_
              refine AW.skip ?_
              refine AW.seq ?_
              refine AW.region ?_
              refine s_move (d := (sc (.int .i64 a0))) rfl ?_
              refine s_shift (v := (.int .i64 (Int.fdiv a0 (2 ^ 18)))) rfl rfl rfl ?_
              refine s_binI (v := (.int .i64 (IntKind.i64.wrap (240 + (Int.fdiv a0 (2 ^ 18)))))) rfl rfl rfl ?_
              refine s_convI F.u_3 F.u_5 rfl ?_
              refine s_move (d := (sc (.int .i64 a0))) rfl ?_
              refine s_shift (v := (.int .i64 (Int.fdiv a0 (2 ^ 12)))) rfl rfl rfl ?_
              refine s_binI (v := (.int .i64 (Int.tmod (Int.fdiv a0 (2 ^ 12)) 64))) rfl rfl rfl ?_
              refine s_binI (v := (.int .i64 (IntKind.i64.wrap (128 + (Int.tmod (Int.fdiv a0 (2 ^ 12)) 64))))) rfl rfl rfl ?_
              refine s_convI F.u_3 F.u_5 rfl ?_
              refine s_move (d := (sc (.int .i64 a0))) rfl ?_
              refine s_shift (v := (.int .i64 (Int.fdiv a0 (2 ^ 6)))) rfl rfl rfl ?_
              refine s_binI (v := (.int .i64 (Int.tmod (Int.fdiv a0 (2 ^ 6)) 64))) rfl rfl rfl ?_
              refine s_binI (v := (.int .i64 (IntKind.i64.wrap (128 + (Int.tmod (Int.fdiv a0 (2 ^ 6)) 64))))) rfl rfl rfl ?_
              refine s_convI F.u_3 F.u_5 rfl ?_
              refine s_move (d := (sc (.int .i64 a0))) rfl ?_
              refine s_binI (v := (.int .i64 (Int.tmod a0 64))) rfl rfl rfl ?_
              refine s_binI (v := (.int .i64 (IntKind.i64.wrap (128 + (Int.tmod a0 64))))) rfl rfl rfl ?_
              refine s_convI F.u_3 F.u_5 rfl ?_
              refine s_buildSlice (n := 4) (ps := [(0, (sc (.int .u8 (IntKind.u8.wrap (IntKind.i64.wrap (240 + (Int.fdiv a0 (2 ^ 18)))))))), (1, (sc (.int .u8 (IntKind.u8.wrap (IntKind.i64.wrap (128 + (Int.tmod (Int.fdiv a0 (2 ^ 12)) 64))))))), (2, (sc (.int .u8 (IntKind.u8.wrap (IntKind.i64.wrap (128 + (Int.tmod (Int.fdiv a0 (2 ^ 6)) 64))))))), (3, (sc (.int .u8 (IntKind.u8.wrap (IntKind.i64.wrap (128 + (Int.tmod a0 64)))))))]) (cs := rowC e_u8 ([IntKind.u8.wrap (IntKind.i64.wrap (240 + (Int.fdiv a0 (2 ^ 18)))), IntKind.u8.wrap (IntKind.i64.wrap (128 + (Int.tmod (Int.fdiv a0 (2 ^ 12)) 64))), IntKind.u8.wrap (IntKind.i64.wrap (128 + (Int.tmod (Int.fdiv a0 (2 ^ 6)) 64))), IntKind.u8.wrap (IntKind.i64.wrap (128 + (Int.tmod a0 64)))] : List Int)) F.u_31 F.sz_5 F.z_5 rfl rfl (by decide) (by decide) rfl rfl ?_
              refine s_assign (d := (D.one (C.own 0 0 (([IntKind.u8.wrap (IntKind.i64.wrap (240 + (Int.fdiv a0 (2 ^ 18)))), IntKind.u8.wrap (IntKind.i64.wrap (128 + (Int.tmod (Int.fdiv a0 (2 ^ 12)) 64))), IntKind.u8.wrap (IntKind.i64.wrap (128 + (Int.tmod (Int.fdiv a0 (2 ^ 6)) 64))), IntKind.u8.wrap (IntKind.i64.wrap (128 + (Int.tmod a0 64)))] : List Int).length) 1))) rfl ?_
              refine AWops.nil ?_
              refine AW.ret ?_
              obtain rfl := Option.some.inj h
              exact ⟨_, rfl, (Weak.gen (kk := 0) [0] [] rfl rfl (by decide) (by decide) rfl rfl rfl (le_upd (le_top _) (.t (.one (.own rfl)))) (All2.cons (.cells (fun h => h) (all2_row _)) All2.nil))⟩
mutual
def dossierref01_Decode.l1 : Nat → Int → Int → (List Int) → Int → Option (Int × Int)
  | 0, _, _, _, _ => none
  | k + 1, x7, x8, a0, x3 => if (decide (x8 < ((sub a0 1 x3).length : Int))) = true then ((rd (sub a0 1 x3) x8).bind fun v10 => if (decide (v10 < 128)) = true then (some (0, 0)) else (if (decide (v10 > 191)) = true then (some (0, 0)) else (dossierref01_Decode.l1 k (IntKind.i64.wrap ((IntKind.i64.wrap ((IntKind.i64.wrap (x7 * 64)) + (IntKind.i64.wrap v10))) - 128)) (IntKind.i64.wrap (x8 + 1)) a0 x3))) else ((dossierref01_Encode.f k x7).bind fun r13 => if (decide (0 ≤ 0 ∧ 0 ≤ x3 ∧ x3 ≤ (a0.length : Int))) = true then (if ((ofNums r13).toList == (ofNums (sub a0 0 x3)).toList) = true then (some (x7, x3)) else (some (0, 0))) else none)
def dossierref01_Decode.j0 : Nat → Int → Int → (List Int) → Option (Int × Int)
  | 0, _, _, _ => none
  | k + 1, x3, x4, a0 => if (decide (x3 > (a0.length : Int))) = true then (some (0, 0)) else (if (decide (0 ≤ 1 ∧ 1 ≤ x3 ∧ x3 ≤ (a0.length : Int))) = true then (dossierref01_Decode.l1 k x4 0 a0 x3) else none)
end
def dossierref01_Decode.f (k : Nat) (a0 : List Int) : Option (Int × Int) := if ((a0.length : Int) == 0) = true then (some (0, 0)) else ((rd a0 0).bind fun v2 => (rd a0 0).bind fun v3 => if (decide (v3 ≥ 240)) = true then ((rd a0 0).bind fun v5 => dossierref01_Decode.j0 k 4 (IntKind.i64.wrap ((IntKind.i64.wrap v5) - 240)) a0) else ((rd a0 0).bind fun v6 => if (decide (v6 ≥ 224)) = true then ((rd a0 0).bind fun v8 => dossierref01_Decode.j0 k 3 (IntKind.i64.wrap ((IntKind.i64.wrap v8) - 224)) a0) else ((rd a0 0).bind fun v9 => if (decide (v9 ≥ 192)) = true then ((rd a0 0).bind fun v11 => dossierref01_Decode.j0 k 2 (IntKind.i64.wrap ((IntKind.i64.wrap v11) - 192)) a0) else (dossierref01_Decode.j0 k 1 (IntKind.i64.wrap v2) a0))))
theorem dossierref01_Decode.meets (k : Nat) (a0 : List Int) (r : Int × Int) (h : dossierref01_Decode.f k a0 = some r) : Meets Tryd.prog 21 [(D.one (C.p false (.sl a0.length (a0.flatMap e_u8))))] [] (D.tup [(sc (.int .i64 r.1)), (sc (.int .i64 r.2))]) [] := by
  unfold dossierref01_Decode.f at h
  refine Meets.of_body (n := 80) Tryd.func21 rfl rfl (Nat.le_of_ble_eq_true rfl) fun x hx => ?_
  replace hx : x.k = 0 := hx
  show AW _ x _ _ ⟨80, fr0 [(D.one (C.p false (.sl a0.length (a0.flatMap e_u8))))], []⟩
  refine AW.seq ?_
  refine AW.region ?_
  refine s_assign (d := (sc (.int .i64 0))) rfl ?_
  refine s_assign (d := (sc (.int .i64 0))) rfl ?_
  refine AWops.nil ?_
  refine AW.seq ?_
  refine AW.seq ?_
  refine AW.region ?_
  refine s_move (d := (D.one (C.p false (.sl a0.length (a0.flatMap e_u8))))) rfl ?_
  refine s_len (n := a0.length) F.u_31 rfl (.inr ⟨(fun _ _ h => by cases h), ⟨_, rfl⟩⟩) ?_
  refine s_binI (v := (.bool ((a0.length : Int) == 0))) rfl rfl rfl ?_
  refine AWops.nil ?_
  by_cases c1 : ((a0.length : Int) == 0) = true
  · replace h := (if_pos c1).symm.trans h
    refine AW.cond_yes rfl c1 ?_
    refine AW.seq ?_
    refine AW.region ?_
    refine s_assign (d := (sc (.int .i64 0))) rfl ?_
    refine s_assign (d := (sc (.int .i64 0))) rfl ?_
    refine AWops.nil ?_
    refine AW.ret ?_
    obtain rfl := Option.some.inj h
    exact ⟨_, rfl, (Weak.gen (kk := 0) [] [] rfl rfl (by decide) (by decide) rfl rfl rfl (le_upd (le_top _) (DLe.tup (All2.cons (TLe.one .sc) (All2.cons (TLe.one .sc) All2.nil)))) All2.nil)⟩
  · replace h := (if_neg c1).symm.trans h
    replace c1 := Bool.eq_false_iff.mpr c1
    refine AW.cond_no rfl c1 ?_
    refine AW.skip ?_
    refine AW.seq ?_
    refine AW.weak (st' := ⟨80, (upd 80 topF 0 (D.one (C.p false (.sl a0.length (a0.flatMap e_u8))))), []⟩) (Weak.gen (kk := 0) [] [] hx rfl (by decide) (by decide) rfl rfl rfl (le_upd (le_top _) (.t (.one .same))) All2.nil) ?_
    obtain ⟨v2, ev2, h⟩ := Option.bind_eq_some_iff.mp h
    obtain ⟨pv2, qv2, gv2⟩ := rd_some ev2
    refine AW.draw (n := 80) (L := 0) [(0, ⟨some 11, (D.one (C.p false (.sl a0.length (a0.flatMap e_u8)))), [(0, (D.one (C.p false (.sl a0.length (a0.flatMap e_u8)))))], [], [], none⟩), (1, ⟨some 12, (D.one (C.peek false [P.v (.int .u8 v2)])), [(11, (D.one (C.p false (.sl a0.length (a0.flatMap e_u8)))))], [], [], none⟩), (2, ⟨some 13, (sc (.int .u8 v2)), [(12, (D.one (C.peek false [P.v (.int .u8 v2)])))], [], [], none⟩), (3, ⟨some 14, (sc (.int .i64 (IntKind.i64.wrap v2))), [(13, (sc (.int .u8 v2)))], [], [], none⟩), (4, ⟨some 4, (sc (.int .i64 1)), [], [], [], none⟩), (5, ⟨some 5, (sc (.int .i64 (IntKind.i64.wrap v2))), [(14, (sc (.int .i64 (IntKind.i64.wrap v2))))], [], [], none⟩)] [[], [0], [0, 1], [0, 1, 2], [], [0, 1, 2, 3, 4]] (Nat.le_of_ble_eq_true rfl) [1, 2, 3, 4, 0, 5] rfl (TK := []) rfl AllK.nil' (AllF.cons' ⟨(AllS.cons' rfl AllS.nil'), AllH.nil'⟩ (AllF.cons' ⟨(AllS.cons' rfl AllS.nil'), AllH.nil'⟩ (AllF.cons' ⟨(AllS.cons' rfl AllS.nil'), AllH.nil'⟩ (AllF.cons' ⟨(AllS.cons' rfl AllS.nil'), AllH.nil'⟩ (AllF.cons' ⟨AllS.nil', AllH.nil'⟩ (AllF.cons' ⟨(AllS.cons' rfl AllS.nil'), AllH.nil'⟩ AllF.nil')))))) ?_ ?_
    · refine (AllStep.cons' ?_ (AllStep.cons' ?_ (AllStep.cons' ?_ (AllStep.cons' ?_ (AllStep.cons' ?_ (AllStep.cons' ?_ AllStep.nil'))))))
      · intro K rest fr hv htk k
        show AWops _ x _ _ K ⟨80, (upd 80 fr 0 (D.one (C.p false (.sl a0.length (a0.flatMap e_u8))))), []⟩
        refine s_move (d := (D.one (C.p false (.sl a0.length (a0.flatMap e_u8))))) rfl ?_
        exact k
      · intro K rest fr hv htk k
        show AWops _ x _ _ K ⟨80, (upd 80 fr 11 (D.one (C.p false (.sl a0.length (a0.flatMap e_u8))))), []⟩
        refine s_indexImm (ps := [P.v (.int .u8 v2)]) F.u_31 F.sz_5 rfl rfl pv2 qv2 (flat_at e_u8_len gv2 (e_u8_eq v2)) ?_
        exact k
      · intro K rest fr hv htk k
        show AWops _ x _ _ K ⟨80, (upd 80 fr 12 (D.one (C.peek false [P.v (.int .u8 v2)]))), []⟩
        refine s_load1 (c' := (C.p true (.v (.int .u8 v2)))) F.ag_5 rfl rfl ?_
        exact k
      · intro K rest fr hv htk k
        show AWops _ x _ _ K ⟨80, (upd 80 fr 13 (sc (.int .u8 v2))), []⟩
        refine s_convI F.u_5 F.u_3 rfl ?_
        exact k
      · intro K rest fr hv htk k
        show AWops _ x _ _ K ⟨80, fr, []⟩
        refine s_assign (d := (sc (.int .i64 1))) rfl ?_
        exact k
      · intro K rest fr hv htk k
        show AWops _ x _ _ K ⟨80, (upd 80 fr 14 (sc (.int .i64 (IntKind.i64.wrap v2)))), []⟩
        refine s_assign (d := (sc (.int .i64 (IntKind.i64.wrap v2)))) rfl ?_
        exact k
    · refine AWops.weak (st' := ⟨80, (upd 80 (upd 80 (upd 80 topF 0 (D.one (C.p false (.sl a0.length (a0.flatMap e_u8))))) 4 (sc (.int .i64 1))) 5 (sc (.int .i64 (IntKind.i64.wrap v2)))), []⟩) (Weak.gen (kk := 0) [] [] hx rfl (by decide) (by decide) rfl rfl rfl (le_upd (le_upd (le_upd (le_top _) (.t (.one .same))) (.t (.one .sc))) (.t (.one .sc))) All2.nil) ?_
      refine AWops.nil ?_
      refine AW.seqJ (fun st => ∃ (x3 : Int) (x4 : Int), dossierref01_Decode.j0 k x3 x4 a0 = some r ∧ st = ⟨80, (upd 80 (upd 80 (upd 80 topF 0 (D.one (C.p false (.sl a0.length (a0.flatMap e_u8))))) 4 (sc (.int .i64 x3))) 5 (sc (.int .i64 x4))), []⟩) ?_ ?_
      · refine AW.block ?_
        refine AW.seq ?_
        refine AW.region ?_
        refine s_move (d := (D.one (C.p false (.sl a0.length (a0.flatMap e_u8))))) rfl ?_
        obtain ⟨v3, ev3, h⟩ := Option.bind_eq_some_iff.mp h
        obtain ⟨pv3, qv3, gv3⟩ := rd_some ev3
        refine s_indexImm (ps := [P.v (.int .u8 v3)]) F.u_31 F.sz_5 rfl rfl pv3 qv3 (flat_at e_u8_len gv3 (e_u8_eq v3)) ?_
        refine s_load1 (c' := (C.p true (.v (.int .u8 v3)))) F.ag_5 rfl rfl ?_
        refine s_binI (v := (.bool (decide (v3 ≥ 240)))) rfl rfl rfl ?_
        refine s_assign (d := (sc (.bool (decide (v3 ≥ 240))))) rfl ?_
        refine AWops.nil ?_
        by_cases c4 : (decide (v3 ≥ 240)) = true
        · replace h := (if_pos c4).symm.trans h
          refine AW.cond_yes rfl c4 ?_
          refine AW.weak (st' := ⟨80, (upd 80 (upd 80 (upd 80 topF 0 (D.one (C.p false (.sl a0.length (a0.flatMap e_u8))))) 4 (sc (.int .i64 1))) 5 (sc (.int .i64 (IntKind.i64.wrap v2)))), []⟩) (Weak.gen (kk := 0) [] [] hx rfl (by decide) (by decide) rfl rfl rfl (le_upd (le_upd (le_upd (le_top _) (.t (.one .same))) (.t (.one .sc))) (.t (.one .sc))) All2.nil) ?_
          obtain ⟨v5, ev5, h⟩ := Option.bind_eq_some_iff.mp h
          obtain ⟨pv5, qv5, gv5⟩ := rd_some ev5
          refine AW.draw (n := 80) (L := 0) [(0, ⟨some 20, (D.one (C.p false (.sl a0.length (a0.flatMap e_u8)))), [(0, (D.one (C.p false (.sl a0.length (a0.flatMap e_u8)))))], [], [], none⟩), (1, ⟨some 21, (D.one (C.peek false [P.v (.int .u8 v5)])), [(20, (D.one (C.p false (.sl a0.length (a0.flatMap e_u8)))))], [], [], none⟩), (2, ⟨some 22, (sc (.int .u8 v5)), [(21, (D.one (C.peek false [P.v (.int .u8 v5)])))], [], [], none⟩), (3, ⟨some 23, (sc (.int .i64 (IntKind.i64.wrap v5))), [(22, (sc (.int .u8 v5)))], [], [], none⟩), (4, ⟨some 24, (sc (.int .i64 (IntKind.i64.wrap ((IntKind.i64.wrap v5) - 240)))), [(23, (sc (.int .i64 (IntKind.i64.wrap v5))))], [], [], none⟩), (5, ⟨some 4, (sc (.int .i64 4)), [], [], [], none⟩), (6, ⟨some 5, (sc (.int .i64 (IntKind.i64.wrap ((IntKind.i64.wrap v5) - 240)))), [(24, (sc (.int .i64 (IntKind.i64.wrap ((IntKind.i64.wrap v5) - 240)))))], [], [], none⟩)] [[], [0], [0, 1], [0, 1, 2], [0, 1, 2, 3], [], [0, 1, 2, 3, 4, 5]] (Nat.le_of_ble_eq_true rfl) [1, 2, 3, 4, 5, 0, 6] rfl (TK := []) rfl AllK.nil' (AllF.cons' ⟨(AllS.cons' rfl AllS.nil'), AllH.nil'⟩ (AllF.cons' ⟨(AllS.cons' rfl AllS.nil'), AllH.nil'⟩ (AllF.cons' ⟨(AllS.cons' rfl AllS.nil'), AllH.nil'⟩ (AllF.cons' ⟨(AllS.cons' rfl AllS.nil'), AllH.nil'⟩ (AllF.cons' ⟨(AllS.cons' rfl AllS.nil'), AllH.nil'⟩ (AllF.cons' ⟨AllS.nil', AllH.nil'⟩ (AllF.cons' ⟨(AllS.cons' rfl AllS.nil'), AllH.nil'⟩ AllF.nil'))))))) ?_ ?_
          · refine (AllStep.cons' ?_ (AllStep.cons' ?_ (AllStep.cons' ?_ (AllStep.cons' ?_ (AllStep.cons' ?_ (AllStep.cons' ?_ (AllStep.cons' ?_ AllStep.nil')))))))
            · intro K rest fr hv htk k
              show AWops _ x _ _ K ⟨80, (upd 80 fr 0 (D.one (C.p false (.sl a0.length (a0.flatMap e_u8))))), []⟩
              refine s_move (d := (D.one (C.p false (.sl a0.length (a0.flatMap e_u8))))) rfl ?_
              exact k
            · intro K rest fr hv htk k
              show AWops _ x _ _ K ⟨80, (upd 80 fr 20 (D.one (C.p false (.sl a0.length (a0.flatMap e_u8))))), []⟩
              refine s_indexImm (ps := [P.v (.int .u8 v5)]) F.u_31 F.sz_5 rfl rfl pv5 qv5 (flat_at e_u8_len gv5 (e_u8_eq v5)) ?_
              exact k
            · intro K rest fr hv htk k
              show AWops _ x _ _ K ⟨80, (upd 80 fr 21 (D.one (C.peek false [P.v (.int .u8 v5)]))), []⟩
              refine s_load1 (c' := (C.p true (.v (.int .u8 v5)))) F.ag_5 rfl rfl ?_
              exact k
            · intro K rest fr hv htk k
              show AWops _ x _ _ K ⟨80, (upd 80 fr 22 (sc (.int .u8 v5))), []⟩
              refine s_convI F.u_5 F.u_3 rfl ?_
              exact k
            · intro K rest fr hv htk k
              show AWops _ x _ _ K ⟨80, (upd 80 fr 23 (sc (.int .i64 (IntKind.i64.wrap v5)))), []⟩
              refine s_binI (v := (.int .i64 (IntKind.i64.wrap ((IntKind.i64.wrap v5) - 240)))) rfl rfl rfl ?_
              exact k
            · intro K rest fr hv htk k
              show AWops _ x _ _ K ⟨80, fr, []⟩
              refine s_assign (d := (sc (.int .i64 4))) rfl ?_
              exact k
            · intro K rest fr hv htk k
              show AWops _ x _ _ K ⟨80, (upd 80 fr 24 (sc (.int .i64 (IntKind.i64.wrap ((IntKind.i64.wrap v5) - 240))))), []⟩
              refine s_assign (d := (sc (.int .i64 (IntKind.i64.wrap ((IntKind.i64.wrap v5) - 240))))) rfl ?_
              exact k
          · refine AWops.weak (st' := ⟨80, (upd 80 (upd 80 (upd 80 topF 0 (D.one (C.p false (.sl a0.length (a0.flatMap e_u8))))) 4 (sc (.int .i64 4))) 5 (sc (.int .i64 (IntKind.i64.wrap ((IntKind.i64.wrap v5) - 240))))), []⟩) (Weak.gen (kk := 0) [] [] hx rfl (by decide) (by decide) rfl rfl rfl (le_upd (le_upd (le_upd (le_top _) (.t (.one .same))) (.t (.one .sc))) (.t (.one .sc))) All2.nil) ?_
            refine AWops.nil ?_
            exact ⟨⟨80, (upd 80 (upd 80 (upd 80 topF 0 (D.one (C.p false (.sl a0.length (a0.flatMap e_u8))))) 4 (sc (.int .i64 4))) 5 (sc (.int .i64 (IntKind.i64.wrap ((IntKind.i64.wrap v5) - 240))))), []⟩, (Weak.gen (kk := 0) [] [] hx rfl (by decide) (by decide) rfl rfl rfl (le_upd (le_upd (le_upd (le_top _) (.t (.one .same))) (.t (.one .sc))) (.t (.one .sc))) All2.nil), 4, IntKind.i64.wrap ((IntKind.i64.wrap v5) - 240), h, rfl⟩
        · replace h := (if_neg c4).symm.trans h
          replace c4 := Bool.eq_false_iff.mpr c4
          refine AW.cond_no rfl c4 ?_
          refine AW.seq ?_
          refine AW.region ?_
          refine s_move (d := (D.one (C.p false (.sl a0.length (a0.flatMap e_u8))))) rfl ?_
          obtain ⟨v6, ev6, h⟩ := Option.bind_eq_some_iff.mp h
          obtain ⟨pv6, qv6, gv6⟩ := rd_some ev6
          refine s_indexImm (ps := [P.v (.int .u8 v6)]) F.u_31 F.sz_5 rfl rfl pv6 qv6 (flat_at e_u8_len gv6 (e_u8_eq v6)) ?_
          refine s_load1 (c' := (C.p true (.v (.int .u8 v6)))) F.ag_5 rfl rfl ?_
          refine s_binI (v := (.bool (decide (v6 ≥ 224)))) rfl rfl rfl ?_
          refine s_assign (d := (sc (.bool (decide (v6 ≥ 224))))) rfl ?_
          refine AWops.nil ?_
          by_cases c7 : (decide (v6 ≥ 224)) = true
          · replace h := (if_pos c7).symm.trans h
            refine AW.cond_yes rfl c7 ?_
            refine AW.weak (st' := ⟨80, (upd 80 (upd 80 (upd 80 topF 0 (D.one (C.p false (.sl a0.length (a0.flatMap e_u8))))) 4 (sc (.int .i64 1))) 5 (sc (.int .i64 (IntKind.i64.wrap v2)))), []⟩) (Weak.gen (kk := 0) [] [] hx rfl (by decide) (by decide) rfl rfl rfl (le_upd (le_upd (le_upd (le_top _) (.t (.one .same))) (.t (.one .sc))) (.t (.one .sc))) All2.nil) ?_
            obtain ⟨v8, ev8, h⟩ := Option.bind_eq_some_iff.mp h
            obtain ⟨pv8, qv8, gv8⟩ := rd_some ev8
            refine AW.draw (n := 80) (L := 0) [(0, ⟨some 30, (D.one (C.p false (.sl a0.length (a0.flatMap e_u8)))), [(0, (D.one (C.p false (.sl a0.length (a0.flatMap e_u8)))))], [], [], none⟩), (1, ⟨some 31, (D.one (C.peek false [P.v (.int .u8 v8)])), [(30, (D.one (C.p false (.sl a0.length (a0.flatMap e_u8)))))], [], [], none⟩), (2, ⟨some 32, (sc (.int .u8 v8)), [(31, (D.one (C.peek false [P.v (.int .u8 v8)])))], [], [], none⟩), (3, ⟨some 33, (sc (.int .i64 (IntKind.i64.wrap v8))), [(32, (sc (.int .u8 v8)))], [], [], none⟩), (4, ⟨some 34, (sc (.int .i64 (IntKind.i64.wrap ((IntKind.i64.wrap v8) - 224)))), [(33, (sc (.int .i64 (IntKind.i64.wrap v8))))], [], [], none⟩), (5, ⟨some 4, (sc (.int .i64 3)), [], [], [], none⟩), (6, ⟨some 5, (sc (.int .i64 (IntKind.i64.wrap ((IntKind.i64.wrap v8) - 224)))), [(34, (sc (.int .i64 (IntKind.i64.wrap ((IntKind.i64.wrap v8) - 224)))))], [], [], none⟩)] [[], [0], [0, 1], [0, 1, 2], [0, 1, 2, 3], [], [0, 1, 2, 3, 4, 5]] (Nat.le_of_ble_eq_true rfl) [1, 2, 3, 4, 5, 0, 6] rfl (TK := []) rfl AllK.nil' (AllF.cons' ⟨(AllS.cons' rfl AllS.nil'), AllH.nil'⟩ (AllF.cons' ⟨(AllS.cons' rfl AllS.nil'), AllH.nil'⟩ (AllF.cons' ⟨(AllS.cons' rfl AllS.nil'), AllH.nil'⟩ (AllF.cons' ⟨(AllS.cons' rfl AllS.nil'), AllH.nil'⟩ (AllF.cons' ⟨(AllS.cons' rfl AllS.nil'), AllH.nil'⟩ (AllF.cons' ⟨AllS.nil', AllH.nil'⟩ (AllF.cons' ⟨(AllS.cons' rfl AllS.nil'), AllH.nil'⟩ AllF.nil'))))))) ?_ ?_
            · refine (AllStep.cons' ?_ (AllStep.cons' ?_ (AllStep.cons' ?_ (AllStep.cons' ?_ (AllStep.cons' ?_ (AllStep.cons' ?_ (AllStep.cons' ?_ AllStep.nil')))))))
              · intro K rest fr hv htk k
                show AWops _ x _ _ K ⟨80, (upd 80 fr 0 (D.one (C.p false (.sl a0.length (a0.flatMap e_u8))))), []⟩
                refine s_move (d := (D.one (C.p false (.sl a0.length (a0.flatMap e_u8))))) rfl ?_
                exact k
              · intro K rest fr hv htk k
                show AWops _ x _ _ K ⟨80, (upd 80 fr 30 (D.one (C.p false (.sl a0.length (a0.flatMap e_u8))))), []⟩
                refine s_indexImm (ps := [P.v (.int .u8 v8)]) F.u_31 F.sz_5 rfl rfl pv8 qv8 (flat_at e_u8_len gv8 (e_u8_eq v8)) ?_
                exact k
              · intro K rest fr hv htk k
                show AWops _ x _ _ K ⟨80, (upd 80 fr 31 (D.one (C.peek false [P.v (.int .u8 v8)]))), []⟩
                refine s_load1 (c' := (C.p true (.v (.int .u8 v8)))) F.ag_5 rfl rfl ?_
                exact k
              · intro K rest fr hv htk k
                show AWops _ x _ _ K ⟨80, (upd 80 fr 32 (sc (.int .u8 v8))), []⟩
                refine s_convI F.u_5 F.u_3 rfl ?_
                exact k
              · intro K rest fr hv htk k
                show AWops _ x _ _ K ⟨80, (upd 80 fr 33 (sc (.int .i64 (IntKind.i64.wrap v8)))), []⟩
                refine s_binI (v := (.int .i64 (IntKind.i64.wrap ((IntKind.i64.wrap v8) - 224)))) rfl rfl rfl ?_
                exact k
              · intro K rest fr hv htk k
                show AWops _ x _ _ K ⟨80, fr, []⟩
                refine s_assign (d := (sc (.int .i64 3))) rfl ?_
                exact k
              · intro K rest fr hv htk k
                show AWops _ x _ _ K ⟨80, (upd 80 fr 34 (sc (.int .i64 (IntKind.i64.wrap ((IntKind.i64.wrap v8) - 224))))), []⟩
                refine s_assign (d := (sc (.int .i64 (IntKind.i64.wrap ((IntKind.i64.wrap v8) - 224))))) rfl ?_
                exact k
            · refine AWops.weak (st' := ⟨80, (upd 80 (upd 80 (upd 80 topF 0 (D.one (C.p false (.sl a0.length (a0.flatMap e_u8))))) 4 (sc (.int .i64 3))) 5 (sc (.int .i64 (IntKind.i64.wrap ((IntKind.i64.wrap v8) - 224))))), []⟩) (Weak.gen (kk := 0) [] [] hx rfl (by decide) (by decide) rfl rfl rfl (le_upd (le_upd (le_upd (le_top _) (.t (.one .same))) (.t (.one .sc))) (.t (.one .sc))) All2.nil) ?_
              refine AWops.nil ?_
              exact ⟨⟨80, (upd 80 (upd 80 (upd 80 topF 0 (D.one (C.p false (.sl a0.length (a0.flatMap e_u8))))) 4 (sc (.int .i64 3))) 5 (sc (.int .i64 (IntKind.i64.wrap ((IntKind.i64.wrap v8) - 224))))), []⟩, (Weak.gen (kk := 0) [] [] hx rfl (by decide) (by decide) rfl rfl rfl (le_upd (le_upd (le_upd (le_top _) (.t (.one .same))) (.t (.one .sc))) (.t (.one .sc))) All2.nil), 3, IntKind.i64.wrap ((IntKind.i64.wrap v8) - 224), h, rfl⟩
          · replace h := (if_neg c7).symm.trans h
            replace c7 := Bool.eq_false_iff.mpr c7
            refine AW.cond_no rfl c7 ?_
            refine AW.seq ?_
            refine AW.region ?_
            refine s_move (d := (D.one (C.p false (.sl a0.length (a0.flatMap e_u8))))) rfl ?_
            obtain ⟨v9, ev9, h⟩ := Option.bind_eq_some_iff.mp h
            obtain ⟨pv9, qv9, gv9⟩ := rd_some ev9
            refine s_indexImm (ps := [P.v (.int .u8 v9)]) F.u_31 F.sz_5 rfl rfl pv9 qv9 (flat_at e_u8_len gv9 (e_u8_eq v9)) ?_
            refine s_load1 (c' := (C.p true (.v (.int .u8 v9)))) F.ag_5 rfl rfl ?_
            refine s_binI (v := (.bool (decide (v9 ≥ 192)))) rfl rfl rfl ?_
            refine s_assign (d := (sc (.bool (decide (v9 ≥ 192))))) rfl ?_
            refine AWops.nil ?_
            by_cases c10 : (decide (v9 ≥ 192)) = true
            · replace h := (if_pos c10).symm.trans h
              refine AW.cond_yes rfl c10 ?_
              refine AW.weak (st' := ⟨80, (upd 80 (upd 80 (upd 80 topF 0 (D.one (C.p false (.sl a0.length (a0.flatMap e_u8))))) 4 (sc (.int .i64 1))) 5 (sc (.int .i64 (IntKind.i64.wrap v2)))), []⟩) (Weak.gen (kk := 0) [] [] hx rfl (by decide) (by decide) rfl rfl rfl (le_upd (le_upd (le_upd (le_top _) (.t (.one .same))) (.t (.one .sc))) (.t (.one .sc))) All2.nil) ?_
              obtain ⟨v11, ev11, h⟩ := Option.bind_eq_some_iff.mp h
              obtain ⟨pv11, qv11, gv11⟩ := rd_some ev11
              refine AW.draw (n := 80) (L := 0) [(0, ⟨some 40, (D.one (C.p false (.sl a0.length (a0.flatMap e_u8)))), [(0, (D.one (C.p false (.sl a0.length (a0.flatMap e_u8)))))], [], [], none⟩), (1, ⟨some 41, (D.one (C.peek false [P.v (.int .u8 v11)])), [(40, (D.one (C.p false (.sl a0.length (a0.flatMap e_u8)))))], [], [], none⟩), (2, ⟨some 42, (sc (.int .u8 v11)), [(41, (D.one (C.peek false [P.v (.int .u8 v11)])))], [], [], none⟩), (3, ⟨some 43, (sc (.int .i64 (IntKind.i64.wrap v11))), [(42, (sc (.int .u8 v11)))], [], [], none⟩), (4, ⟨some 44, (sc (.int .i64 (IntKind.i64.wrap ((IntKind.i64.wrap v11) - 192)))), [(43, (sc (.int .i64 (IntKind.i64.wrap v11))))], [], [], none⟩), (5, ⟨some 4, (sc (.int .i64 2)), [], [], [], none⟩), (6, ⟨some 5, (sc (.int .i64 (IntKind.i64.wrap ((IntKind.i64.wrap v11) - 192)))), [(44, (sc (.int .i64 (IntKind.i64.wrap ((IntKind.i64.wrap v11) - 192)))))], [], [], none⟩)] [[], [0], [0, 1], [0, 1, 2], [0, 1, 2, 3], [], [0, 1, 2, 3, 4, 5]] (Nat.le_of_ble_eq_true rfl) [1, 2, 3, 4, 5, 0, 6] rfl (TK := []) rfl AllK.nil' (AllF.cons' ⟨(AllS.cons' rfl AllS.nil'), AllH.nil'⟩ (AllF.cons' ⟨(AllS.cons' rfl AllS.nil'), AllH.nil'⟩ (AllF.cons' ⟨(AllS.cons' rfl AllS.nil'), AllH.nil'⟩ (AllF.cons' ⟨(AllS.cons' rfl AllS.nil'), AllH.nil'⟩ (AllF.cons' ⟨(AllS.cons' rfl AllS.nil'), AllH.nil'⟩ (AllF.cons' ⟨AllS.nil', AllH.nil'⟩ (AllF.cons' ⟨(AllS.cons' rfl AllS.nil'), AllH.nil'⟩ AllF.nil'))))))) ?_ ?_
              · refine (AllStep.cons' ?_ (AllStep.cons' ?_ (AllStep.cons' ?_ (AllStep.cons' ?_ (AllStep.cons' ?_ (AllStep.cons' ?_ (AllStep.cons' ?_ AllStep.nil')))))))
                · intro K rest fr hv htk k
                  show AWops _ x _ _ K ⟨80, (upd 80 fr 0 (D.one (C.p false (.sl a0.length (a0.flatMap e_u8))))), []⟩
                  refine s_move (d := (D.one (C.p false (.sl a0.length (a0.flatMap e_u8))))) rfl ?_
                  exact k
                · intro K rest fr hv htk k
                  show AWops _ x _ _ K ⟨80, (upd 80 fr 40 (D.one (C.p false (.sl a0.length (a0.flatMap e_u8))))), []⟩
                  refine s_indexImm (ps := [P.v (.int .u8 v11)]) F.u_31 F.sz_5 rfl rfl pv11 qv11 (flat_at e_u8_len gv11 (e_u8_eq v11)) ?_
                  exact k
                · intro K rest fr hv htk k
                  show AWops _ x _ _ K ⟨80, (upd 80 fr 41 (D.one (C.peek false [P.v (.int .u8 v11)]))), []⟩
                  refine s_load1 (c' := (C.p true (.v (.int .u8 v11)))) F.ag_5 rfl rfl ?_
                  exact k
                · intro K rest fr hv htk k
                  show AWops _ x _ _ K ⟨80, (upd 80 fr 42 (sc (.int .u8 v11))), []⟩
                  refine s_convI F.u_5 F.u_3 rfl ?_
                  exact k
                · intro K rest fr hv htk k
                  show AWops _ x _ _ K ⟨80, (upd 80 fr 43 (sc (.int .i64 (IntKind.i64.wrap v11)))), []⟩
                  refine s_binI (v := (.int .i64 (IntKind.i64.wrap ((IntKind.i64.wrap v11) - 192)))) rfl rfl rfl ?_
                  exact k
                · intro K rest fr hv htk k
                  show AWops _ x _ _ K ⟨80, fr, []⟩
                  refine s_assign (d := (sc (.int .i64 2))) rfl ?_
                  exact k
                · intro K rest fr hv htk k
                  show AWops _ x _ _ K ⟨80, (upd 80 fr 44 (sc (.int .i64 (IntKind.i64.wrap ((IntKind.i64.wrap v11) - 192))))), []⟩
                  refine s_assign (d := (sc (.int .i64 (IntKind.i64.wrap ((IntKind.i64.wrap v11) - 192))))) rfl ?_
                  exact k
              · refine AWops.weak (st' := ⟨80, (upd 80 (upd 80 (upd 80 topF 0 (D.one (C.p false (.sl a0.length (a0.flatMap e_u8))))) 4 (sc (.int .i64 2))) 5 (sc (.int .i64 (IntKind.i64.wrap ((IntKind.i64.wrap v11) - 192))))), []⟩) (Weak.gen (kk := 0) [] [] hx rfl (by decide) (by decide) rfl rfl rfl (le_upd (le_upd (le_upd (le_top _) (.t (.one .same))) (.t (.one .sc))) (.t (.one .sc))) All2.nil) ?_
                refine AWops.nil ?_
                exact ⟨⟨80, (upd 80 (upd 80 (upd 80 topF 0 (D.one (C.p false (.sl a0.length (a0.flatMap e_u8))))) 4 (sc (.int .i64 2))) 5 (sc (.int .i64 (IntKind.i64.wrap ((IntKind.i64.wrap v11) - 192))))), []⟩, (Weak.gen (kk := 0) [] [] hx rfl (by decide) (by decide) rfl rfl rfl (le_upd (le_upd (le_upd (le_top _) (.t (.one .same))) (.t (.one .sc))) (.t (.one .sc))) All2.nil), 2, IntKind.i64.wrap ((IntKind.i64.wrap v11) - 192), h, rfl⟩
            · replace h := (if_neg c10).symm.trans h
              replace c10 := Bool.eq_false_iff.mpr c10
              refine AW.cond_no rfl c10 ?_
              refine AW.skip ?_
              exact ⟨⟨80, (upd 80 (upd 80 (upd 80 topF 0 (D.one (C.p false (.sl a0.length (a0.flatMap e_u8))))) 4 (sc (.int .i64 1))) 5 (sc (.int .i64 (IntKind.i64.wrap v2)))), []⟩, (Weak.gen (kk := 0) [] [] hx rfl (by decide) (by decide) rfl rfl rfl (le_upd (le_upd (le_upd (le_top _) (.t (.one .same))) (.t (.one .sc))) (.t (.one .sc))) All2.nil), 1, IntKind.i64.wrap v2, h, rfl⟩
      · rintro st ⟨x3, x4, h, rfl⟩
        cases k with
        | zero => exact absurd h (by simp [dossierref01_Decode.j0])
        | succ qj0 =>
          replace h := (dossierref01_Decode.j0.eq_2 _ _ _ _).symm.trans h
          refine AW.seq ?_
          refine AW.seq ?_
          refine AW.region ?_
          refine s_move (d := (sc (.int .i64 x3))) rfl ?_
          refine s_move (d := (D.one (C.p false (.sl a0.length (a0.flatMap e_u8))))) rfl ?_
          refine s_len (n := a0.length) F.u_31 rfl (.inr ⟨(fun _ _ h => by cases h), ⟨_, rfl⟩⟩) ?_
          refine s_binI (v := (.bool (decide (x3 > (a0.length : Int))))) rfl rfl rfl ?_
          refine AWops.nil ?_
          by_cases c5 : (decide (x3 > (a0.length : Int))) = true
          · replace h := (if_pos c5).symm.trans h
            refine AW.cond_yes rfl c5 ?_
            refine AW.seq ?_
            refine AW.region ?_
            refine s_assign (d := (sc (.int .i64 0))) rfl ?_
            refine s_assign (d := (sc (.int .i64 0))) rfl ?_
            refine AWops.nil ?_
            refine AW.ret ?_
            obtain rfl := Option.some.inj h
            exact ⟨_, rfl, (Weak.gen (kk := 0) [] [] rfl rfl (by decide) (by decide) rfl rfl rfl (le_upd (le_top _) (DLe.tup (All2.cons (TLe.one .sc) (All2.cons (TLe.one .sc) All2.nil)))) All2.nil)⟩
          · replace h := (if_neg c5).symm.trans h
            replace c5 := Bool.eq_false_iff.mpr c5
            refine AW.cond_no rfl c5 ?_
            refine AW.skip ?_
            refine AW.seq ?_
            refine AW.seq ?_
            refine AW.region ?_
            refine s_move (d := (D.one (C.p false (.sl a0.length (a0.flatMap e_u8))))) rfl ?_
            refine s_move (d := (sc (.int .i64 x3))) rfl ?_
            by_cases c6 : (decide (0 ≤ 1 ∧ 1 ≤ x3 ∧ x3 ≤ (a0.length : Int))) = true
            · replace h := (if_pos c6).symm.trans h
              have dc6 := of_decide_eq_true c6
              refine t_sliceImm (a := 1) (b := x3) F.u_31 F.sz_5 e_u8_len rfl (by omega) (by omega) (by omega) (.yes rfl (by omega) rfl) (.yes rfl (by omega) rfl) ?_
              refine s_len (n := (sub a0 1 x3).length) F.u_31 rfl (.inr ⟨(fun _ _ h => by cases h), ⟨_, rfl⟩⟩) ?_
              refine s_move (d := (sc (.int .i64 0))) rfl ?_
              refine AWops.nil ?_
              refine AW.block ?_
              refine AW.loopw (st0 := ⟨80, (upd 80 (upd 80 (upd 80 (upd 80 (upd 80 (upd 80 topF 0 (D.one (C.p false (.sl a0.length (a0.flatMap e_u8))))) 4 (sc (.int .i64 x3))) 5 (sc (.int .i64 x4))) 51 (D.one (C.p false (.sl (sub a0 1 x3).length ((sub a0 1 x3).flatMap e_u8))))) 52 (sc (.int .i64 ((sub a0 1 x3).length : Int)))) 53 (sc (.int .i64 0))), []⟩) (fun kv st => kv ≤ qj0 ∧ ∃ (x7 : Int) (x8 : Int), dossierref01_Decode.l1 kv x7 x8 a0 x3 = some r ∧ st = ⟨80, (upd 80 (upd 80 (upd 80 (upd 80 (upd 80 (upd 80 topF 0 (D.one (C.p false (.sl a0.length (a0.flatMap e_u8))))) 4 (sc (.int .i64 x3))) 5 (sc (.int .i64 x7))) 51 (D.one (C.p false (.sl (sub a0 1 x3).length ((sub a0 1 x3).flatMap e_u8))))) 52 (sc (.int .i64 ((sub a0 1 x3).length : Int)))) 53 (sc (.int .i64 x8))), []⟩) (k := qj0) (Weak.gen (kk := 0) [] [] hx rfl (by decide) (by decide) rfl rfl rfl (le_upd (le_upd (le_upd (le_upd (le_upd (le_upd (le_top _) (.t (.one .same))) (.t (.one .sc))) (.t (.one .sc))) (.t (.one .same))) (.t (.one .sc))) (.t (.one .sc))) All2.nil) ⟨Nat.le_refl _, x4, 0, h, rfl⟩ ?_
              rintro ql1 st ⟨hkl1, x7, x8, h, rfl⟩
              cases ql1 with
              | zero => exact absurd h (by simp [dossierref01_Decode.l1])
              | succ ql1 =>
                replace h := (dossierref01_Decode.l1.eq_2 _ _ _ _ _).symm.trans h
                refine AW.seq ?_
                refine AW.region ?_
                refine s_binI (v := (.bool (decide (x8 < ((sub a0 1 x3).length : Int))))) rfl rfl rfl ?_
                refine AWops.nil ?_
                refine AW.seq ?_
                by_cases c9 : (decide (x8 < ((sub a0 1 x3).length : Int))) = true
                · replace h := (if_pos c9).symm.trans h
                  refine AW.cond_yes rfl c9 ?_
                  refine AW.skip ?_
                  refine AW.seq ?_
                  refine AW.block ?_
                  refine AW.seq ?_
                  refine AW.region ?_
                  obtain ⟨v10, ev10, h⟩ := Option.bind_eq_some_iff.mp h
                  obtain ⟨pv10, qv10, gv10⟩ := rd_some ev10
                  refine s_indexImm (ps := [P.v (.int .u8 v10)]) F.u_31 F.sz_5 rfl rfl pv10 qv10 (flat_at e_u8_len gv10 (e_u8_eq v10)) ?_
                  refine s_load1 (c' := (C.p true (.v (.int .u8 v10)))) F.ag_5 rfl rfl ?_
                  refine s_assign (d := (sc (.int .u8 v10))) rfl ?_
                  refine AWops.nil ?_
                  refine AW.seq ?_
                  refine AW.seq ?_
                  refine AW.region ?_
                  refine s_move (d := (sc (.int .u8 v10))) rfl ?_
                  refine s_binI (v := (.bool (decide (v10 < 128)))) rfl rfl rfl ?_
                  refine s_move (d := (sc (.bool (decide (v10 < 128))))) rfl ?_
                  by_cases c11 : (decide (v10 < 128)) = true
                  · replace h := (if_pos c11).symm.trans h
                    refine AWops.guard_no rfl (Nat.le_of_ble_eq_true rfl) rfl c11 ?_
                    refine AWops.guard_no rfl (Nat.le_of_ble_eq_true rfl) rfl c11 ?_
                    refine s_pick_yes (d := (sc (.bool true))) rfl c11 rfl ?_
                    refine AWops.nil ?_
                    refine AW.cond_yes rfl rfl ?_
                    refine AW.seq ?_
                    refine AW.region ?_
                    refine s_assign (d := (sc (.int .i64 0))) rfl ?_
                    refine s_assign (d := (sc (.int .i64 0))) rfl ?_
                    refine AWops.nil ?_
                    refine AW.ret ?_
                    obtain rfl := Option.some.inj h
                    exact ⟨_, rfl, (Weak.gen (kk := 0) [] [] rfl rfl (by decide) (by decide) rfl rfl rfl (le_upd (le_top _) (DLe.tup (All2.cons (TLe.one .sc) (All2.cons (TLe.one .sc) All2.nil)))) All2.nil)⟩
                  · replace h := (if_neg c11).symm.trans h
                    replace c11 := Bool.eq_false_iff.mpr c11
                    refine AWops.guard_yes rfl (Nat.le_of_ble_eq_true rfl) rfl c11 ?_
                    refine s_move (d := (sc (.int .u8 v10))) rfl ?_
                    refine AWops.guard_yes rfl (Nat.le_of_ble_eq_true rfl) rfl c11 ?_
                    refine s_binI (v := (.bool (decide (v10 > 191)))) rfl rfl rfl ?_
                    refine s_pick_no (d := (sc (.bool (decide (v10 > 191))))) rfl c11 rfl ?_
                    refine AWops.nil ?_
                    by_cases c12 : (decide (v10 > 191)) = true
                    · replace h := (if_pos c12).symm.trans h
                      refine AW.cond_yes rfl c12 ?_
                      refine AW.seq ?_
                      refine AW.region ?_
                      refine s_assign (d := (sc (.int .i64 0))) rfl ?_
                      refine s_assign (d := (sc (.int .i64 0))) rfl ?_
                      refine AWops.nil ?_
                      refine AW.ret ?_
                      obtain rfl := Option.some.inj h
                      exact ⟨_, rfl, (Weak.gen (kk := 0) [] [] rfl rfl (by decide) (by decide) rfl rfl rfl (le_upd (le_top _) (DLe.tup (All2.cons (TLe.one .sc) (All2.cons (TLe.one .sc) All2.nil)))) All2.nil)⟩
                    · replace h := (if_neg c12).symm.trans h
                      replace c12 := Bool.eq_false_iff.mpr c12
                      refine AW.cond_no rfl c12 ?_
                      refine AW.skip ?_
                      refine AW.region ?_
                      refine s_move (d := (sc (.int .i64 x7))) rfl ?_
                      refine s_binI (v := (.int .i64 (IntKind.i64.wrap (x7 * 64)))) rfl rfl rfl ?_
                      refine s_move (d := (sc (.int .u8 v10))) rfl ?_
                      refine s_convI F.u_5 F.u_3 rfl ?_
                      refine s_binI (v := (.int .i64 (IntKind.i64.wrap ((IntKind.i64.wrap (x7 * 64)) + (IntKind.i64.wrap v10))))) rfl rfl rfl ?_
                      refine s_binI (v := (.int .i64 (IntKind.i64.wrap ((IntKind.i64.wrap ((IntKind.i64.wrap (x7 * 64)) + (IntKind.i64.wrap v10))) - 128)))) rfl rfl rfl ?_
                      refine s_assign (d := (sc (.int .i64 (IntKind.i64.wrap ((IntKind.i64.wrap ((IntKind.i64.wrap (x7 * 64)) + (IntKind.i64.wrap v10))) - 128))))) rfl ?_
                      refine AWops.nil ?_
                      refine AW.region ?_
                      refine s_binI (v := (.int .i64 (IntKind.i64.wrap (x8 + 1)))) rfl rfl rfl ?_
                      refine s_move (d := (sc (.int .i64 (IntKind.i64.wrap (x8 + 1))))) rfl ?_
                      refine AWops.nil ?_
                      exact ⟨_, ⟨80, (upd 80 (upd 80 (upd 80 (upd 80 (upd 80 (upd 80 topF 0 (D.one (C.p false (.sl a0.length (a0.flatMap e_u8))))) 4 (sc (.int .i64 x3))) 5 (sc (.int .i64 (IntKind.i64.wrap ((IntKind.i64.wrap ((IntKind.i64.wrap (x7 * 64)) + (IntKind.i64.wrap v10))) - 128))))) 51 (D.one (C.p false (.sl (sub a0 1 x3).length ((sub a0 1 x3).flatMap e_u8))))) 52 (sc (.int .i64 ((sub a0 1 x3).length : Int)))) 53 (sc (.int .i64 (IntKind.i64.wrap (x8 + 1))))), []⟩, by omega, (Weak.gen (kk := 0) [] [] hx rfl (by decide) (by decide) rfl rfl rfl (le_upd (le_upd (le_upd (le_upd (le_upd (le_upd (le_top _) (.t (.one .same))) (.t (.one .sc))) (.t (.one .sc))) (.t (.one .same))) (.t (.one .sc))) (.t (.one .sc))) All2.nil), by omega, IntKind.i64.wrap ((IntKind.i64.wrap ((IntKind.i64.wrap (x7 * 64)) + (IntKind.i64.wrap v10))) - 128), IntKind.i64.wrap (x8 + 1), h, rfl⟩
                · replace h := (if_neg c9).symm.trans h
                  replace c9 := Bool.eq_false_iff.mpr c9
                  refine AW.cond_no rfl c9 ?_
                  refine AW.exit ?_
                  refine AW.seq ?_
                  refine AW.seq ?_
                  refine AW.weak (st' := ⟨80, (upd 80 (upd 80 (upd 80 topF 0 (D.one (C.p false (.sl a0.length (a0.flatMap e_u8))))) 4 (sc (.int .i64 x3))) 5 (sc (.int .i64 x7))), []⟩) (Weak.gen (kk := 0) [] [] hx rfl (by decide) (by decide) rfl rfl rfl (le_upd (le_upd (le_upd (le_top _) (.t (.one .same))) (.t (.one .sc))) (.t (.one .sc))) All2.nil) ?_
                  obtain ⟨r13, er13, h⟩ := Option.bind_eq_some_iff.mp h
                  by_cases c14 : (decide (0 ≤ 0 ∧ 0 ≤ x3 ∧ x3 ≤ (a0.length : Int))) = true
                  · replace h := (if_pos c14).symm.trans h
                    have dc14 := of_decide_eq_true c14
                    refine AW.draw (n := 80) (L := 1) [(0, ⟨some 70, (sc (.int .i64 x7)), [(5, (sc (.int .i64 x7)))], [], [], none⟩), (1, ⟨some 71, (D.one (C.own 0 0 r13.length 1)), [(70, (sc (.int .i64 x7)))], [], [(0, (some (AObj.cells true (rowC e_u8 r13))))], some 0⟩), (2, ⟨some 72, (sc (.string (ofNums r13))), [(71, (D.one (C.own 0 0 r13.length 1)))], [(0, (some (AObj.cells true (rowC e_u8 r13))))], [], none⟩), (3, ⟨some 73, (D.one (C.p false (.sl a0.length (a0.flatMap e_u8)))), [(0, (D.one (C.p false (.sl a0.length (a0.flatMap e_u8)))))], [], [], none⟩), (4, ⟨some 74, (sc (.int .i64 x3)), [(4, (sc (.int .i64 x3)))], [], [], none⟩), (5, ⟨some 75, (D.one (C.p false (.sl (sub a0 0 x3).length ((sub a0 0 x3).flatMap e_u8)))), [(73, (D.one (C.p false (.sl a0.length (a0.flatMap e_u8))))), (74, (sc (.int .i64 x3)))], [], [], none⟩), (6, ⟨some 76, (sc (.string (ofNums (sub a0 0 x3)))), [(75, (D.one (C.p false (.sl (sub a0 0 x3).length ((sub a0 0 x3).flatMap e_u8)))))], [], [], none⟩), (7, ⟨some 77, (sc (.bool (!((ofNums r13).toList == (ofNums (sub a0 0 x3)).toList)))), [(72, (sc (.string (ofNums r13)))), (76, (sc (.string (ofNums (sub a0 0 x3)))))], [], [], none⟩)] [[], [0], [0, 1], [], [], [3, 4], [3, 4, 5], [0, 1, 2, 3, 4, 5, 6]] (Nat.le_of_ble_eq_true rfl) [0, 1, 2, 0, 0, 1, 2, 3] rfl (TK := [(1, 0)]) rfl (AllK.cons' ⟨(tk_upd (tk_upd (tk_upd tk_top rfl) rfl) rfl), AllT.nil', (AllF.cons' (.inr rfl) (AllF.cons' (.inl rfl) (AllF.cons' (.inl rfl) (AllF.cons' (.inr rfl) (AllF.cons' (.inr rfl) (AllF.cons' (.inr rfl) (AllF.cons' (.inr rfl) (AllF.cons' (.inl rfl) AllF.nil'))))))))⟩ AllK.nil') (AllF.cons' ⟨(AllS.cons' rfl AllS.nil'), AllH.nil'⟩ (AllF.cons' ⟨(AllS.cons' rfl AllS.nil'), AllH.nil'⟩ (AllF.cons' ⟨(AllS.cons' rfl AllS.nil'), (AllH.cons' rfl AllH.nil')⟩ (AllF.cons' ⟨(AllS.cons' rfl AllS.nil'), AllH.nil'⟩ (AllF.cons' ⟨(AllS.cons' rfl AllS.nil'), AllH.nil'⟩ (AllF.cons' ⟨(AllS.cons' rfl (AllS.cons' rfl AllS.nil')), AllH.nil'⟩ (AllF.cons' ⟨(AllS.cons' rfl AllS.nil'), AllH.nil'⟩ (AllF.cons' ⟨(AllS.cons' rfl (AllS.cons' rfl AllS.nil')), AllH.nil'⟩ AllF.nil')))))))) ?_ ?_
                    · refine (AllStep.cons' ?_ (AllStep.cons' ?_ (AllStep.cons' ?_ (AllStep.cons' ?_ (AllStep.cons' ?_ (AllStep.cons' ?_ (AllStep.cons' ?_ (AllStep.cons' ?_ AllStep.nil'))))))))
                      · intro K rest fr hv htk k
                        show AWops _ x _ _ K ⟨80, (upd 80 fr 5 (sc (.int .i64 x7))), [(hv 0)]⟩
                        refine s_move (d := (sc (.int .i64 x7))) rfl ?_
                        exact k
                      · intro K rest fr hv htk k
                        show AWops _ x _ _ K ⟨80, (upd 80 fr 70 (sc (.int .i64 x7))), [(hv 0)]⟩
                        refine s_call2 (ρ := []) (br := false) (H2 := [(hv 0), (some (AObj.cells true (rowC e_u8 r13)))]) (d := (D.one (C.own 1 0 r13.length 1))) F.ca_24 rfl rfl (All2.cons (.one .sc) All2.nil) All2.nil (by decide) rfl (dossierref01_Encode.meets _ x7 r13 er13) (.inl rfl) (by first | rfl | (simp only [mergeH2, orF, Bool.false_or, Bool.or_false, Bool.true_or, Bool.or_true, mergeAt, mergeObj, renO, ren_row, List.drop_succ_cons, List.drop_zero, List.map_cons, List.map_nil, Option.map_some, Option.map_none, List.length_cons, List.length_nil, Nat.zero_add, List.append_assoc, List.cons_append, List.nil_append]; done) | (simp only [mergeH2, orF, Bool.false_or, Bool.or_false, Bool.true_or, Bool.or_true, mergeAt, mergeObj, renO, ren_row, List.drop_succ_cons, List.drop_zero, List.map_cons, List.map_nil, Option.map_some, Option.map_none, List.length_cons, List.length_nil, Nat.zero_add, List.append_assoc, List.cons_append, List.nil_append]; rfl)) rfl ?_
                        refine AWops.weak (st' := ⟨80, (upd 80 (upd 80 fr 70 (sc (.int .i64 x7))) 71 (D.one (C.own 0 0 r13.length 1))), [(some (AObj.cells true (rowC e_u8 r13)))]⟩) (Weak.gen (kk := 0) [1] [] hx rfl (by decide) (by decide) rfl rfl rfl (le_upd2 (le_ok (p := 0) (L := 1) rfl (htk 0 rfl).1) (.t (.one (.own rfl)))) (All2.cons (.cells (fun h => h) (all2_row _)) All2.nil)) ?_
                        exact k
                      · intro K rest fr hv htk k
                        show AWops _ x _ _ K ⟨80, (upd 80 fr 71 (D.one (C.own 0 0 r13.length 1))), [(some (AObj.cells true (rowC e_u8 r13)))]⟩
                        refine t_toStr (xs := r13) F.u_31 F.u_5 F.u_9 (.own rfl rfl) ?_
                        exact k
                      · intro K rest fr hv htk k
                        show AWops _ x _ _ K ⟨80, (upd 80 fr 0 (D.one (C.p false (.sl a0.length (a0.flatMap e_u8))))), [(hv 0)]⟩
                        refine s_move (d := (D.one (C.p false (.sl a0.length (a0.flatMap e_u8))))) rfl ?_
                        exact k
                      · intro K rest fr hv htk k
                        show AWops _ x _ _ K ⟨80, (upd 80 fr 4 (sc (.int .i64 x3))), [(hv 0)]⟩
                        refine s_move (d := (sc (.int .i64 x3))) rfl ?_
                        exact k
                      · intro K rest fr hv htk k
                        show AWops _ x _ _ K ⟨80, (upd 80 (upd 80 fr 74 (sc (.int .i64 x3))) 73 (D.one (C.p false (.sl a0.length (a0.flatMap e_u8))))), [(hv 0)]⟩
                        refine t_sliceImm (a := 0) (b := x3) F.u_31 F.sz_5 e_u8_len rfl (by omega) (by omega) (by omega) .no (.yes rfl (by omega) rfl) ?_
                        exact k
                      · intro K rest fr hv htk k
                        show AWops _ x _ _ K ⟨80, (upd 80 fr 75 (D.one (C.p false (.sl (sub a0 0 x3).length ((sub a0 0 x3).flatMap e_u8))))), [(hv 0)]⟩
                        refine t_toStr (xs := sub a0 0 x3) F.u_31 F.u_5 F.u_9 .imm ?_
                        exact k
                      · intro K rest fr hv htk k
                        show AWops _ x _ _ K ⟨80, (upd 80 (upd 80 fr 76 (sc (.string (ofNums (sub a0 0 x3))))) 72 (sc (.string (ofNums r13)))), [(hv 0)]⟩
                        refine s_binS (v := (.bool (!((ofNums r13).toList == (ofNums (sub a0 0 x3)).toList)))) rfl rfl rfl ?_
                        exact k
                    · refine AWops.weak (st' := ⟨80, (upd 80 (upd 80 (upd 80 topF 4 (sc (.int .i64 x3))) 5 (sc (.int .i64 x7))) 77 (sc (.bool (!((ofNums r13).toList == (ofNums (sub a0 0 x3)).toList))))), []⟩) (Weak.gen (kk := 0) [] [] hx rfl (by decide) (by decide) rfl rfl rfl (le_upd (le_upd (le_upd (le_top _) (.t (.one .sc))) (.t (.one .sc))) (.t (.one .sc))) All2.nil) ?_
                      refine AWops.nil ?_
                      by_cases c15 : ((ofNums r13).toList == (ofNums (sub a0 0 x3)).toList) = true
                      · replace h := (if_pos c15).symm.trans h
                        refine AW.cond_no rfl (by rw [c15] <;> rfl) ?_
                        refine AW.skip ?_
                        refine AW.seq ?_
                        refine AW.region ?_
                        refine s_move (d := (sc (.int .i64 x7))) rfl ?_
                        refine s_move (d := (sc (.int .i64 x3))) rfl ?_
                        refine s_assign (d := (sc (.int .i64 x7))) rfl ?_
                        refine s_assign (d := (sc (.int .i64 x3))) rfl ?_
                        refine AWops.nil ?_
                        refine AW.ret ?_
                        obtain rfl := Option.some.inj h
                        exact ⟨_, rfl, (Weak.gen (kk := 0) [] [] rfl rfl (by decide) (by decide) rfl rfl rfl (le_upd (le_top _) (DLe.tup (All2.cons (TLe.one .sc) (All2.cons (TLe.one .sc) All2.nil)))) All2.nil)⟩
                      · replace h := (if_neg c15).symm.trans h
                        replace c15 := Bool.eq_false_iff.mpr c15
                        refine AW.cond_yes rfl (by rw [c15] <;> rfl) ?_
                        refine AW.seq ?_
                        refine AW.region ?_
                        refine s_assign (d := (sc (.int .i64 0))) rfl ?_
                        refine s_assign (d := (sc (.int .i64 0))) rfl ?_
                        refine AWops.nil ?_
                        refine AW.ret ?_
                        obtain rfl := Option.some.inj h
                        exact ⟨_, rfl, (Weak.gen (kk := 0) [] [] rfl rfl (by decide) (by decide) rfl rfl rfl (le_upd (le_top _) (DLe.tup (All2.cons (TLe.one .sc) (All2.cons (TLe.one .sc) All2.nil)))) All2.nil)⟩
                  · replace h := (if_neg c14).symm.trans h
                    cases h
            · replace h := (if_neg c6).symm.trans h
              cases h
mutual
def dossierref01_NameAt.l0 : Nat → Int → (List Int) → Option Int
  | 0, _, _ => none
  | k + 1, x5, a0 => if (decide (0 ≤ x5 ∧ x5 ≤ (a0.length : Int) ∧ (a0.length : Int) ≤ (a0.length : Int))) = true then ((dossierref01_Decode.f k (sub a0 x5 (a0.length : Int))).bind fun r7 => if (r7.2 == 0) = true then (some x5) else ((dossierref01_Later.f k r7.1).bind fun r9 => if r9 = true then (dossierref01_NameAt.l0 k (IntKind.i64.wrap (x5 + r7.2)) a0) else (some x5))) else none
end
def dossierref01_NameAt.f (k : Nat) (a0 : List Int) : Option Int := (dossierref01_Decode.f k a0).bind fun r1 => if (r1.2 == 0) = true then (some 0) else ((dossierref01_First.f k r1.1).bind fun r3 => if r3 = true then (dossierref01_NameAt.l0 k r1.2 a0) else (some 0))
theorem dossierref01_NameAt.meets (k : Nat) (a0 : List Int) (r : Int) (h : dossierref01_NameAt.f k a0 = some r) : Meets Tryd.prog 29 [(D.one (C.p false (.sl a0.length (a0.flatMap e_u8))))] [] (sc (.int .i64 r)) [] := by
  unfold dossierref01_NameAt.f at h
  refine Meets.of_body (n := 37) Tryd.func29 rfl rfl (Nat.le_of_ble_eq_true rfl) fun x hx => ?_
  replace hx : x.k = 0 := hx
  show AW _ x _ _ ⟨37, fr0 [(D.one (C.p false (.sl a0.length (a0.flatMap e_u8))))], []⟩
  refine AW.seq ?_
  refine AW.region ?_
  refine s_assign (d := (sc (.int .i64 0))) rfl ?_
  refine AWops.nil ?_
  refine AW.seq ?_
  refine AW.region ?_
  refine s_move (d := (D.one (C.p false (.sl a0.length (a0.flatMap e_u8))))) rfl ?_
  obtain ⟨r1, er1, h⟩ := Option.bind_eq_some_iff.mp h
  refine s_call2 (ρ := []) (br := false) (H2 := []) (d := (D.tup [(sc (.int .i64 r1.1)), (sc (.int .i64 r1.2))])) F.ca_21 rfl rfl (All2.cons (.one .imm) All2.nil) All2.nil (by decide) rfl (dossierref01_Decode.meets _ a0 r1 er1) (.inl rfl) rfl rfl ?_
  refine s_move (d := (D.tup [(sc (.int .i64 r1.1)), (sc (.int .i64 r1.2))])) rfl ?_
  refine s_extract (d := (sc (.int .i64 r1.1))) rfl rfl ?_
  refine s_extract (d := (sc (.int .i64 r1.2))) rfl rfl ?_
  refine s_assign (d := (sc (.int .i64 r1.1))) rfl ?_
  refine s_assign (d := (sc (.int .i64 r1.2))) rfl ?_
  refine AWops.nil ?_
  refine AW.seq ?_
  refine AW.seq ?_
  refine AW.region ?_
  refine s_move (d := (sc (.int .i64 r1.2))) rfl ?_
  refine s_binI (v := (.bool (r1.2 == 0))) rfl rfl rfl ?_
  refine s_move (d := (sc (.bool (r1.2 == 0)))) rfl ?_
  by_cases c2 : (r1.2 == 0) = true
  · replace h := (if_pos c2).symm.trans h
    refine AWops.guard_no rfl (Nat.le_of_ble_eq_true rfl) rfl c2 ?_
    refine AWops.guard_no rfl (Nat.le_of_ble_eq_true rfl) rfl c2 ?_
    refine AWops.guard_no rfl (Nat.le_of_ble_eq_true rfl) rfl c2 ?_
    refine s_pick_yes (d := (sc (.bool true))) rfl c2 rfl ?_
    refine AWops.nil ?_
    refine AW.cond_yes rfl rfl ?_
    refine AW.seq ?_
    refine AW.region ?_
    refine s_assign (d := (sc (.int .i64 0))) rfl ?_
    refine AWops.nil ?_
    refine AW.ret ?_
    obtain rfl := Option.some.inj h
    exact ⟨_, rfl, (Weak.gen (kk := 0) [] [] rfl rfl (by decide) (by decide) rfl rfl rfl (le_upd (le_top _) (.t (.one .sc))) All2.nil)⟩
  · replace h := (if_neg c2).symm.trans h
    replace c2 := Bool.eq_false_iff.mpr c2
    refine AWops.guard_yes rfl (Nat.le_of_ble_eq_true rfl) rfl c2 ?_
    refine s_move (d := (sc (.int .i64 r1.1))) rfl ?_
    refine AWops.guard_yes rfl (Nat.le_of_ble_eq_true rfl) rfl c2 ?_
    obtain ⟨r3, er3, h⟩ := Option.bind_eq_some_iff.mp h
    refine s_call2 (ρ := []) (br := false) (H2 := []) (d := (sc (.bool r3))) F.ca_10 rfl rfl (All2.cons (.one .sc) All2.nil) All2.nil (by decide) rfl (dossierref01_First.meets _ r1.1 r3 er3) (.inl rfl) rfl rfl ?_
    refine AWops.guard_yes rfl (Nat.le_of_ble_eq_true rfl) rfl c2 ?_
    refine s_not rfl ?_
    refine s_pick_no (d := (sc (.bool (!r3)))) rfl c2 rfl ?_
    refine AWops.nil ?_
    by_cases c4 : r3 = true
    · replace h := (if_pos c4).symm.trans h
      refine AW.cond_no rfl (by rw [c4] <;> rfl) ?_
      refine AW.skip ?_
      refine AW.block ?_
      refine AW.loopw (st0 := ⟨37, (upd 37 (upd 37 topF 0 (D.one (C.p false (.sl a0.length (a0.flatMap e_u8))))) 4 (sc (.int .i64 r1.2))), []⟩) (fun kv st => kv ≤ k ∧ ∃ (x5 : Int), dossierref01_NameAt.l0 kv x5 a0 = some r ∧ st = ⟨37, (upd 37 (upd 37 topF 0 (D.one (C.p false (.sl a0.length (a0.flatMap e_u8))))) 4 (sc (.int .i64 x5))), []⟩) (k := k) (Weak.gen (kk := 0) [] [] hx rfl (by decide) (by decide) rfl rfl rfl (le_upd (le_upd (le_top _) (.t (.one .same))) (.t (.one .sc))) All2.nil) ⟨Nat.le_refl _, r1.2, h, rfl⟩ ?_
      rintro ql0 st ⟨hkl0, x5, h, rfl⟩
      cases ql0 with
      | zero => exact absurd h (by simp [dossierref01_NameAt.l0])
      | succ ql0 =>
        replace h := (dossierref01_NameAt.l0.eq_2 _ _ _).symm.trans h
        refine AW.block ?_
        refine AW.seq ?_
        refine AW.region ?_
        refine s_move (d := (D.one (C.p false (.sl a0.length (a0.flatMap e_u8))))) rfl ?_
        refine s_move (d := (sc (.int .i64 x5))) rfl ?_
        by_cases c6 : (decide (0 ≤ x5 ∧ x5 ≤ (a0.length : Int) ∧ (a0.length : Int) ≤ (a0.length : Int))) = true
        · replace h := (if_pos c6).symm.trans h
          have dc6 := of_decide_eq_true c6
          refine t_sliceImm (a := x5) (b := (a0.length : Int)) F.u_31 F.sz_5 e_u8_len rfl (by omega) (by omega) (by omega) (.yes rfl (by omega) rfl) .no ?_
          obtain ⟨r7, er7, h⟩ := Option.bind_eq_some_iff.mp h
          refine s_call2 (ρ := []) (br := false) (H2 := []) (d := (D.tup [(sc (.int .i64 r7.1)), (sc (.int .i64 r7.2))])) F.ca_21 rfl rfl (All2.cons (.one .imm) All2.nil) All2.nil (by decide) rfl (dossierref01_Decode.meets _ (sub a0 x5 (a0.length : Int)) r7 er7) (.inl rfl) rfl rfl ?_
          refine s_move (d := (D.tup [(sc (.int .i64 r7.1)), (sc (.int .i64 r7.2))])) rfl ?_
          refine s_extract (d := (sc (.int .i64 r7.1))) rfl rfl ?_
          refine s_extract (d := (sc (.int .i64 r7.2))) rfl rfl ?_
          refine s_assign (d := (sc (.int .i64 r7.1))) rfl ?_
          refine s_assign (d := (sc (.int .i64 r7.2))) rfl ?_
          refine AWops.nil ?_
          refine AW.seq ?_
          refine AW.seq ?_
          refine AW.region ?_
          refine s_move (d := (sc (.int .i64 r7.2))) rfl ?_
          refine s_binI (v := (.bool (r7.2 == 0))) rfl rfl rfl ?_
          refine s_move (d := (sc (.bool (r7.2 == 0)))) rfl ?_
          by_cases c8 : (r7.2 == 0) = true
          · replace h := (if_pos c8).symm.trans h
            refine AWops.guard_no rfl (Nat.le_of_ble_eq_true rfl) rfl c8 ?_
            refine AWops.guard_no rfl (Nat.le_of_ble_eq_true rfl) rfl c8 ?_
            refine AWops.guard_no rfl (Nat.le_of_ble_eq_true rfl) rfl c8 ?_
            refine s_pick_yes (d := (sc (.bool true))) rfl c8 rfl ?_
            refine AWops.nil ?_
            refine AW.cond_yes rfl rfl ?_
            refine AW.seq ?_
            refine AW.region ?_
            refine s_move (d := (sc (.int .i64 x5))) rfl ?_
            refine s_assign (d := (sc (.int .i64 x5))) rfl ?_
            refine AWops.nil ?_
            refine AW.ret ?_
            obtain rfl := Option.some.inj h
            exact ⟨_, rfl, (Weak.gen (kk := 0) [] [] rfl rfl (by decide) (by decide) rfl rfl rfl (le_upd (le_top _) (.t (.one .sc))) All2.nil)⟩
          · replace h := (if_neg c8).symm.trans h
            replace c8 := Bool.eq_false_iff.mpr c8
            refine AWops.guard_yes rfl (Nat.le_of_ble_eq_true rfl) rfl c8 ?_
            refine s_move (d := (sc (.int .i64 r7.1))) rfl ?_
            refine AWops.guard_yes rfl (Nat.le_of_ble_eq_true rfl) rfl c8 ?_
            obtain ⟨r9, er9, h⟩ := Option.bind_eq_some_iff.mp h
            refine s_call2 (ρ := []) (br := false) (H2 := []) (d := (sc (.bool r9))) F.ca_12 rfl rfl (All2.cons (.one .sc) All2.nil) All2.nil (by decide) rfl (dossierref01_Later.meets _ r7.1 r9 er9) (.inl rfl) rfl rfl ?_
            refine AWops.guard_yes rfl (Nat.le_of_ble_eq_true rfl) rfl c8 ?_
            refine s_not rfl ?_
            refine s_pick_no (d := (sc (.bool (!r9)))) rfl c8 rfl ?_
            refine AWops.nil ?_
            by_cases c10 : r9 = true
            · replace h := (if_pos c10).symm.trans h
              refine AW.cond_no rfl (by rw [c10] <;> rfl) ?_
              refine AW.skip ?_
              refine AW.region ?_
              refine s_move (d := (sc (.int .i64 x5))) rfl ?_
              refine s_move (d := (sc (.int .i64 r7.2))) rfl ?_
              refine s_binI (v := (.int .i64 (IntKind.i64.wrap (x5 + r7.2)))) rfl rfl rfl ?_
              refine s_assign (d := (sc (.int .i64 (IntKind.i64.wrap (x5 + r7.2))))) rfl ?_
              refine AWops.nil ?_
              exact ⟨_, ⟨37, (upd 37 (upd 37 topF 0 (D.one (C.p false (.sl a0.length (a0.flatMap e_u8))))) 4 (sc (.int .i64 (IntKind.i64.wrap (x5 + r7.2))))), []⟩, by omega, (Weak.gen (kk := 0) [] [] hx rfl (by decide) (by decide) rfl rfl rfl (le_upd (le_upd (le_top _) (.t (.one .same))) (.t (.one .sc))) All2.nil), by omega, IntKind.i64.wrap (x5 + r7.2), h, rfl⟩
            · replace h := (if_neg c10).symm.trans h
              replace c10 := Bool.eq_false_iff.mpr c10
              refine AW.cond_yes rfl (by rw [c10] <;> rfl) ?_
              refine AW.seq ?_
              refine AW.region ?_
              refine s_move (d := (sc (.int .i64 x5))) rfl ?_
              refine s_assign (d := (sc (.int .i64 x5))) rfl ?_
              refine AWops.nil ?_
              refine AW.ret ?_
              obtain rfl := Option.some.inj h
              exact ⟨_, rfl, (Weak.gen (kk := 0) [] [] rfl rfl (by decide) (by decide) rfl rfl rfl (le_upd (le_top _) (.t (.one .sc))) All2.nil)⟩
        · replace h := (if_neg c6).symm.trans h
          cases h
    · replace h := (if_neg c4).symm.trans h
      replace c4 := Bool.eq_false_iff.mpr c4
      refine AW.cond_yes rfl (by rw [c4] <;> rfl) ?_
      refine AW.seq ?_
      refine AW.region ?_
      refine s_assign (d := (sc (.int .i64 0))) rfl ?_
      refine AWops.nil ?_
      refine AW.ret ?_
      obtain rfl := Option.some.inj h
      exact ⟨_, rfl, (Weak.gen (kk := 0) [] [] rfl rfl (by decide) (by decide) rfl rfl rfl (le_upd (le_top _) (.t (.one .sc))) All2.nil)⟩
def dossierref01_Name.f (k : Nat) (a0 : ByteArray) : Option Bool := if (decide ((a0.size : Int) > 0)) = true then ((dossierref01_NameAt.f k (bytesI a0)).bind fun r2 => some (r2 == (a0.size : Int))) else (some false)
theorem dossierref01_Name.meets (k : Nat) (a0 : ByteArray) (r : Bool) (h : dossierref01_Name.f k a0 = some r) : Meets Tryd.prog 14 [(sc (.string a0))] [] (sc (.bool r)) [] := by
  unfold dossierref01_Name.f at h
  refine Meets.of_body (n := 14) Tryd.func14 rfl rfl (Nat.le_of_ble_eq_true rfl) fun x hx => ?_
  replace hx : x.k = 0 := hx
  show AW _ x _ _ ⟨14, fr0 [(sc (.string a0))], []⟩
  refine AW.seq ?_
  refine AW.region ?_
  refine s_assign (d := (sc (.bool false))) rfl ?_
  refine AWops.nil ?_
  refine AW.seq ?_
  refine AW.region ?_
  refine s_move (d := (sc (.string a0))) rfl ?_
  refine s_len (n := a0.size) F.u_9 rfl (.inl ⟨⟨_, _, rfl⟩, rfl⟩) ?_
  refine s_binI (v := (.bool (decide ((a0.size : Int) > 0)))) rfl rfl rfl ?_
  refine s_move (d := (sc (.bool (decide ((a0.size : Int) > 0))))) rfl ?_
  by_cases c1 : (decide ((a0.size : Int) > 0)) = true
  · replace h := (if_pos c1).symm.trans h
    refine AWops.guard_yes rfl (Nat.le_of_ble_eq_true rfl) rfl c1 ?_
    refine s_move (d := (sc (.string a0))) rfl ?_
    refine AWops.guard_yes rfl (Nat.le_of_ble_eq_true rfl) rfl c1 ?_
    refine t_ofStr F.u_9 F.u_31 F.u_5 rfl ?_
    refine AWops.guard_yes rfl (Nat.le_of_ble_eq_true rfl) rfl c1 ?_
    obtain ⟨r2, er2, h⟩ := Option.bind_eq_some_iff.mp h
    refine s_call2 (ρ := []) (br := false) (H2 := []) (d := (sc (.int .i64 r2))) F.ca_29 rfl rfl (All2.cons (.one .imm) All2.nil) All2.nil (by decide) rfl (dossierref01_NameAt.meets _ (bytesI a0) r2 er2) (.inl rfl) rfl rfl ?_
    refine AWops.guard_yes rfl (Nat.le_of_ble_eq_true rfl) rfl c1 ?_
    refine s_move (d := (sc (.string a0))) rfl ?_
    refine AWops.guard_yes rfl (Nat.le_of_ble_eq_true rfl) rfl c1 ?_
    refine s_len (n := a0.size) F.u_9 rfl (.inl ⟨⟨_, _, rfl⟩, rfl⟩) ?_
    refine AWops.guard_yes rfl (Nat.le_of_ble_eq_true rfl) rfl c1 ?_
    refine s_binI (v := (.bool (r2 == (a0.size : Int)))) rfl rfl rfl ?_
    refine s_pick_yes (d := (sc (.bool (r2 == (a0.size : Int))))) rfl c1 rfl ?_
    refine s_assign (d := (sc (.bool (r2 == (a0.size : Int))))) rfl ?_
    refine AWops.nil ?_
    refine AW.ret ?_
    obtain rfl := Option.some.inj h
    exact ⟨_, rfl, (Weak.gen (kk := 0) [] [] rfl rfl (by decide) (by decide) rfl rfl rfl (le_upd (le_top _) (.t (.one .sc))) All2.nil)⟩
  · replace h := (if_neg c1).symm.trans h
    replace c1 := Bool.eq_false_iff.mpr c1
    refine AWops.guard_no rfl (Nat.le_of_ble_eq_true rfl) rfl c1 ?_
    refine AWops.guard_no rfl (Nat.le_of_ble_eq_true rfl) rfl c1 ?_
    refine AWops.guard_no rfl (Nat.le_of_ble_eq_true rfl) rfl c1 ?_
    refine AWops.guard_no rfl (Nat.le_of_ble_eq_true rfl) rfl c1 ?_
    refine AWops.guard_no rfl (Nat.le_of_ble_eq_true rfl) rfl c1 ?_
    refine AWops.guard_no rfl (Nat.le_of_ble_eq_true rfl) rfl c1 ?_
    refine s_pick_no (d := (sc (.bool false))) rfl c1 rfl ?_
    refine s_assign (d := (sc (.bool false))) rfl ?_
    refine AWops.nil ?_
    refine AW.ret ?_
    obtain rfl := Option.some.inj h
    exact ⟨_, rfl, (Weak.gen (kk := 0) [] [] rfl rfl (by decide) (by decide) rfl rfl rfl (le_upd (le_top _) (.t (.one .sc))) All2.nil)⟩
def dossierlaw01_awake.f (k : Nat) : Option Bool := (chars_Decode.f k ([195, 169, 1] : List Int)).bind fun r1 => if (r1.1 == 233) = true then (some (r1.2 == 2)) else (some false)
theorem dossierlaw01_awake.meets (k : Nat) (r : Bool) (h : dossierlaw01_awake.f k = some r) : Meets Tryd.prog 15 [] [] (sc (.bool r)) [] := by
  unfold dossierlaw01_awake.f at h
  refine Meets.of_body (n := 14) Tryd.func15 rfl rfl (Nat.le_of_ble_eq_true rfl) fun x hx => ?_
  replace hx : x.k = 0 := hx
  show AW _ x _ _ ⟨14, fr0 [], []⟩
  refine AW.seq ?_
  refine AW.region ?_
  refine s_assign (d := (sc (.bool false))) rfl ?_
  refine AWops.nil ?_
  refine AW.seq ?_
  refine AW.region ?_
  refine s_buildSlice (n := 3) (ps := [(0, (sc (.int .u8 195))), (1, (sc (.int .u8 169))), (2, (sc (.int .u8 1)))]) (cs := rowC e_u8 ([195, 169, 1] : List Int)) F.u_31 F.sz_5 F.z_5 rfl rfl (by decide) (by decide) rfl rfl ?_
  obtain ⟨r1, er1, h⟩ := Option.bind_eq_some_iff.mp h
  refine s_call2 (ρ := []) (br := true) (H2 := [(some (AObj.cells true (rowC e_u8 ([195, 169, 1] : List Int))))]) (d := (D.tup [(sc (.int .i64 r1.1)), (sc (.int .i64 r1.2))])) F.ca_20 rfl rfl (All2.cons (.one (LendC.bor e_u8_len rfl rfl rfl)) All2.nil) All2.nil (by decide) rfl (chars_Decode.meets _ ([195, 169, 1] : List Int) r1 er1) (.inr ⟨rfl, rfl⟩) rfl rfl ?_
  refine s_move (d := (D.tup [(sc (.int .i64 r1.1)), (sc (.int .i64 r1.2))])) rfl ?_
  refine s_extract (d := (sc (.int .i64 r1.1))) rfl rfl ?_
  refine s_extract (d := (sc (.int .i64 r1.2))) rfl rfl ?_
  refine s_assign (d := (sc (.int .i64 r1.1))) rfl ?_
  refine s_assign (d := (sc (.int .i64 r1.2))) rfl ?_
  refine AWops.nil ?_
  refine AW.seq ?_
  refine AW.region ?_
  refine s_move (d := (sc (.int .i64 r1.1))) rfl ?_
  refine s_binI (v := (.bool (r1.1 == 233))) rfl rfl rfl ?_
  refine s_move (d := (sc (.bool (r1.1 == 233)))) rfl ?_
  by_cases c2 : (r1.1 == 233) = true
  · replace h := (if_pos c2).symm.trans h
    refine AWops.guard_yes rfl (Nat.le_of_ble_eq_true rfl) rfl c2 ?_
    refine s_move (d := (sc (.int .i64 r1.2))) rfl ?_
    refine AWops.guard_yes rfl (Nat.le_of_ble_eq_true rfl) rfl c2 ?_
    refine s_binI (v := (.bool (r1.2 == 2))) rfl rfl rfl ?_
    refine s_pick_yes (d := (sc (.bool (r1.2 == 2)))) rfl c2 rfl ?_
    refine s_assign (d := (sc (.bool (r1.2 == 2)))) rfl ?_
    refine AWops.nil ?_
    refine AW.ret ?_
    obtain rfl := Option.some.inj h
    exact ⟨_, rfl, (Weak.gen (kk := 0) [] [] rfl rfl (by decide) (by decide) rfl rfl rfl (le_upd (le_top _) (.t (.one .sc))) All2.nil)⟩
  · replace h := (if_neg c2).symm.trans h
    replace c2 := Bool.eq_false_iff.mpr c2
    refine AWops.guard_no rfl (Nat.le_of_ble_eq_true rfl) rfl c2 ?_
    refine AWops.guard_no rfl (Nat.le_of_ble_eq_true rfl) rfl c2 ?_
    refine s_pick_no (d := (sc (.bool false))) rfl c2 rfl ?_
    refine s_assign (d := (sc (.bool false))) rfl ?_
    refine AWops.nil ?_
    refine AW.ret ?_
    obtain rfl := Option.some.inj h
    exact ⟨_, rfl, (Weak.gen (kk := 0) [] [] rfl rfl (by decide) (by decide) rfl rfl rfl (le_upd (le_top _) (.t (.one .sc))) All2.nil)⟩
def dossierlaw01_CharsNames.f (k : Nat) (a0 : Int) (a1 : ByteArray) : Option Bool := (chars_Space.f k a0).bind fun r1 => (dossierref01_Space.f k a0).bind fun r2 => if (r1 == r2) = true then ((chars_First.f k a0).bind fun r4 => (dossierref01_First.f k a0).bind fun r5 => if (r4 == r5) = true then ((chars_Later.f k a0).bind fun r7 => (dossierref01_Later.f k a0).bind fun r8 => if (r7 == r8) = true then ((chars_Name.f k a1).bind fun r10 => (dossierref01_Name.f k a1).bind fun r11 => if (r10 == r11) = true then ((dossierlaw01_awake.f k).bind fun r13 => some r13) else (some false)) else (some false)) else (some false)) else (some false)
theorem dossierlaw01_CharsNames.meets (k : Nat) (a0 : Int) (a1 : ByteArray) (r : Bool) (h : dossierlaw01_CharsNames.f k a0 a1 = some r) : Meets Tryd.prog 3 [(sc (.int .i64 a0)), (sc (.string a1))] [] (sc (.bool r)) [] := by
  unfold dossierlaw01_CharsNames.f at h
  refine Meets.of_body (n := 34) Tryd.func3 rfl rfl (Nat.le_of_ble_eq_true rfl) fun x hx => ?_
  replace hx : x.k = 0 := hx
  show AW _ x _ _ ⟨34, fr0 [(sc (.int .i64 a0)), (sc (.string a1))], []⟩
  refine AW.seq ?_
  refine AW.region ?_
  refine s_assign (d := (sc (.bool false))) rfl ?_
  refine AWops.nil ?_
  refine AW.seq ?_
  refine AW.region ?_
  refine s_move (d := (sc (.int .i64 a0))) rfl ?_
  obtain ⟨r1, er1, h⟩ := Option.bind_eq_some_iff.mp h
  refine s_call2 (ρ := []) (br := false) (H2 := []) (d := (sc (.bool r1))) F.ca_7 rfl rfl (All2.cons (.one .sc) All2.nil) All2.nil (by decide) rfl (chars_Space.meets _ a0 r1 er1) (.inl rfl) rfl rfl ?_
  refine s_move (d := (sc (.int .i64 a0))) rfl ?_
  obtain ⟨r2, er2, h⟩ := Option.bind_eq_some_iff.mp h
  refine s_call2 (ρ := []) (br := false) (H2 := []) (d := (sc (.bool r2))) F.ca_8 rfl rfl (All2.cons (.one .sc) All2.nil) All2.nil (by decide) rfl (dossierref01_Space.meets _ a0 r2 er2) (.inl rfl) rfl rfl ?_
  refine s_binB (b := (r1 == r2)) F.u_4 rfl rfl (.inl ⟨rfl, rfl⟩) ?_
  refine s_move (d := (sc (.bool (r1 == r2)))) rfl ?_
  by_cases c3 : (r1 == r2) = true
  · replace h := (if_pos c3).symm.trans h
    refine AWops.guard_yes rfl (Nat.le_of_ble_eq_true rfl) rfl c3 ?_
    refine s_move (d := (sc (.int .i64 a0))) rfl ?_
    refine AWops.guard_yes rfl (Nat.le_of_ble_eq_true rfl) rfl c3 ?_
    obtain ⟨r4, er4, h⟩ := Option.bind_eq_some_iff.mp h
    refine s_call2 (ρ := []) (br := false) (H2 := []) (d := (sc (.bool r4))) F.ca_9 rfl rfl (All2.cons (.one .sc) All2.nil) All2.nil (by decide) rfl (chars_First.meets _ a0 r4 er4) (.inl rfl) rfl rfl ?_
    refine AWops.guard_yes rfl (Nat.le_of_ble_eq_true rfl) rfl c3 ?_
    refine s_move (d := (sc (.int .i64 a0))) rfl ?_
    refine AWops.guard_yes rfl (Nat.le_of_ble_eq_true rfl) rfl c3 ?_
    obtain ⟨r5, er5, h⟩ := Option.bind_eq_some_iff.mp h
    refine s_call2 (ρ := []) (br := false) (H2 := []) (d := (sc (.bool r5))) F.ca_10 rfl rfl (All2.cons (.one .sc) All2.nil) All2.nil (by decide) rfl (dossierref01_First.meets _ a0 r5 er5) (.inl rfl) rfl rfl ?_
    refine AWops.guard_yes rfl (Nat.le_of_ble_eq_true rfl) rfl c3 ?_
    refine s_binB (b := (r4 == r5)) F.u_4 rfl rfl (.inl ⟨rfl, rfl⟩) ?_
    refine s_pick_yes (d := (sc (.bool (r4 == r5)))) rfl c3 rfl ?_
    refine s_move (d := (sc (.bool (r4 == r5)))) rfl ?_
    by_cases c6 : (r4 == r5) = true
    · replace h := (if_pos c6).symm.trans h
      refine AWops.guard_yes rfl (Nat.le_of_ble_eq_true rfl) rfl c6 ?_
      refine s_move (d := (sc (.int .i64 a0))) rfl ?_
      refine AWops.guard_yes rfl (Nat.le_of_ble_eq_true rfl) rfl c6 ?_
      obtain ⟨r7, er7, h⟩ := Option.bind_eq_some_iff.mp h
      refine s_call2 (ρ := []) (br := false) (H2 := []) (d := (sc (.bool r7))) F.ca_11 rfl rfl (All2.cons (.one .sc) All2.nil) All2.nil (by decide) rfl (chars_Later.meets _ a0 r7 er7) (.inl rfl) rfl rfl ?_
      refine AWops.guard_yes rfl (Nat.le_of_ble_eq_true rfl) rfl c6 ?_
      refine s_move (d := (sc (.int .i64 a0))) rfl ?_
      refine AWops.guard_yes rfl (Nat.le_of_ble_eq_true rfl) rfl c6 ?_
      obtain ⟨r8, er8, h⟩ := Option.bind_eq_some_iff.mp h
      refine s_call2 (ρ := []) (br := false) (H2 := []) (d := (sc (.bool r8))) F.ca_12 rfl rfl (All2.cons (.one .sc) All2.nil) All2.nil (by decide) rfl (dossierref01_Later.meets _ a0 r8 er8) (.inl rfl) rfl rfl ?_
      refine AWops.guard_yes rfl (Nat.le_of_ble_eq_true rfl) rfl c6 ?_
      refine s_binB (b := (r7 == r8)) F.u_4 rfl rfl (.inl ⟨rfl, rfl⟩) ?_
      refine s_pick_yes (d := (sc (.bool (r7 == r8)))) rfl c6 rfl ?_
      refine s_move (d := (sc (.bool (r7 == r8)))) rfl ?_
      by_cases c9 : (r7 == r8) = true
      · replace h := (if_pos c9).symm.trans h
        refine AWops.guard_yes rfl (Nat.le_of_ble_eq_true rfl) rfl c9 ?_
        refine s_move (d := (sc (.string a1))) rfl ?_
        refine AWops.guard_yes rfl (Nat.le_of_ble_eq_true rfl) rfl c9 ?_
        obtain ⟨r10, er10, h⟩ := Option.bind_eq_some_iff.mp h
        refine s_call2 (ρ := []) (br := false) (H2 := []) (d := (sc (.bool r10))) F.ca_13 rfl rfl (All2.cons (.one .sc) All2.nil) All2.nil (by decide) rfl (chars_Name.meets _ a1 r10 er10) (.inl rfl) rfl rfl ?_
        refine AWops.guard_yes rfl (Nat.le_of_ble_eq_true rfl) rfl c9 ?_
        refine s_move (d := (sc (.string a1))) rfl ?_
        refine AWops.guard_yes rfl (Nat.le_of_ble_eq_true rfl) rfl c9 ?_
        obtain ⟨r11, er11, h⟩ := Option.bind_eq_some_iff.mp h
        refine s_call2 (ρ := []) (br := false) (H2 := []) (d := (sc (.bool r11))) F.ca_14 rfl rfl (All2.cons (.one .sc) All2.nil) All2.nil (by decide) rfl (dossierref01_Name.meets _ a1 r11 er11) (.inl rfl) rfl rfl ?_
        refine AWops.guard_yes rfl (Nat.le_of_ble_eq_true rfl) rfl c9 ?_
        refine s_binB (b := (r10 == r11)) F.u_4 rfl rfl (.inl ⟨rfl, rfl⟩) ?_
        refine s_pick_yes (d := (sc (.bool (r10 == r11)))) rfl c9 rfl ?_
        refine s_move (d := (sc (.bool (r10 == r11)))) rfl ?_
        by_cases c12 : (r10 == r11) = true
        · replace h := (if_pos c12).symm.trans h
          refine AWops.guard_yes rfl (Nat.le_of_ble_eq_true rfl) rfl c12 ?_
          obtain ⟨r13, er13, h⟩ := Option.bind_eq_some_iff.mp h
          refine s_call2 (ρ := []) (br := false) (H2 := []) (d := (sc (.bool r13))) F.ca_15 rfl rfl All2.nil All2.nil (by decide) rfl (dossierlaw01_awake.meets _  r13 er13) (.inl rfl) rfl rfl ?_
          refine s_pick_yes (d := (sc (.bool r13))) rfl c12 rfl ?_
          refine s_assign (d := (sc (.bool r13))) rfl ?_
          refine AWops.nil ?_
          refine AW.ret ?_
          obtain rfl := Option.some.inj h
          exact ⟨_, rfl, (Weak.gen (kk := 0) [] [] rfl rfl (by decide) (by decide) rfl rfl rfl (le_upd (le_top _) (.t (.one .sc))) All2.nil)⟩
        · replace h := (if_neg c12).symm.trans h
          replace c12 := Bool.eq_false_iff.mpr c12
          refine AWops.guard_no rfl (Nat.le_of_ble_eq_true rfl) rfl c12 ?_
          refine s_pick_no (d := (sc (.bool false))) rfl c12 rfl ?_
          refine s_assign (d := (sc (.bool false))) rfl ?_
          refine AWops.nil ?_
          refine AW.ret ?_
          obtain rfl := Option.some.inj h
          exact ⟨_, rfl, (Weak.gen (kk := 0) [] [] rfl rfl (by decide) (by decide) rfl rfl rfl (le_upd (le_top _) (.t (.one .sc))) All2.nil)⟩
      · replace h := (if_neg c9).symm.trans h
        replace c9 := Bool.eq_false_iff.mpr c9
        refine AWops.guard_no rfl (Nat.le_of_ble_eq_true rfl) rfl c9 ?_
        refine AWops.guard_no rfl (Nat.le_of_ble_eq_true rfl) rfl c9 ?_
        refine AWops.guard_no rfl (Nat.le_of_ble_eq_true rfl) rfl c9 ?_
        refine AWops.guard_no rfl (Nat.le_of_ble_eq_true rfl) rfl c9 ?_
        refine AWops.guard_no rfl (Nat.le_of_ble_eq_true rfl) rfl c9 ?_
        refine s_pick_no (d := (sc (.bool false))) rfl c9 rfl ?_
        refine s_move (d := (sc (.bool false))) rfl ?_
        refine AWops.guard_no rfl (Nat.le_of_ble_eq_true rfl) rfl rfl ?_
        refine s_pick_no (d := (sc (.bool false))) rfl rfl rfl ?_
        refine s_assign (d := (sc (.bool false))) rfl ?_
        refine AWops.nil ?_
        refine AW.ret ?_
        obtain rfl := Option.some.inj h
        exact ⟨_, rfl, (Weak.gen (kk := 0) [] [] rfl rfl (by decide) (by decide) rfl rfl rfl (le_upd (le_top _) (.t (.one .sc))) All2.nil)⟩
    · replace h := (if_neg c6).symm.trans h
      replace c6 := Bool.eq_false_iff.mpr c6
      refine AWops.guard_no rfl (Nat.le_of_ble_eq_true rfl) rfl c6 ?_
      refine AWops.guard_no rfl (Nat.le_of_ble_eq_true rfl) rfl c6 ?_
      refine AWops.guard_no rfl (Nat.le_of_ble_eq_true rfl) rfl c6 ?_
      refine AWops.guard_no rfl (Nat.le_of_ble_eq_true rfl) rfl c6 ?_
      refine AWops.guard_no rfl (Nat.le_of_ble_eq_true rfl) rfl c6 ?_
      refine s_pick_no (d := (sc (.bool false))) rfl c6 rfl ?_
      refine s_move (d := (sc (.bool false))) rfl ?_
      refine AWops.guard_no rfl (Nat.le_of_ble_eq_true rfl) rfl rfl ?_
      refine AWops.guard_no rfl (Nat.le_of_ble_eq_true rfl) rfl rfl ?_
      refine AWops.guard_no rfl (Nat.le_of_ble_eq_true rfl) rfl rfl ?_
      refine AWops.guard_no rfl (Nat.le_of_ble_eq_true rfl) rfl rfl ?_
      refine AWops.guard_no rfl (Nat.le_of_ble_eq_true rfl) rfl rfl ?_
      refine s_pick_no (d := (sc (.bool false))) rfl rfl rfl ?_
      refine s_move (d := (sc (.bool false))) rfl ?_
      refine AWops.guard_no rfl (Nat.le_of_ble_eq_true rfl) rfl rfl ?_
      refine s_pick_no (d := (sc (.bool false))) rfl rfl rfl ?_
      refine s_assign (d := (sc (.bool false))) rfl ?_
      refine AWops.nil ?_
      refine AW.ret ?_
      obtain rfl := Option.some.inj h
      exact ⟨_, rfl, (Weak.gen (kk := 0) [] [] rfl rfl (by decide) (by decide) rfl rfl rfl (le_upd (le_top _) (.t (.one .sc))) All2.nil)⟩
  · replace h := (if_neg c3).symm.trans h
    replace c3 := Bool.eq_false_iff.mpr c3
    refine AWops.guard_no rfl (Nat.le_of_ble_eq_true rfl) rfl c3 ?_
    refine AWops.guard_no rfl (Nat.le_of_ble_eq_true rfl) rfl c3 ?_
    refine AWops.guard_no rfl (Nat.le_of_ble_eq_true rfl) rfl c3 ?_
    refine AWops.guard_no rfl (Nat.le_of_ble_eq_true rfl) rfl c3 ?_
    refine AWops.guard_no rfl (Nat.le_of_ble_eq_true rfl) rfl c3 ?_
    refine s_pick_no (d := (sc (.bool false))) rfl c3 rfl ?_
    refine s_move (d := (sc (.bool false))) rfl ?_
    refine AWops.guard_no rfl (Nat.le_of_ble_eq_true rfl) rfl rfl ?_
    refine AWops.guard_no rfl (Nat.le_of_ble_eq_true rfl) rfl rfl ?_
    refine AWops.guard_no rfl (Nat.le_of_ble_eq_true rfl) rfl rfl ?_
    refine AWops.guard_no rfl (Nat.le_of_ble_eq_true rfl) rfl rfl ?_
    refine AWops.guard_no rfl (Nat.le_of_ble_eq_true rfl) rfl rfl ?_
    refine s_pick_no (d := (sc (.bool false))) rfl rfl rfl ?_
    refine s_move (d := (sc (.bool false))) rfl ?_
    refine AWops.guard_no rfl (Nat.le_of_ble_eq_true rfl) rfl rfl ?_
    refine AWops.guard_no rfl (Nat.le_of_ble_eq_true rfl) rfl rfl ?_
    refine AWops.guard_no rfl (Nat.le_of_ble_eq_true rfl) rfl rfl ?_
    refine AWops.guard_no rfl (Nat.le_of_ble_eq_true rfl) rfl rfl ?_
    refine AWops.guard_no rfl (Nat.le_of_ble_eq_true rfl) rfl rfl ?_
    refine s_pick_no (d := (sc (.bool false))) rfl rfl rfl ?_
    refine s_move (d := (sc (.bool false))) rfl ?_
    refine AWops.guard_no rfl (Nat.le_of_ble_eq_true rfl) rfl rfl ?_
    refine s_pick_no (d := (sc (.bool false))) rfl rfl rfl ?_
    refine s_assign (d := (sc (.bool false))) rfl ?_
    refine AWops.nil ?_
    refine AW.ret ?_
    obtain rfl := Option.some.inj h
    exact ⟨_, rfl, (Weak.gen (kk := 0) [] [] rfl rfl (by decide) (by decide) rfl rfl rfl (le_upd (le_top _) (.t (.one .sc))) All2.nil)⟩
end Go.Abs.GenC
