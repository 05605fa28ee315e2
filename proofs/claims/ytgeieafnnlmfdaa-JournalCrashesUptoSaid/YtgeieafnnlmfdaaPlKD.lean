import Derived.Test.YtgeieafnnlmfdaaPlKC
set_option linter.unusedVariables false
set_option linter.unusedSimpArgs false
set_option maxRecDepth 100000
set_option maxHeartbeats 4000000
namespace Go.Abs.GenK
open Go.Abs
/-! ### the disk's states -/
def nm : ByteArray := ⟨#[106, 111, 117, 114, 110, 97, 108]⟩
def nn : ByteArray := ⟨#[106, 111, 117, 114, 110, 97, 108, 46, 110, 101, 119]⟩
theorem nn_nm : nn ≠ nm := by decide
theorem b11 : (nm.toList == nm.toList) = true := by simp
theorem b22 : (nn.toList == nn.toList) = true := by simp
theorem b12 : (nm.toList == nn.toList) = false := by rw [beq_eq]; decide
theorem b21 : (nn.toList == nm.toList) = false := by rw [beq_eq]; decide
def d0 (R : Int) : VD := ⟨[], R, 0, (), false⟩
def e1 (R : Int) (b : List Int) (q : Int) : VD := ⟨[(nn, ⟨b, q⟩)], R, (b.length : Int), (), false⟩
def d1 (R : Int) (c : List Int) (s : Int) (x : Bool) : VD := ⟨[(nm, ⟨c, s⟩)], R, (c.length : Int), (), x⟩
def d2 (R : Int) (c : List Int) (s : Int) (g : List Int) (q : Int) (x : Bool) : VD := ⟨[(nm, ⟨c, s⟩), (nn, ⟨g, q⟩)], R, ((c.length + g.length : Nat) : Int), (), x⟩
def off (D : VD) : VD := ⟨D.files, D.room, D.used, (), true⟩
def bu (fu : Option Int) (D D' : VD) : Int × VD × Option Int := match fu with
 | none => (0, D', none)
 | some p => if p = 0 then (70, off D, some p) else (0, D', some (IntKind.i64.wrap (p - 1)))
theorem aft_bu (D : VD) (fu : Option Int) (g : VD → VD) : aftP (brP D fu) g = bu fu D (g D) := by
 cases fu with
 | none => rfl
 | some p => simp only [brP, bu]; split <;> rfl
theorem chg_br {D : VD} {fu : Option Int} {n : ByteArray} {fresh : Bool} {g : Int} (h1 : D.dead = false) (h2 : (mget n D.files).isSome = true ∨ fresh = true) (h3 : ¬ (g > 0 ∧ g > IntKind.i64.wrap (D.room - D.used))) : chg D fu true n fresh g = brP D fu := by
 unfold chg
 rw [if_pos rfl, if_neg (by rw [h1]; decide), if_pos h2, if_neg h3]
theorem nb_nm : nb nm = true := rfl
theorem nb_nn : nb nn = true := rfl
theorem pA1 {R : Int} {c b : List Int} {s : Int} (fu : Option Int) (h : ((c.length + b.length : Nat) : Int) ≤ R) (hR : R ≤ 4194304) : pAppend (d1 R c s false) fu nm b = bu fu (d1 R c s false) (d1 R (c ++ b) s false) := by
 unfold pAppend
 rw [nb_nm, chg_br rfl (.inr rfl) (by show ¬ ((b.length : Int) > 0 ∧ (b.length : Int) > IntKind.i64.wrap (R - (c.length : Int))); rw [wrap_i64] <;> omega), aft_bu]
 congr 1
 simp only [setD, d1, lk, lk_vdisk_file, mget, mset, b11, if_true, Option.getD_some]
 congr 1
 rw [List.length_append, wrap_i64 (n := ((c.length + b.length : Nat) : Int) - (c.length : Int)) (by omega) (by omega), wrap_i64] <;> omega
theorem pA2 {R : Int} {c b : List Int} {s : Int} (fu : Option Int) (h : ((c.length + b.length : Nat) : Int) ≤ R) (hR : R ≤ 4194304) : pAppend (d1 R c s false) fu nn b = bu fu (d1 R c s false) (d2 R c s b 0 false) := by
 unfold pAppend
 rw [nb_nn, chg_br rfl (.inr rfl) (by show ¬ ((b.length : Int) > 0 ∧ (b.length : Int) > IntKind.i64.wrap (R - (c.length : Int))); rw [wrap_i64] <;> omega), aft_bu]
 congr 1
 simp only [setD, d1, d2, lk, lk_vdisk_file, mget, mset, b21, if_false, Option.getD_none, Bool.false_eq_true, List.nil_append, List.length_nil]
 congr 1
 rw [wrap_i64 (n := (b.length : Int) - ((0 : Nat) : Int)) (by omega) (by omega), wrap_i64] <;> omega
theorem pA0 {R : Int} {b : List Int} (fu : Option Int) (h : (b.length : Int) ≤ R) (hR : R ≤ 4194304) : pAppend (d0 R) fu nn b = bu fu (d0 R) (e1 R b 0) := by
 unfold pAppend
 rw [nb_nn, chg_br rfl (.inr rfl) (by show ¬ ((b.length : Int) > 0 ∧ (b.length : Int) > IntKind.i64.wrap (R - 0)); rw [wrap_i64] <;> omega), aft_bu]
 congr 1
 simp only [setD, d0, e1, lk, lk_vdisk_file, mget, mset, Option.getD_none, List.nil_append, List.length_nil]
 congr 1
 rw [wrap_i64 (n := (b.length : Int) - ((0 : Nat) : Int)) (by omega) (by omega), wrap_i64] <;> omega
theorem g0 (x : Int) : ¬ ((0 : Int) > 0 ∧ (0 : Int) > x) := by omega
theorem w0 (x : Int) : IntKind.i64.wrap (x - x) = 0 := by rw [Int.sub_self]; rfl
theorem pS1 {R : Int} {c : List Int} {s : Int} (fu : Option Int) (hc : c.length ≤ 4194304) : pSync (d1 R c s false) fu nm = bu fu (d1 R c s false) (d1 R c (c.length : Int) false) := by
 unfold pSync
 rw [chg_br rfl (.inl (by simp only [d1, mget, b11, if_true]; rfl)) (g0 _), aft_bu]
 congr 1
 simp only [setD, d1, lk, lk_vdisk_file, mget, mset, b11, if_true, Option.getD_some, w0]
 congr 1
 rw [wrap_i64] <;> omega
theorem pS2 {R : Int} {c g : List Int} {s q : Int} (fu : Option Int) (hc : c.length + g.length ≤ 4194304) : pSync (d2 R c s g q false) fu nn = bu fu (d2 R c s g q false) (d2 R c s g (g.length : Int) false) := by
 unfold pSync
 rw [chg_br rfl (.inl (by simp only [d2, mget, b21, b22, if_true, if_false, Bool.false_eq_true]; rfl)) (g0 _), aft_bu]
 congr 1
 simp only [setD, d2, lk, lk_vdisk_file, mget, mset, b21, b22, if_true, if_false, Bool.false_eq_true, Option.getD_some, w0]
 congr 1
 rw [wrap_i64] <;> omega
theorem pS0 {R : Int} {g : List Int} {q : Int} (fu : Option Int) (hc : g.length ≤ 4194304) : pSync (e1 R g q) fu nn = bu fu (e1 R g q) (e1 R g (g.length : Int)) := by
 unfold pSync
 rw [chg_br rfl (.inl (by simp only [e1, mget, b22, if_true]; rfl)) (g0 _), aft_bu]
 congr 1
 simp only [setD, e1, lk, lk_vdisk_file, mget, mset, b22, if_true, Option.getD_some, w0]
 congr 1
 rw [wrap_i64] <;> omega
theorem pR2 {R : Int} {c g : List Int} {s q : Int} (fu : Option Int) (hc : c.length + g.length ≤ 4194304) : pRename (d2 R c s g q false) fu nn nm = bu fu (d2 R c s g q false) (d1 R g q false) := by
 unfold pRename
 rw [nb_nm, chg_br rfl (.inl (by simp only [d2, mget, b21, b22, if_true, if_false, Bool.false_eq_true]; rfl)) (g0 _), aft_bu]
 congr 1
 simp only [if_neg nn_nm, setD, cutD, d1, d2, lk, lk_vdisk_file, mget, mset, mdel, b21, b22, b11, if_true, if_false, Bool.false_eq_true, Option.getD_some]
 congr 1
 rw [wrap_i64 (n := ((c.length + g.length : Nat) : Int) - (g.length : Int)) (by omega) (by omega), wrap_i64 (n := (g.length : Int) - (c.length : Int)) (by omega) (by omega), wrap_i64] <;> omega
theorem pR0 {R : Int} {g : List Int} {q : Int} (fu : Option Int) (hc : g.length ≤ 4194304) : pRename (e1 R g q) fu nn nm = bu fu (e1 R g q) (d1 R g q false) := by
 unfold pRename
 rw [nb_nm, chg_br rfl (.inl (by simp only [e1, mget, b22, if_true]; rfl)) (g0 _), aft_bu]
 congr 1
 simp only [if_neg nn_nm, setD, cutD, e1, d1, lk, lk_vdisk_file, mget, mset, mdel, b22, if_true, Option.getD_some, Option.getD_none, List.length_nil]
 congr 1
 rw [w0, wrap_i64 (n := (g.length : Int) - ((0 : Nat) : Int)) (by omega) (by omega), wrap_i64] <;> omega
theorem pM1 (R : Int) (c : List Int) (s : Int) (fu : Option Int) : pRemove (d1 R c s false) fu nn = (33, d1 R c s false, fu) := by
 have : chg (d1 R c s false) fu true nn false 0 = (33, d1 R c s false, fu) := by
  unfold chg
  rw [if_pos rfl, if_neg (by show ¬ (false = true); decide), if_neg (by simp only [d1, mget, b21, if_false, Bool.false_eq_true]; decide)]
 unfold pRemove
 rw [this]; rfl
theorem pM0 (R : Int) (fu : Option Int) : pRemove (d0 R) fu nn = (33, d0 R, fu) := rfl
theorem pM2 {R : Int} {c g : List Int} {s q : Int} (fu : Option Int) (hc : c.length + g.length ≤ 4194304) : pRemove (d2 R c s g q false) fu nn = bu fu (d2 R c s g q false) (d1 R c s false) := by
 unfold pRemove
 rw [chg_br rfl (.inl (by simp only [d2, mget, b21, b22, if_true, if_false, Bool.false_eq_true]; rfl)) (g0 _), aft_bu]
 congr 1
 simp only [cutD, d1, d2, lk, lk_vdisk_file, mget, mdel, b21, b22, if_true, if_false, Bool.false_eq_true, Option.getD_some]
 congr 1
 rw [wrap_i64] <;> omega
theorem pT1 {R : Int} {c : List Int} {n : Nat} (fu : Option Int) (hc : c.length ≤ 4194304) (hn : n ≤ c.length) : pTruncate (d1 R c (c.length : Int) false) fu nm (n : Int) = bu fu (d1 R c (c.length : Int) false) (d1 R (c.take n) ((c.take n).length : Int) false) := by
 unfold pTruncate
 rw [show decide ((n : Int) ≥ 0) = true by simp, chg_br rfl (.inl (by simp only [d1, mget, b11, if_true]; rfl)) (g0 _), aft_bu]
 congr 1
 have hm : mn c (n : Int) = (n : Int) := by unfold mn; split <;> omega
 have hl : (c.take n).length = n := by rw [List.length_take]; omega
 have hs : (if (c.length : Int) < (n : Int) then (c.length : Int) else (n : Int)) = (n : Int) := by rw [if_neg (by omega)]
 simp only [setD, d1, lk, lk_vdisk_file, mget, mset, b11, if_true, Option.getD_some, hm, sub_take, hl, hs]
 congr 1
 rw [wrap_i64 (n := (n : Int) - (c.length : Int)) (by omega) (by omega), wrap_i64] <;> omega
/-! ### reading -/
def rdP (D : VD) (n : ByteArray) : List Int × Int := if D.dead = true then ([], 70) else if (mget n D.files).isSome = true then ((lk n D.files).b, 0) else ([], 33)
theorem readP0 (D : VD) (n : ByteArray) (hl : (lk n D.files).b.length ≤ 1099511627776) : Evt (fun k => vdisk_Disk_Read.f k D n) (rdP D n) := by
 simp only [vdisk_Disk_Read.f, vdisk_Disk_none.f, rdP, Option.bind_some]
 by_cases h1 : D.dead = true
 ·simp only [if_pos h1]; exact .pure _
 ·simp only [if_neg h1]
  by_cases h2 : (mget n D.files).isSome = true
  ·simp only [if_pos h2]; exact Evt.bind (bclone_ev _ hl) (.pure _)
  ·simp only [if_neg h2]; exact .pure _
theorem readP1 (D : VD) (n : ByteArray) (p : Int) (hl : (lk n D.files).b.length ≤ 1099511627776) : Evt (fun k => vdisk_Disk_Read_32.f k D n p) (rdP D n) := by
 simp only [vdisk_Disk_Read_32.f, vdisk_Disk_none_34.f, rdP, Option.bind_some]
 by_cases h1 : D.dead = true
 ·simp only [if_pos h1]; exact .pure _
 ·simp only [if_neg h1]
  by_cases h2 : (mget n D.files).isSome = true
  ·simp only [if_pos h2]; exact Evt.bind (bclone_ev _ hl) (.pure _)
  ·simp only [if_neg h2]; exact .pure _
theorem lk_d1 (R : Int) (c : List Int) (s : Int) (x : Bool) : lk nm (d1 R c s x).files = ⟨c, s⟩ := by simp only [d1, lk, lk_vdisk_file, mget, b11, if_true, Option.getD_some]
theorem lk_d1n (R : Int) (c : List Int) (s : Int) (x : Bool) : lk nn (d1 R c s x).files = ⟨[], 0⟩ := by simp only [d1, lk, lk_vdisk_file, mget, b21, if_false, Bool.false_eq_true, Option.getD_none]
theorem rd_d1 (R : Int) (c : List Int) (s : Int) : rdP (d1 R c s false) nm = (c, 0) := by
 unfold rdP
 rw [if_neg (by show ¬ (false = true); decide), if_pos (by simp only [d1, mget, b11, if_true]; rfl), lk_d1]
end Go.Abs.GenK
