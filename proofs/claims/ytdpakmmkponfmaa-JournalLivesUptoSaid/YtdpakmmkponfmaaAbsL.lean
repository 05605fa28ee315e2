import Derived.Test.YtdpakmmkponfmaaAbsK
set_option linter.unusedVariables false
set_option linter.unusedSimpArgs false
namespace Go.Abs

/-! ### plain reading -/
def rd {α : Type} (l : List α) (i : Int) : Option α := if 0 ≤ i then l[i.toNat]? else none
def bt (s : ByteArray) (i : Int) : Option Int := if 0 ≤ i then (s[i.toNat]?).map fun c => (c.toNat : Int) else none

theorem rd_some {α : Type} {l : List α} {i : Int} {e : α} (h : rd l i = some e) : 0 ≤ i ∧ i < (l.length : Int) ∧ l[i.toNat]? = some e := by
 unfold rd at h
 split at h
 ·rename_i h0
  have := (List.getElem?_eq_some_iff.mp h).1
  exact ⟨h0, by omega, h⟩
 ·cases h

theorem bt_some {s : ByteArray} {i n : Int} (h : bt s i = some n) : 0 ≤ i ∧ ∃ c : UInt8, s[i.toNat]? = some c ∧ n = (c.toNat : Int) := by
 unfold bt at h
 split at h
 ·rename_i h0
  cases hc : s[i.toNat]? with
  | none => rw [hc] at h; cases h
  | some c => rw [hc] at h; cases h; exact ⟨h0, c, rfl, rfl⟩
 ·cases h

/-- a piece of a list. -/
def sub {α : Type} (l : List α) (a b : Int) : List α := (l.drop a.toNat).take (b.toNat - a.toNat)

theorem sub_len {α : Type} {l : List α} {a b : Int} (h0 : 0 ≤ a) (h1 : a ≤ b) (h2 : b ≤ (l.length : Int)) : (sub l a b).length = b.toNat - a.toNat := by
 simp [sub]; omega

/-! ### how values lie in cells -/
theorem e_i64_eq (x : Int) : e_i64 x = [.v (.int .i64 x)] := rfl
theorem e_i32_eq (x : Int) : e_i32 x = [.v (.int .i32 x)] := rfl
theorem e_i16_eq (x : Int) : e_i16 x = [.v (.int .i16 x)] := rfl
theorem e_i8_eq (x : Int) : e_i8 x = [.v (.int .i8 x)] := rfl
theorem e_u64_eq (x : Int) : e_u64 x = [.v (.int .u64 x)] := rfl
theorem e_u32_eq (x : Int) : e_u32 x = [.v (.int .u32 x)] := rfl
theorem e_u16_eq (x : Int) : e_u16 x = [.v (.int .u16 x)] := rfl
theorem e_u8_eq (x : Int) : e_u8 x = [.v (.int .u8 x)] := rfl
theorem e_bool_eq (x : Bool) : e_bool x = [.v (.bool x)] := rfl
theorem e_str_eq (x : ByteArray) : e_str x = [.v (.string x)] := rfl
theorem e_sl_eq {α : Type} (f : α → List P) (xs : List α) : e_sl f xs = [.sl xs.length (xs.flatMap f)] := rfl

def bytesI (s : ByteArray) : List Int := s.data.toList.map fun b => (b.toNat : Int)
theorem bytesI_len (s : ByteArray) : (bytesI s).length = s.size := by simp [bytesI]

def rowC {α : Type} (f : α → List P) (xs : List α) : List C := (xs.flatMap f).map mkC

section
variable {α : Type} {f : α → List P} {sz : Nat}

theorem flat_len (hf : ∀ x, (f x).length = sz) (xs : List α) : (xs.flatMap f).length = xs.length * sz := by
 induction xs with
 | nil => simp
 | cons x xs ih =>
  rw [List.flatMap_cons, List.length_append, ih, hf, List.length_cons, Nat.add_mul]; omega

theorem row_len (hf : ∀ x, (f x).length = sz) (xs : List α) : (rowC f xs).length = xs.length * sz := by simp [rowC, flat_len hf]

theorem flat_drop (hf : ∀ x, (f x).length = sz) : ∀ (xs : List α) (i : Nat), (xs.flatMap f).drop (i * sz) = (xs.drop i).flatMap f
 | xs, 0 => by simp
 | [], i + 1 => by simp
 | x :: xs, i + 1 => by
  have ih := flat_drop hf xs i
  rw [List.flatMap_cons, show (i + 1) * sz = (f x).length + i * sz by rw [hf, Nat.add_mul]; omega, List.drop_append]
  simp [ih]

theorem flat_take (hf : ∀ x, (f x).length = sz) : ∀ (xs : List α) (i : Nat), (xs.flatMap f).take (i * sz) = (xs.take i).flatMap f
 | xs, 0 => by simp
 | [], i + 1 => by simp
 | x :: xs, i + 1 => by
  have ih := flat_take hf xs i
  rw [List.flatMap_cons, show (i + 1) * sz = (f x).length + i * sz by rw [hf, Nat.add_mul]; omega, List.take_append]
  rw [List.take_of_length_le (by omega), show (f x).length + i * sz - (f x).length = i * sz by omega, ih]
  simp

theorem flat_at (hf : ∀ x, (f x).length = sz) {xs : List α} {i : Nat} {e : α} {cs : List P} (h : xs[i]? = some e) (he : f e = cs) : ((xs.flatMap f).drop (i * sz)).take sz = cs := by
 rw [flat_drop hf]
 obtain ⟨hi, rfl⟩ := List.getElem?_eq_some_iff.mp h
 rw [List.drop_eq_getElem_cons hi, List.flatMap_cons, List.take_append]
 simp [hf, ← he]
 rw [← hf xs[i], List.take_length]

theorem flat_sub (hf : ∀ x, (f x).length = sz) (xs : List α) (a b : Int) : ((xs.flatMap f).drop (a.toNat * sz)).take ((b.toNat - a.toNat) * sz) = (sub xs a b).flatMap f := by
 rw [flat_drop hf, flat_take hf]; rfl

theorem row_append (xs ys : List α) : rowC f xs ++ rowC f ys = rowC f (xs ++ ys) := by simp [rowC]

theorem row_noTop (xs : List α) : noTop (rowC f xs) = true := by
 rw [noTop_iff]; intro c hc
 simp only [rowC, List.mem_map] at hc
 obtain ⟨p, _, rfl⟩ := hc
 cases p <;> rfl

theorem plain_mkC (p : P) : plainOf (mkC p) = some p := by cases p <;> rfl

theorem row_plain (xs : List α) : (rowC f xs).map plainOf = (xs.flatMap f).map some := by
 simp only [rowC, List.map_map]
 apply List.map_congr_left
 intro p _
 exact plain_mkC p

theorem row_all (hf : ∀ x, (f x).length = sz) (xs : List α) : ((rowC f xs).drop 0).take (xs.length * sz) = rowC f xs := by
 rw [List.drop_zero, List.take_of_length_le]
 rw [row_len hf]; omega

/-- an element's cells, from one of them on. -/
theorem row_at (hf : ∀ x, (f x).length = sz) {xs : List α} {i : Nat} {e : α} {cs : List P} (h : xs[i]? = some e) (he : f e = cs) {o : Nat} (ho : o ≤ sz) :
  ∃ R, (rowC f xs).drop (0 + i * sz + o) = (cs.drop o).map mkC ++ R := by
 refine ⟨((xs.drop (i + 1)).flatMap f).map mkC, ?_⟩
 have hl : o ≤ (f e).length := by rw [hf]; exact ho
 rw [Nat.zero_add, ← List.drop_drop]
 unfold rowC
 rw [← List.map_drop, flat_drop hf]
 obtain ⟨hi, rfl⟩ := List.getElem?_eq_some_iff.mp h
 rw [List.drop_eq_getElem_cons hi, List.flatMap_cons, ← List.map_drop, List.drop_append, ← he]
 rw [show o - (f xs[i]).length = 0 by omega]
 simp

theorem flat_set (hf : ∀ x, (f x).length = sz) {xs : List α} {i : Nat} {e e' : α} (h : xs[i]? = some e) {o : Nat} {ds : List P} (hd : splice (f e) o ds = f e') (ho : o + ds.length ≤ sz) :
  splice (xs.flatMap f) (i * sz + o) ds = (xs.set i e').flatMap f := by
 obtain ⟨hi, rfl⟩ := List.getElem?_eq_some_iff.mp h
 have h1 : xs = xs.take i ++ xs[i] :: xs.drop (i + 1) := by rw [List.getElem_cons_drop, List.take_append_drop]
 have h2 : xs.set i e' = xs.take i ++ e' :: xs.drop (i + 1) := by
  rw [List.set_eq_take_append_cons_drop, if_pos hi]
 have h3 : ((xs.take i).flatMap f).length = i * sz := by rw [flat_len hf]; congr 1; simp; omega
 have hl := hf xs[i]
 conv => lhs; rw [h1]
 rw [h2]
 simp only [List.flatMap_append, List.flatMap_cons]
 unfold splice at hd ⊢
 rw [List.take_append, List.take_of_length_le (by omega), h3, show i * sz + o - i * sz = o by omega, List.take_append, show o - (f xs[i]).length = 0 by omega, List.take_zero, List.append_nil]
 rw [List.drop_append, List.drop_eq_nil_of_le (by omega), List.nil_append, h3, show i * sz + o + ds.length - i * sz = o + ds.length by omega, List.drop_append, show o + ds.length - (f xs[i]).length = 0 by omega, List.drop_zero]
 rw [← hd]
 simp [List.append_assoc]

theorem row_set (hf : ∀ x, (f x).length = sz) {xs : List α} {i : Nat} {e e' : α} (h : xs[i]? = some e) {o : Nat} {ds : List P} {cs : List C} (hd : splice (f e) o ds = f e') (ho : o + ds.length ≤ sz) (hc : ds.map mkC = cs) :
  splice (rowC f xs) (0 + i * sz + o) cs = rowC f (xs.set i e') := by
 subst hc
 unfold rowC
 rw [← flat_set hf h hd ho, Nat.zero_add]
 simp [splice]
end

/-! ### typed steps -/
inductive TBase {α : Type} (st : St) (f : α → List P) (sz : Nat) : D → Option Nat → Bool → List α → Prop
 | nil {b : Bool} : TBase st f sz (.one (.p b (.v (.slice none 0 0)))) none true []
 | own {t n : Nat} {fr : Bool} {xs : List α} (hl : st.H[t]? = some (some (.cells fr (rowC f xs)))) (hn : n = xs.length) : TBase st f sz (.one (.own t 0 n sz)) (some t) fr xs

inductive TSrc {α : Type} (st : St) (f : α → List P) (sz : Nat) : D → List α → Prop
 | nil {b : Bool} : TSrc st f sz (.one (.p b (.v (.slice none 0 0)))) []
 | imm {b : Bool} {xs : List α} : TSrc st f sz (.one (.p b (.sl xs.length (xs.flatMap f)))) xs
 | own {t n : Nat} {fr : Bool} {xs : List α} (hl : st.H[t]? = some (some (.cells fr (rowC f xs)))) (hn : n = xs.length) : TSrc st f sz (.one (.own t 0 n sz)) xs

section
variable {α : Type} {f : α → List P} {sz : Nat} {st : St}
theorem e_u8_len (x : Int) : (e_u8 x).length = 1 := rfl
theorem e_i64_len (x : Int) : (e_i64 x).length = 1 := rfl
theorem e_i32_len (x : Int) : (e_i32 x).length = 1 := rfl
theorem e_u64_len (x : Int) : (e_u64 x).length = 1 := rfl
theorem e_u32_len (x : Int) : (e_u32 x).length = 1 := rfl
theorem e_u16_len (x : Int) : (e_u16 x).length = 1 := rfl
theorem e_i16_len (x : Int) : (e_i16 x).length = 1 := rfl
theorem e_i8_len (x : Int) : (e_i8 x).length = 1 := rfl
theorem e_bool_len (x : Bool) : (e_bool x).length = 1 := rfl
theorem e_str_len (x : ByteArray) : (e_str x).length = 1 := rfl
theorem e_sl_len {β : Type} (g : β → List P) (xs : List β) : (e_sl g xs).length = 1 := rfl
theorem TBase.is (hf : ∀ x, (f x).length = sz) {d : D} {kill : Option Nat} {fr : Bool} {xs : List α} (h : TBase st f sz d kill fr xs) : IsBase st sz d kill fr xs.length (rowC f xs) := by
 cases h with
 | nil => exact .nil
 | own hl hn => subst hn; exact .own hl (row_len hf xs)

theorem TSrc.is (hf : ∀ x, (f x).length = sz) {d : D} {xs : List α} (h : TSrc st f sz d xs) : IsSrc st sz d xs.length (rowC f xs) := by
 cases h with
 | nil => exact .nil
 | imm => exact .imm (flat_len hf xs)
 | own hl hn => subst hn; exact .own hl (row_all hf xs) (row_len hf xs) (row_noTop xs)

theorem strC_row (s : ByteArray) : strC s = rowC e_u8 (bytesI s) := by
 simp only [strC, rowC, bytesI, byteCells, List.flatMap_map, List.map_flatMap, List.map_map]
 induction s.data.toList with
 | nil => rfl
 | cons b l ih => simp [ih, e_u8, mkC]

theorem strP_row (s : ByteArray) : strP s = (bytesI s).flatMap e_u8 := by
 simp only [strP, bytesI, List.flatMap_map]
 induction s.data.toList with
 | nil => rfl
 | cons b l ih => simp [ih, e_u8]

variable {pr : Program} {x : Ctx} {K : Exit → St → Prop}
variable {ops : Array Oper} {rest : List Oper} {dst : Option Tmp} {ty : TypeId} {pos : String} {aft : Array Edge}

theorem t_append {t tx e e' : TypeId} {y z : Operand} {zv : Value} {bs : Nat} {kill : Option Nat} {fr : Bool} {xs ys zs : List α} {H' : List (Option AObj)}
  (ht : pr.underlying t = some (.slice e)) (hi : infoQ pr e = some (some zv, sz, bs)) (hzs : zv.cells.size = sz) (hf : ∀ x, (f x).length = sz)
  (hb : TBase st f sz (st.val y) kill fr xs) (hsrc : TSrc st f sz (st.val z) ys) (htx : pr.underlying tx = some (.slice e'))
  (hbytes : (xs.length + ys.length) * bs ≤ 140737488355328) (h63 : xs.length + ys.length ≤ 9223372036854775807) (hz : xs ++ ys = zs)
  (hH : killO st.H kill ++ [some (.cells fr (rowC f zs))] = H')
  (k : AWops pr x ops rest K ((st.heap H').put dst (.one (.own st.H.length 0 zs.length sz)))) :
  AWops pr x ops (⟨dst, .call { callee := .builtin .append, args := #[y, z], argTypes := #[t, tx] }, ty, pos, aft, none⟩ :: rest) K st := by
 subst hz
 exact s_append ht hi hzs (hb.is hf) (hsrc.is hf) (.inl ⟨_, htx⟩) hbytes h63 (row_append xs ys) hH (by rw [List.length_append]) k

theorem t_appendStr {t tx e : TypeId} {y z : Operand} {zv : Value} {bs : Nat} {kill : Option Nat} {fr b : Bool} {xs zs : List Int} {s : ByteArray} {H' : List (Option AObj)}
  (ht : pr.underlying t = some (.slice e)) (hi : infoQ pr e = some (some zv, 1, bs)) (hzs : zv.cells.size = 1)
  (hb : TBase st e_u8 1 (st.val y) kill fr xs) (hsrc : st.val z = .one (.p b (.v (.string s)))) (htx : pr.underlying tx = some .string)
  (hbytes : (xs.length + s.size) * bs ≤ 140737488355328) (h63 : xs.length + s.size ≤ 9223372036854775807) (hz : xs ++ bytesI s = zs)
  (hH : killO st.H kill ++ [some (.cells fr (rowC e_u8 zs))] = H')
  (k : AWops pr x ops rest K ((st.heap H').put dst (.one (.own st.H.length 0 zs.length 1)))) :
  AWops pr x ops (⟨dst, .call { callee := .builtin .append, args := #[y, z], argTypes := #[t, tx] }, ty, pos, aft, none⟩ :: rest) K st := by
 subst hz
 exact s_append ht hi hzs (hb.is e_u8_len) (m := s.size) (news := strC s) (by rw [hsrc]; exact .str rfl) (.inr ⟨htx, _, _, hsrc⟩) hbytes h63 (by rw [strC_row, row_append]) hH (by rw [List.length_append, bytesI_len]) k

theorem t_ofStr {src d e : TypeId} {y : Operand} {s : ByteArray} {b : Bool} (hsrc : pr.underlying src = some .string) (hd : pr.underlying d = some (.slice e)) (he : pr.underlying e = some (.int .u8))
  (hy : st.val y = .one (.p b (.v (.string s)))) (k : AWops pr x ops rest K (st.put dst (.one (.p false (.sl (bytesI s).length ((bytesI s).flatMap e_u8)))))) :
  AWops pr x ops (⟨dst, .convert src d y, ty, pos, aft, none⟩ :: rest) K st :=
 s_ofStr hsrc hd he hy (by rw [strP_row]; rw [bytesI_len] at k; exact k)

theorem u8_nums (xs : List Int) : (rowC e_u8 xs).map plainOf = xs.map fun n => some (P.v (.int .u8 n)) := by
 induction xs with
 | nil => rfl
 | cons x xs ih =>
  have : rowC e_u8 (x :: xs) = mkC (.v (.int .u8 x)) :: rowC e_u8 xs := rfl
  rw [this, List.map_cons, ih]; rfl

theorem t_toStr {src d e : TypeId} {y : Operand} {xs : List Int} (hsrc : pr.underlying src = some (.slice e)) (he : pr.underlying e = some (.int .u8)) (hd : pr.underlying d = some .string)
  (hy : TSrc st e_u8 1 (st.val y) xs) (k : AWops pr x ops rest K (st.put dst (sc (.string (ofNums xs))))) :
  AWops pr x ops (⟨dst, .convert src d y, ty, pos, aft, none⟩ :: rest) K st :=
 s_toStr hsrc he hd (hy.is e_u8_len) (fun f s h => by rw [h] at hy; cases hy) (u8_nums xs) k

/-- an element of a row of the call's own. -/
theorem at_row (hf : ∀ x, (f x).length = sz) {t o : Nat} {fr : Bool} {xs : List α} {i : Int} {e : α} {cs : List P} (hH : st.H[t]? = some (some (.cells fr (rowC f xs)))) (h : xs[i.toNat]? = some e) (he : f e = cs) (ho : o ≤ sz) :
  ∃ R, st.at (.one (.er t (0 + i.toNat * sz + o))) = some ((cs.drop o).map mkC ++ R) := by
 obtain ⟨R, hR⟩ := row_at hf h he ho
 exact ⟨R, by simp only [St.at, hH, hR]⟩

theorem t_sliceImm {t e : TypeId} {y : Operand} {lo hi : Option Operand} {a b : Int} {xs : List α} {c : Bool} (ht : pr.underlying t = some (.slice e)) (hsz : szOf pr e = some sz) (hf : ∀ x, (f x).length = sz)
  (hy : st.val y = .one (.p c (.sl xs.length (xs.flatMap f)))) (h0 : 0 ≤ a) (h1 : a ≤ b) (h2 : b ≤ (xs.length : Int)) (hlo : IsB st lo 0 a.toNat) (hhi : IsB st hi xs.length b.toNat)
  (k : AWops pr x ops rest K (st.put dst (.one (.p c (.sl (sub xs a b).length ((sub xs a b).flatMap f)))))) : AWops pr x ops (⟨dst, .slice t y lo hi none, ty, pos, aft, none⟩ :: rest) K st := by
 refine s_sliceImm ht hsz hy hlo hhi (by omega) (by omega) (flat_sub hf xs a b) ?_
 rw [sub_len h0 h1 h2] at k
 exact k

theorem t_slice3Imm {t e : TypeId} {y y0 y1 : Operand} {b : Int} {k0 k1 : IntKind} {f0 f1 c : Bool} {xs : List α} (ht : pr.underlying t = some (.slice e)) (hsz : szOf pr e = some sz) (hf : ∀ x, (f x).length = sz)
  (hy : st.val y = .one (.p c (.sl xs.length (xs.flatMap f)))) (h0 : st.val y0 = .one (.p f0 (.v (.int k0 b)))) (h1 : st.val y1 = .one (.p f1 (.v (.int k1 b)))) (hb0 : 0 ≤ b) (h2 : b ≤ (xs.length : Int))
  (k : AWops pr x ops rest K (st.put dst (.one (.p c (.sl (sub xs 0 b).length ((sub xs 0 b).flatMap f)))))) :
  AWops pr x ops (⟨dst, .slice t y none (some y0) (some y1), ty, pos, aft, none⟩ :: rest) K st := by
 refine s_slice3Imm ht hsz hy h0 h1 hb0 rfl (by omega) ?_ ?_ (ps := (sub xs 0 b).flatMap f)
 ·have := flat_sub hf xs 0 b
  simpa using this
 ·rw [sub_len (by omega) hb0 h2] at k
  simpa using k

theorem ren_row (σ : Nat → Nat) (xs : List α) : renCs σ (rowC f xs) = rowC f xs := by
 unfold rowC
 induction xs.flatMap f with
 | nil => rfl
 | cons p ps ih =>
  rw [List.map_cons]
  show renC σ (mkC p) :: renCs σ _ = _
  rw [ih]
  cases p <;> rfl

theorem fr_row (hf : ∀ x, ((f x).map mkC).all frC = true) (xs : List α) : (rowC f xs).all frC = true := by
 unfold rowC
 induction xs with
 | nil => rfl
 | cons x xs ih => rw [List.flatMap_cons, List.map_append, List.all_append, ih, hf, Bool.and_self]
theorem e_u8_fr (x : Int) : ((e_u8 x).map mkC).all frC = true := rfl
theorem e_i64_fr (x : Int) : ((e_i64 x).map mkC).all frC = true := rfl
theorem e_i32_fr (x : Int) : ((e_i32 x).map mkC).all frC = true := rfl
theorem e_u64_fr (x : Int) : ((e_u64 x).map mkC).all frC = true := rfl
theorem e_u32_fr (x : Int) : ((e_u32 x).map mkC).all frC = true := rfl
theorem e_u16_fr (x : Int) : ((e_u16 x).map mkC).all frC = true := rfl
theorem e_i16_fr (x : Int) : ((e_i16 x).map mkC).all frC = true := rfl
theorem e_i8_fr (x : Int) : ((e_i8 x).map mkC).all frC = true := rfl
theorem e_bool_fr (x : Bool) : ((e_bool x).map mkC).all frC = true := rfl
theorem e_str_fr (x : ByteArray) : ((e_str x).map mkC).all frC = true := rfl

/-! ### told otherwise -/
variable {H : List (Option AObj)} {ρ fz : List Nat}
theorem CLe.mk (p : P) : CLe H ρ fz (mkC p) (mkC p) := by cases p <;> exact .same
theorem all2_row (xs : List α) : All2 (CLe H ρ fz) (rowC f xs) (rowC f xs) := by
 unfold rowC
 induction xs.flatMap f with
 | nil => exact .nil
 | cons p ps ih => exact .cons (.mk p) ih
theorem LendC.mk {br : Bool} (p : P) : LendC st ρ br (mkC p) (mkC p) := by
 cases p with
 | v x => exact .sc
 | sl n cs => exact .imm
 | fsl m n cs => exact .imm
 | fptr m p => exact .imm
theorem lend_row {br : Bool} (xs : List α) : All2 (LendC st ρ br) (rowC f xs) (rowC f xs) := by
 unfold rowC
 induction xs.flatMap f with
 | nil => exact .nil
 | cons p ps ih => exact .cons (.mk p) ih
theorem CLe.frz (hf : ∀ x, (f x).length = sz) {t n : Nat} {xs : List α} (ht : fz.contains t = true) {fr : Bool} (hl : H[t]? = some (some (.cells fr (rowC f xs)))) (hn : n = xs.length) : CLe H ρ fz (.own t 0 n sz) (.p false (.sl xs.length (xs.flatMap f))) := by
 subst hn
 exact .freeze ht hl (by rw [row_all hf, row_plain]) (.inl rfl)
theorem CLe.ownN {t t' off n n' : Nat} (h : ρ[t']? = some t) (hn : n = n') : CLe H ρ fz (.own t off n sz) (.own t' off n' sz) := by
 subst hn; exact .own h
theorem LendC.bor (hf : ∀ x, (f x).length = sz) {t n : Nat} {fr : Bool} {xs : List α} (hl : st.H[t]? = some (some (.cells fr (rowC f xs)))) (ht : ρ.contains t = false) (hn : n = xs.length) : LendC st ρ true (.own t 0 n sz) (.p false (.sl xs.length (xs.flatMap f))) := by
 subst hn
 exact .borrow rfl hl ht (by rw [row_all hf, row_plain])
theorem le_top (g : Nat → D) : ∀ i, DLe H ρ fz (g i) (topF i) := fun _ => .t (.top _)
theorem le_upd {n t : Nat} {g g' : Nat → D} {d : D} (h : ∀ i, DLe H ρ fz (g i) (g' i)) (ht : DLe H ρ fz (g t) d) : ∀ i, DLe H ρ fz (g i) (upd n g' t d i) := by
 intro i
 unfold upd
 by_cases hi : (Nat.beq i t && Nat.blt t n) = true
 ·rw [hi]
  have : i = t := by
   simp only [Bool.and_eq_true] at hi
   simpa [Nat.beq_eq] using hi.1
  subst this
  exact ht
 ·rw [Bool.not_eq_true] at hi
  rw [hi]; exact h i
theorem LendT.aggL {br : Bool} {cs cs' : List C} (h : All2 (LendC st ρ br) cs cs') : LendT st ρ br (.agg cs) (.agg cs') := .agg h.len h.get
theorem LendC.cloL {br : Bool} {fn : FuncId} {cs cs' : List C} (h : All2 (LendC st ρ br) cs cs') : LendC st ρ br (.clo fn cs) (.clo fn cs') := .clo h.len h.get
theorem CLe.cloL {fn : FuncId} {cs cs' : List C} (h : All2 (CLe H ρ fz) cs cs') : CLe H ρ fz (.clo fn cs) (.clo fn cs') := .clo h.len h.get
end
end Go.Abs
