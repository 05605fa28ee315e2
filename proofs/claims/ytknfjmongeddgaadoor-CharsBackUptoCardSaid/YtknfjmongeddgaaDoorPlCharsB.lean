import Derived.Test.YtknfjmongeddgaaDoorPlCharsA
set_option linter.unusedVariables false
set_option linter.unusedSimpArgs false
set_option maxRecDepth 100000
set_option maxHeartbeats 4000000
namespace Go.Abs.GenC
open Go.Abs

/-! ### the first character -/
def lo (b0 : Int) : Int := if b0 = 224 then 160 else if b0 = 240 then 144 else 128
def hi (b0 : Int) : Int := if b0 = 237 then 159 else if b0 = 244 then 143 else 191
def mb (b0 : Int) (t : List Int) : Option (Int × Int) :=
  if b0 < 194 then none
  else if b0 < 224 then (match t with
    | b1 :: _ => if 128 ≤ b1 ∧ b1 ≤ 191 then some ((b0 - 192) * 64 + (b1 - 128), 2) else none
    | _ => none)
  else if b0 < 240 then (match t with
    | b1 :: b2 :: _ => if lo b0 ≤ b1 ∧ b1 ≤ hi b0 ∧ 128 ≤ b2 ∧ b2 ≤ 191 then some (((b0 - 224) * 64 + (b1 - 128)) * 64 + (b2 - 128), 3) else none
    | _ => none)
  else if b0 < 245 then (match t with
    | b1 :: b2 :: b3 :: _ => if lo b0 ≤ b1 ∧ b1 ≤ hi b0 ∧ 128 ≤ b2 ∧ b2 ≤ 191 ∧ 128 ≤ b3 ∧ b3 ≤ 191 then some ((((b0 - 240) * 64 + (b1 - 128)) * 64 + (b2 - 128)) * 64 + (b3 - 128), 4) else none
    | _ => none)
  else none
def dec : List Int → Int × Int
  | [] => (0, 0)
  | b0 :: t => if b0 < 128 then (b0, 1) else (mb b0 t).getD (0, 0)

def fT (n : Nat) : Int := if n < 128 then 240 else if n < 194 then 241 else if n < 224 then 2 else if n = 224 then 19 else if n < 237 then 3 else if n = 237 then 35 else if n < 240 then 3 else if n = 240 then 52 else if n < 244 then 4 else if n = 244 then 68 else 241
theorem first_tab : ∀ n : Fin 256, GX0[n.val]? = some (fT n.val) := by decide +kernel
theorem rd_first {b0 : Int} (h0 : 0 ≤ b0) (h1 : b0 < 256) : rd GX0 b0 = some (fT b0.toNat) := by
  unfold rd
  rw [if_pos h0]
  exact first_tab ⟨b0.toNat, by omega⟩

theorem gx0 : rd gx1 0 = some ⟨128, 191⟩ := rfl
theorem gx1' : rd gx1 1 = some ⟨160, 191⟩ := rfl
theorem gx2 : rd gx1 2 = some ⟨128, 159⟩ := rfl
theorem gx3 : rd gx1 3 = some ⟨144, 191⟩ := rfl
theorem gx4 : rd gx1 4 = some ⟨128, 143⟩ := rfl

theorem rd_0 (b0 : Int) (t : List Int) : rd (b0 :: t) 0 = some b0 := rfl
theorem rd_1 (b0 b1 : Int) (t : List Int) : rd (b0 :: b1 :: t) 1 = some b1 := rfl
theorem rd_2 (b0 b1 b2 : Int) (t : List Int) : rd (b0 :: b1 :: b2 :: t) 2 = some b2 := rfl
theorem rd_3 (b0 b1 b2 b3 : Int) (t : List Int) : rd (b0 :: b1 :: b2 :: b3 :: t) 3 = some b3 := rfl

theorem andNot_ones (a : Int) : Go.bits .or .i32 (Go.bits .andNot .i32 (IntKind.i32.wrap a) (Int.fdiv (IntKind.i32.wrap ((IntKind.i32.wrap 241) * 2 ^ 31)) (2 ^ 31))) (Go.bits .and .i32 65533 (Int.fdiv (IntKind.i32.wrap ((IntKind.i32.wrap 241) * 2 ^ 31)) (2 ^ 31))) = 65533 := by
  have e : Int.fdiv (IntKind.i32.wrap ((IntKind.i32.wrap 241) * 2 ^ 31)) (2 ^ 31) = -1 := by decide +kernel
  rw [e]
  have e2 : Go.bits .andNot .i32 (IntKind.i32.wrap a) (-1) = 0 := by
    show IntKind.i32.wrap (((BitVec.ofInt 32 (IntKind.i32.wrap a) &&& ~~~ BitVec.ofInt 32 (-1)).toNat : Nat) : Int) = 0
    have : ~~~ BitVec.ofInt 32 (-1) = 0#32 := by decide
    rw [this, BitVec.and_zero]; rfl
  rw [e2]; decide +kernel

def slowS (n l h b0 : Int) : List Int → Int × Int
  | [] => (65533, 1)
  | b1 :: t => if ((b0 :: b1 :: t).length : Int) < n then (65533, 1) else if b1 < l then (65533, 1) else if h < b1 then (65533, 1) else if n ≤ 2 then (b0 % 32 * 64 + b1 % 64, 2) else match t with
    | [] => (65533, 1)
    | b2 :: t => if b2 < 128 then (65533, 1) else if 191 < b2 then (65533, 1) else if n ≤ 3 then (b0 % 16 * 4096 + b1 % 64 * 64 + b2 % 64, 3) else match t with
      | [] => (65533, 1)
      | b3 :: t => if b3 < 128 then (65533, 1) else if 191 < b3 then (65533, 1) else (b0 % 8 * 262144 + b1 % 64 * 4096 + b2 % 64 * 64 + b3 % 64, 4)
/-- a character of several bytes. -/
theorem slow_multi (b0 : Int) (t : List Int) (hb0 : 0 ≤ b0) (hb1 : b0 < 256) (ht : U8s t) (v3 n l h : Int) (hv : fT b0.toNat = v3) (h3 : v3 < 240) (hx : rd gx1 (Int.fdiv v3 (2 ^ 4)) = some ⟨l, h⟩) (hn : IntKind.i64.wrap (Go.bits .and .u8 v3 7) = n)
    (hn2 : 2 ≤ n) (hn4 : n ≤ 4) : Evt (fun k => utf8_decodeRuneSlow.f k (b0 :: t)) (slowS n l h b0 t) := by
  simp only [utf8_decodeRuneSlow.f]
  refine Evt.neg (by simp; omega) (Evt.some_bind (rd_0 _ _) (Evt.some_bind ((rd_first hb0 hb1).trans (by rw [hv])) (Evt.neg (by simp; omega) (Evt.some_bind hx ?_))))
  rw [hn]
  cases t with
  | nil => exact Evt.pos (by simp; omega) (.pure _)
  | cons b1 t =>
    simp only [slowS]
    refine Evt.iteD (fun _ => .pure _) fun c => ?_
    have u1 := ht b1 (by simp)
    have a0 := u8_and hb0 hb1
    have a1 := u8_and u1.1 u1.2
    refine Evt.some_bind (rd_1 _ _ _) (Evt.iteD (fun _ => .pure _) fun _ => Evt.iteD (fun _ => .pure _) fun _ => Evt.iteD (fun _ => ?_) fun c2 => ?_)
    · rw [a0.2.1, a1.1, wrap_i32 (n := b0 % 32) (by omega) (by omega), wrap_i32 (n := b0 % 32 * 2 ^ 6) (by omega) (by omega), wrap_i32 (n := b1 % 64) (by omega) (by omega), i32_or 6 (by omega) (by omega) (by omega) (by omega) (by omega) (by omega)]
      exact .pure _
    · cases t with
      | nil => simp at c; omega
      | cons b2 t =>
        have u2 := ht b2 (by simp)
        have a2 := u8_and u2.1 u2.2
        refine Evt.some_bind (rd_2 _ _ _ _) (Evt.iteD (fun _ => .pure _) fun _ => Evt.iteD (fun _ => .pure _) fun _ => Evt.iteD (fun _ => ?_) fun c3 => ?_)
        · rw [a0.2.2.1, a1.1, a2.1, wrap_i32 (n := b0 % 16) (by omega) (by omega), wrap_i32 (n := b0 % 16 * 2 ^ 12) (by omega) (by omega), wrap_i32 (n := b1 % 64) (by omega) (by omega), wrap_i32 (n := b1 % 64 * 2 ^ 6) (by omega) (by omega), wrap_i32 (n := b2 % 64) (by omega) (by omega),
            i32_or (a := b0 % 16 * 2 ^ 12) (b := b1 % 64 * 2 ^ 6) 12 (by omega) (by omega) (by omega) (by omega) (by omega) (by omega), i32_or (a := b0 % 16 * 2 ^ 12 + b1 % 64 * 2 ^ 6) (b := b2 % 64) 6 (by omega) (by omega) (by omega) (by omega) (by omega) (by omega)]
          exact .pure _
        · cases t with
          | nil => simp at c; omega
          | cons b3 t =>
            have u3 := ht b3 (by simp)
            have a3 := u8_and u3.1 u3.2
            refine Evt.some_bind (rd_3 _ _ _ _ _) (Evt.iteD (fun _ => .pure _) fun _ => Evt.iteD (fun _ => .pure _) fun _ => ?_)
            rw [a0.2.2.2, a1.1, a2.1, a3.1, wrap_i32 (n := b0 % 8) (by omega) (by omega), wrap_i32 (n := b0 % 8 * 2 ^ 18) (by omega) (by omega), wrap_i32 (n := b1 % 64) (by omega) (by omega), wrap_i32 (n := b1 % 64 * 2 ^ 12) (by omega) (by omega), wrap_i32 (n := b2 % 64) (by omega) (by omega), wrap_i32 (n := b2 % 64 * 2 ^ 6) (by omega) (by omega), wrap_i32 (n := b3 % 64) (by omega) (by omega),
              i32_or (a := b0 % 8 * 2 ^ 18) (b := b1 % 64 * 2 ^ 12) 18 (by omega) (by omega) (by omega) (by omega) (by omega) (by omega), i32_or (a := b0 % 8 * 2 ^ 18 + b1 % 64 * 2 ^ 12) (b := b2 % 64 * 2 ^ 6) 12 (by omega) (by omega) (by omega) (by omega) (by omega) (by omega), i32_or (a := b0 % 8 * 2 ^ 18 + b1 % 64 * 2 ^ 12 + b2 % 64 * 2 ^ 6) (b := b3 % 64) 6 (by omega) (by omega) (by omega) (by omega) (by omega) (by omega)]
            exact .pure _

def slowR (b0 : Int) (t : List Int) : Int × Int := (mb b0 t).getD (65533, 1)
theorem slow_ev (b0 : Int) (t : List Int) (hb0 : 128 ≤ b0) (hb1 : b0 < 256) (ht : U8s t) : Evt (fun k => utf8_decodeRuneSlow.f k (b0 :: t)) (slowR b0 t) := by
  have bad : fT b0.toNat = 241 → mb b0 t = none → Evt (fun k => utf8_decodeRuneSlow.f k (b0 :: t)) (slowR b0 t) := by
    intro h1 h2
    simp only [utf8_decodeRuneSlow.f, slowR, h2]
    refine Evt.neg (by simp; omega) (Evt.some_bind (rd_0 _ _) (Evt.some_bind ((rd_first (by omega) hb1).trans (by rw [h1])) (Evt.pos (by simp) (Evt.some_bind (rd_0 _ _) ?_))))
    rw [andNot_ones]
    exact .pure _
  have good : ∀ v3 n l h, fT b0.toNat = v3 → v3 < 240 → rd gx1 (Int.fdiv v3 (2 ^ 4)) = some ⟨l, h⟩ → IntKind.i64.wrap (Go.bits .and .u8 v3 7) = n → 2 ≤ n → n ≤ 4 → slowS n l h b0 t = slowR b0 t → Evt (fun k => utf8_decodeRuneSlow.f k (b0 :: t)) (slowR b0 t) := by
    intro v3 n l h h1 h2 h3 h4 h5 h6 h7
    rw [← h7]
    exact slow_multi b0 t (by omega) hb1 ht v3 n l h h1 h2 h3 h4 h5 h6
  have eq2 : 194 ≤ b0 → b0 < 224 → slowS 2 128 191 b0 t = slowR b0 t := by
    intro p q
    unfold slowR mb
    rw [if_neg (by omega), if_pos q]
    cases t with
    | nil => rfl
    | cons b1 t =>
      have u1 := ht b1 (by simp)
      simp only [slowS, List.length_cons]
      rw [if_neg (by omega)]
      by_cases c1 : b1 < 128
      · rw [if_pos c1, if_neg (by omega)]; rfl
      rw [if_neg c1]
      by_cases c2 : 191 < b1
      · rw [if_pos c2, if_neg (by omega)]; rfl
      rw [if_neg c2, if_pos (by omega), if_pos (by omega)]
      show (_, _) = (_, _)
      congr 1; omega
  have eq3 : ∀ l h, lo b0 = l → hi b0 = h → 128 ≤ l → h ≤ 191 → 224 ≤ b0 → b0 < 240 → slowS 3 l h b0 t = slowR b0 t := by
    intro l h e1 e2 e3 e4 p q
    unfold slowR mb
    rw [if_neg (by omega), if_neg (by omega), if_pos q]
    match t, ht with
    | [], _ => rfl
    | [b1], _ => simp only [slowS, List.length_cons, List.length_nil]; rw [if_pos (by omega)]; rfl
    | b1 :: b2 :: t, ht =>
      have u1 := ht b1 (by simp)
      have u2 := ht b2 (by simp)
      simp only [slowS, List.length_cons, e1, e2]
      rw [if_neg (by omega)]
      by_cases c1 : b1 < l
      · rw [if_pos c1, if_neg (by omega)]; rfl
      rw [if_neg c1]
      by_cases c2 : h < b1
      · rw [if_pos c2, if_neg (by omega)]; rfl
      rw [if_neg c2, if_neg (by omega)]
      by_cases c3 : b2 < 128
      · rw [if_pos c3, if_neg (by omega)]; rfl
      rw [if_neg c3]
      by_cases c4 : 191 < b2
      · rw [if_pos c4, if_neg (by omega)]; rfl
      rw [if_neg c4, if_pos (by omega), if_pos (by omega)]
      show (_, _) = (_, _)
      congr 1; omega
  have eq4 : ∀ l h, lo b0 = l → hi b0 = h → 128 ≤ l → h ≤ 191 → 240 ≤ b0 → b0 < 245 → slowS 4 l h b0 t = slowR b0 t := by
    intro l h e1 e2 e3 e4 p q
    unfold slowR mb
    rw [if_neg (by omega), if_neg (by omega), if_neg (by omega), if_pos q]
    match t, ht with
    | [], _ => rfl
    | [b1], _ => simp only [slowS, List.length_cons, List.length_nil]; rw [if_pos (by omega)]; rfl
    | [b1, b2], _ => simp only [slowS, List.length_cons, List.length_nil]; rw [if_pos (by omega)]; rfl
    | b1 :: b2 :: b3 :: t, ht =>
      have u1 := ht b1 (by simp)
      have u2 := ht b2 (by simp)
      have u3 := ht b3 (by simp)
      simp only [slowS, List.length_cons, e1, e2]
      rw [if_neg (by omega)]
      by_cases c1 : b1 < l
      · rw [if_pos c1, if_neg (by omega)]; rfl
      rw [if_neg c1]
      by_cases c2 : h < b1
      · rw [if_pos c2, if_neg (by omega)]; rfl
      rw [if_neg c2, if_neg (by omega)]
      by_cases c3 : b2 < 128
      · rw [if_pos c3, if_neg (by omega)]; rfl
      rw [if_neg c3]
      by_cases c4 : 191 < b2
      · rw [if_pos c4, if_neg (by omega)]; rfl
      rw [if_neg c4, if_neg (by omega)]
      by_cases c5 : b3 < 128
      · rw [if_pos c5, if_neg (by omega)]; rfl
      rw [if_neg c5]
      by_cases c6 : 191 < b3
      · rw [if_pos c6, if_neg (by omega)]; rfl
      rw [if_neg c6, if_pos (by omega)]
      show (_, _) = (_, _)
      congr 1; omega
  by_cases r1 : b0 < 194
  · exact bad (by unfold fT; rw [if_neg (by omega), if_pos (by omega)]) (by unfold mb; rw [if_pos r1])
  by_cases r2 : b0 < 224
  · exact good 2 2 128 191 (by unfold fT; rw [if_neg (by omega), if_neg (by omega), if_pos (by omega)]) (by decide) gx0 (by decide +kernel) (by decide) (by decide) (eq2 (by omega) r2)
  by_cases r3 : b0 = 224
  · subst r3; exact good 19 3 160 191 rfl (by decide) gx1' (by decide +kernel) (by decide) (by decide) (eq3 _ _ rfl rfl (by decide) (by decide) (by decide) (by decide))
  by_cases r4 : b0 < 237
  · exact good 3 3 128 191 (by unfold fT; rw [if_neg (by omega), if_neg (by omega), if_neg (by omega), if_neg (by omega), if_pos (by omega)]) (by decide) gx0 (by decide +kernel) (by decide) (by decide)
      (eq3 _ _ (by unfold lo; rw [if_neg r3, if_neg (by omega)]) (by unfold hi; rw [if_neg (by omega), if_neg (by omega)]) (by decide) (by decide) (by omega) (by omega))
  by_cases r5 : b0 = 237
  · subst r5; exact good 35 3 128 159 rfl (by decide) gx2 (by decide +kernel) (by decide) (by decide) (eq3 _ _ rfl rfl (by decide) (by decide) (by decide) (by decide))
  by_cases r6 : b0 < 240
  · exact good 3 3 128 191 (by unfold fT; rw [if_neg (by omega), if_neg (by omega), if_neg (by omega), if_neg (by omega), if_neg (by omega), if_neg (by omega), if_pos (by omega)]) (by decide) gx0 (by decide +kernel) (by decide) (by decide)
      (eq3 _ _ (by unfold lo; rw [if_neg r3, if_neg (by omega)]) (by unfold hi; rw [if_neg (by omega), if_neg (by omega)]) (by decide) (by decide) (by omega) (by omega))
  by_cases r7 : b0 = 240
  · subst r7; exact good 52 4 144 191 rfl (by decide) gx3 (by decide +kernel) (by decide) (by decide) (eq4 _ _ rfl rfl (by decide) (by decide) (by decide) (by decide))
  by_cases r8 : b0 < 244
  · exact good 4 4 128 191 (by unfold fT; rw [if_neg (by omega), if_neg (by omega), if_neg (by omega), if_neg (by omega), if_neg (by omega), if_neg (by omega), if_neg (by omega), if_neg (by omega), if_pos (by omega)]) (by decide) gx0 (by decide +kernel) (by decide) (by decide)
      (eq4 _ _ (by unfold lo; rw [if_neg r3, if_neg r7]) (by unfold hi; rw [if_neg (by omega), if_neg (by omega)]) (by decide) (by decide) (by omega) (by omega))
  by_cases r9 : b0 = 244
  · subst r9; exact good 68 4 128 143 rfl (by decide) gx4 (by decide +kernel) (by decide) (by decide) (eq4 _ _ rfl rfl (by decide) (by decide) (by decide) (by decide))
  · exact bad (by unfold fT; rw [if_neg (by omega), if_neg (by omega), if_neg (by omega), if_neg (by omega), if_neg (by omega), if_neg (by omega), if_neg (by omega), if_neg (by omega), if_neg (by omega), if_neg (by omega)])
      (by unfold mb; rw [if_neg r1, if_neg r2, if_neg r6, if_neg (by omega)])
end Go.Abs.GenC
