import Derived.Test.YtknfjmongeddgaaDoorPlCharsB
set_option linter.unusedVariables false
set_option linter.unusedSimpArgs false
set_option maxRecDepth 100000
set_option maxHeartbeats 4000000
namespace Go.Abs.GenC
open Go.Abs

theorem lo_ge (b0 : Int) : 128 ≤ lo b0 := by
  unfold lo; split
  · omega
  · split <;> omega
theorem hi_le (b0 : Int) : hi b0 ≤ 191 := by
  unfold hi; split
  · omega
  · split <;> omega
/-- what a character of several bytes is. -/
theorem mb_some {b0 : Int} {t : List Int} {r n : Int} (hb0 : 128 ≤ b0) (hb1 : b0 < 256) (ht : U8s t) (h : mb b0 t = some (r, n)) :
    2 ≤ n ∧ n ≤ ((b0 :: t).length : Int) ∧ 128 ≤ r ∧ r ≤ 1114111 ∧ E r = (b0 :: t).take n.toNat := by
  unfold mb at h
  by_cases r1 : b0 < 194
  · rw [if_pos r1] at h; cases h
  rw [if_neg r1] at h
  by_cases r2 : b0 < 224
  · rw [if_pos r2] at h
    match t, ht, h with
    | b1 :: t, ht, h =>
      simp only at h
      split at h
      · rename_i c
        simp only [Option.some.injEq, Prod.mk.injEq] at h
        obtain ⟨rfl, rfl⟩ := h
        refine ⟨by decide, by simp; omega, by omega, by omega, ?_⟩
        unfold E
        rw [if_neg (by omega), if_neg (by omega), if_pos (by omega)]
        show [_, _] = [b0, b1]
        congr 1
        · omega
        · congr 1; omega
      · cases h
  rw [if_neg r2] at h
  have hlo := lo_ge b0
  have hhi := hi_le b0
  by_cases r3 : b0 < 240
  · rw [if_pos r3] at h
    match t, ht, h with
    | [b1], ht, h => cases h
    | b1 :: b2 :: t, ht, h =>
      simp only at h
      split at h
      · rename_i c
        simp only [Option.some.injEq, Prod.mk.injEq] at h
        obtain ⟨rfl, rfl⟩ := h
        have l1 : b0 = 224 → 160 ≤ b1 := fun e => by have := c.1; unfold lo at this; rw [if_pos e] at this; exact this
        have l2 : b0 = 237 → b1 ≤ 159 := fun e => by have := c.2.1; unfold hi at this; rw [if_pos e] at this; exact this
        refine ⟨by decide, by simp; omega, by omega, by omega, ?_⟩
        unfold E
        rw [if_neg (by omega), if_neg (by omega), if_neg (by omega), if_pos (by omega)]
        show [_, _, _] = [b0, b1, b2]
        congr 1
        · omega
        · congr 1
          · omega
          · congr 1; omega
      · cases h
  rw [if_neg r3] at h
  by_cases r4 : b0 < 245
  · rw [if_pos r4] at h
    match t, ht, h with
    | [b1], ht, h => cases h
    | [b1, b2], ht, h => cases h
    | b1 :: b2 :: b3 :: t, ht, h =>
      simp only at h
      split at h
      · rename_i c
        simp only [Option.some.injEq, Prod.mk.injEq] at h
        obtain ⟨rfl, rfl⟩ := h
        have l1 : b0 = 240 → 144 ≤ b1 := fun e => by have := c.1; unfold lo at this; rw [if_neg (by omega), if_pos e] at this; exact this
        have l2 : b0 = 244 → b1 ≤ 143 := fun e => by have := c.2.1; unfold hi at this; rw [if_neg (by omega), if_pos e] at this; exact this
        refine ⟨by decide, by simp; omega, by omega, by omega, ?_⟩
        unfold E
        rw [if_neg (by omega), if_neg (by omega), if_neg (by omega), if_neg (by omega)]
        show [_, _, _, _] = [b0, b1, b2, b3]
        congr 1
        · omega
        · congr 1
          · omega
          · congr 1
            · omega
            · congr 1; omega
      · cases h
  · rw [if_neg r4] at h; cases h

theorem progD (b : List Int) (hu : U8s b) : Evt (fun k => chars_Decode.f k b) (dec b) := by
  simp only [chars_Decode.f, utf8_DecodeRune.f]
  cases b with
  | nil =>
    refine Evt.bind (a := (65533, 0)) (Evt.neg (by simp) (Evt.bind (a := (65533, 0)) ?_ (.pure _))) (Evt.pos rfl (Evt.pos (by decide) (.pure _)))
    simp only [utf8_decodeRuneSlow.f]
    exact Evt.pos (by simp) (.pure _)
  | cons b0 t =>
    have u0 := hu b0 (by simp)
    have ht : U8s t := fun x hx => hu x (by simp [hx])
    simp only [dec]
    by_cases c : b0 < 128
    · rw [if_pos c]
      refine Evt.bind (a := (b0, 1)) (Evt.pos (by simp <;> omega) (Evt.some_bind (rd_0 _ _) (Evt.pos (by simpa using c) ?_))) (Evt.neg ?_ ?_)
      · rw [wrap_i32 (by omega) (by omega)]; exact .pure _
      · simp; omega
      · simp only; rw [wrap_i64 (by omega) (by omega)]; exact .pure _
    · rw [if_neg c]
      refine Evt.bind (a := slowR b0 t) (Evt.pos (by simp <;> omega) (Evt.some_bind (rd_0 _ _) (Evt.neg (by simpa using c) (Evt.bind (slow_ev b0 t (by omega) u0.2 ht) (.pure _))))) ?_
      unfold slowR
      cases hm : mb b0 t with
      | none => exact Evt.pos rfl (Evt.pos (by decide) (.pure _))
      | some p =>
        obtain ⟨r, n⟩ := p
        have := mb_some (by omega) u0.2 ht hm
        have fin : Evt (fun _ => some (IntKind.i64.wrap r, n)) (r, n) := by rw [wrap_i64 (by omega) (by omega)]; exact .pure _
        simp only [Option.getD_some]
        by_cases e : r = 65533
        · exact Evt.pos (by simpa using e) (Evt.neg (by simp; omega) fin)
        · exact Evt.neg (by simpa using e) fin

/-! ### the document's -/
def foldS : List Int → Int → Option Int
  | [], r => some r
  | v :: t, r => if v < 128 then none else if v > 191 then none else foldS t (r * 64 + v - 128)
def finS (b : List Int) (n : Nat) : Option Int → Int × Int
  | none => (0, 0)
  | some r => if E r = b.take n then (r, (n : Int)) else (0, 0)
def bnd (l : Nat) : Int := if l = 3 then 300 else if l = 2 then 20000 else if l = 1 then 1300000 else if l = 0 then 90000000 else 0

theorem ref_j (b : List Int) (hu : U8s b) (n : Nat) (hn : 1 ≤ n) (hn4 : n ≤ 4) (r0 : Int) (h0 : 0 ≤ r0) (h1 : r0 ≤ 300) :
    Evt (fun k => dossierref01_Decode.j0 k (n : Int) r0 b) (if b.length < n then (0, 0) else finS b n (foldS ((b.take n).drop 1) r0)) := by
  refine Evt.succ (fun k => by rw [dossierref01_Decode.j0]) ?_
  by_cases c : b.length < n
  · rw [if_pos c]; exact Evt.pos (by simp; omega) (.pure _)
  rw [if_neg c]
  refine Evt.neg (by simp; omega) (Evt.pos (by simp; omega) ?_)
  have es : sub b 1 (n : Int) = (b.take n).drop 1 := by
    simp only [sub]
    show (b.drop 1).take (n - 1) = _
    rw [List.drop_take]
  have hl : ((b.take n).drop 1).length = n - 1 := by simp; omega
  refine loop_all (xs := (b.take n).drop 1) (F := fun k i s => dossierref01_Decode.l1 k s i b (n : Int))
    (E := fun k x7 => (dossierref01_Encode.f k x7).bind fun r13 => if (decide (0 ≤ 0 ∧ 0 ≤ (n : Int) ∧ (n : Int) ≤ (b.length : Int))) = true then (if ((ofNums r13).toList == (ofNums (sub b 0 n)).toList) = true then (some (x7, (n : Int))) else (some (0, 0))) else none) (by omega)
    (fun k i s => by rw [dossierref01_Decode.l1, es])
    (Good := fun suf r => U8s suf ∧ suf.length ≤ 3 ∧ 0 ≤ r ∧ r ≤ bnd suf.length) (R := fun suf r => finS b n (foldS suf r)) ?_ ?_ r0 ⟨(hu.take _).drop _, by omega, h0, ?_⟩
  · intro r hg
    simp only [bnd, List.length_nil] at hg
    refine Evt.bind (a := E r) (Evt.congr (fun k => refE k r (by omega) (by omega)) (.pure _)) (Evt.pos (by simp; omega) ?_)
    rw [sub_take, ofNums_beq (E_u8 r) (hu.take n)]
    simp only [foldS, finS]
    exact Evt.iteD (fun _ => .pure _) fun _ => .pure _
  · intro i v suf r hi hv hg ih
    obtain ⟨g1, g2, g3, g4⟩ := hg
    have uv := g1 v (by simp)
    have gs : U8s suf := fun x hx => g1 x (by simp [hx])
    simp only [List.length_cons] at g2 g4
    simp only [foldS]
    by_cases c1 : v < 128
    · rw [if_pos c1]; exact Evt.pos (by simpa using c1) (.pure _)
    rw [if_neg c1]
    refine Evt.neg (by simpa using c1) ?_
    by_cases c2 : v > 191
    · rw [if_pos c2]; exact Evt.pos (by simpa using c2) (.pure _)
    rw [if_neg c2]
    refine Evt.neg (by simpa using c2) ?_
    have hb : r ≤ 1300000 ∧ r * 64 + 63 ≤ bnd suf.length := by
      have : suf.length = 0 ∨ suf.length = 1 ∨ suf.length = 2 := by omega
      rcases this with e | e | e <;> rw [e] at g4 ⊢ <;> simp [bnd] at g4 ⊢ <;> omega
    have e1 : IntKind.i64.wrap ((IntKind.i64.wrap ((IntKind.i64.wrap (r * 64)) + (IntKind.i64.wrap v))) - 128) = r * 64 + v - 128 := by
      rw [wrap_i64 (n := r * 64) (by omega) (by omega), wrap_i64 (n := v) (by omega) (by omega), wrap_i64 (n := r * 64 + v) (by omega) (by omega), wrap_i64 (by omega) (by omega)]
    rw [e1]
    exact ih _ ⟨gs, by omega, by omega, by omega⟩
  · rw [hl]
    have : n = 1 ∨ n = 2 ∨ n = 3 ∨ n = 4 := by omega
    rcases this with rfl | rfl | rfl | rfl <;> simp [bnd] <;> omega

theorem E_len (r : Int) : (E r).length ≤ 4 ∧ (r < 65536 → (E r).length ≤ 3) ∧ (r < 2048 → (E r).length ≤ 2) ∧ (r < 128 → (E r).length ≤ 1) ∧ (r > 1114111 ∨ (55296 ≤ r ∧ r ≤ 57343) → (E r).length = 0) := by
  unfold E
  split
  · simp
  · rename_i h
    split
    · simp; omega
    split
    · simp; omega
    split
    · simp; omega
    · simp; omega
theorem E2 {b0 b1 : Int} (h0 : 192 ≤ b0) (h1 : b0 < 224) (h2 : 128 ≤ b1 ∧ b1 ≤ 191) : E ((b0 - 192) * 64 + b1 - 128) = [b0, b1] ↔ 194 ≤ b0 := by
  constructor
  · intro h
    have hl := congrArg List.length h
    have := E_len ((b0 - 192) * 64 + b1 - 128)
    apply Classical.byContradiction
    intro c
    have := this.2.2.2.1 (by omega)
    rw [hl] at this
    simp at this
  · intro h
    unfold E
    rw [if_neg (by omega), if_neg (by omega), if_pos (by omega)]
    congr 1
    · omega
    · congr 1; omega
theorem E3 {b0 b1 b2 : Int} (h0 : 224 ≤ b0) (h1 : b0 < 240) (h2 : 128 ≤ b1 ∧ b1 ≤ 191) (h3 : 128 ≤ b2 ∧ b2 ≤ 191) : E (((b0 - 224) * 64 + b1 - 128) * 64 + b2 - 128) = [b0, b1, b2] ↔ lo b0 ≤ b1 ∧ b1 ≤ hi b0 := by
  have l0 : lo b0 = if b0 = 224 then 160 else 128 := by unfold lo; split; rfl; rw [if_neg (by omega)]
  have g0 : hi b0 = if b0 = 237 then 159 else 191 := by unfold hi; split; rfl; rw [if_neg (by omega)]
  rw [l0, g0]
  constructor
  · intro h
    have hl := congrArg List.length h
    have e := E_len (((b0 - 224) * 64 + b1 - 128) * 64 + b2 - 128)
    rw [hl] at e
    simp only [List.length_cons, List.length_nil] at e
    constructor
    · split
      · apply Classical.byContradiction
        intro c
        have := e.2.2.1 (by omega)
        omega
      · omega
    · split
      · apply Classical.byContradiction
        intro c
        have := e.2.2.2.2 (.inr (by omega))
        omega
      · omega
  · intro h
    have k1 : b0 = 224 → 160 ≤ b1 := fun e => by have := h.1; rw [if_pos e] at this; exact this
    have k2 : b0 = 237 → b1 ≤ 159 := fun e => by have := h.2; rw [if_pos e] at this; exact this
    unfold E
    rw [if_neg (by omega), if_neg (by omega), if_neg (by omega), if_pos (by omega)]
    congr 1
    · omega
    · congr 1
      · omega
      · congr 1; omega
theorem E4 {b0 b1 b2 b3 : Int} (h0 : 240 ≤ b0) (h1 : b0 < 256) (h2 : 128 ≤ b1 ∧ b1 ≤ 191) (h3 : 128 ≤ b2 ∧ b2 ≤ 191) (h4 : 128 ≤ b3 ∧ b3 ≤ 191) :
    E ((((b0 - 240) * 64 + b1 - 128) * 64 + b2 - 128) * 64 + b3 - 128) = [b0, b1, b2, b3] ↔ b0 < 245 ∧ lo b0 ≤ b1 ∧ b1 ≤ hi b0 := by
  have l0 : lo b0 = if b0 = 240 then 144 else 128 := by unfold lo; rw [if_neg (by omega)]
  have g0 : hi b0 = if b0 = 244 then 143 else 191 := by unfold hi; rw [if_neg (by omega)]
  rw [l0, g0]
  constructor
  · intro h
    have hl := congrArg List.length h
    have e := E_len ((((b0 - 240) * 64 + b1 - 128) * 64 + b2 - 128) * 64 + b3 - 128)
    rw [hl] at e
    simp only [List.length_cons, List.length_nil] at e
    refine ⟨?_, ?_, ?_⟩
    · apply Classical.byContradiction
      intro c
      have := e.2.2.2.2 (.inl (by omega))
      omega
    · split
      · apply Classical.byContradiction
        intro c
        have := e.2.1 (by omega)
        omega
      · omega
    · split
      · apply Classical.byContradiction
        intro c
        have := e.2.2.2.2 (.inl (by omega))
        omega
      · omega
  · intro h
    have k1 : b0 = 240 → 144 ≤ b1 := fun e => by have := h.2.1; rw [if_pos e] at this; exact this
    have k2 : b0 = 244 → b1 ≤ 143 := fun e => by have := h.2.2; rw [if_pos e] at this; exact this
    unfold E
    rw [if_neg (by omega), if_neg (by omega), if_neg (by omega), if_neg (by omega)]
    congr 1
    · omega
    · congr 1
      · omega
      · congr 1
        · omega
        · congr 1; omega
theorem foldS_cons (v : Int) (t : List Int) (r : Int) : foldS (v :: t) r = if 128 ≤ v ∧ v ≤ 191 then foldS t (r * 64 + v - 128) else none := by
  simp only [foldS]
  by_cases c1 : v < 128
  · rw [if_pos c1, if_neg (by omega)]
  rw [if_neg c1]
  by_cases c2 : v > 191
  · rw [if_pos c2, if_neg (by omega)]
  · rw [if_neg c2, if_pos (by omega)]

theorem refD (b : List Int) (hu : U8s b) : Evt (fun k => dossierref01_Decode.f k b) (dec b) := by
  simp only [dossierref01_Decode.f]
  cases b with
  | nil => exact Evt.pos rfl (.pure _)
  | cons b0 t =>
    have u0 := hu b0 (by simp)
    have ht : U8s t := fun x hx => hu x (by simp [hx])
    refine Evt.neg (by simp; omega) (Evt.some_bind (rd_0 _ _) (Evt.some_bind (rd_0 _ _) ?_))
    by_cases c4 : b0 ≥ 240
    · refine Evt.pos (by simpa using c4) (Evt.some_bind (rd_0 _ _) ?_)
      rw [wrap_i64 (n := b0) (by omega) (by omega), wrap_i64 (by omega) (by omega)]
      have h := ref_j (b0 :: t) hu 4 (by decide) (by decide) (b0 - 240) (by omega) (by omega)
      have e : (if (b0 :: t).length < 4 then (0, 0) else finS (b0 :: t) 4 (foldS (((b0 :: t).take 4).drop 1) (b0 - 240))) = dec (b0 :: t) := by
        simp only [dec]
        rw [if_neg (show ¬ b0 < 128 by omega)]
        unfold mb
        rw [if_neg (show ¬ b0 < 194 by omega), if_neg (show ¬ b0 < 224 by omega), if_neg (show ¬ b0 < 240 by omega)]
        match t, ht with
        | [], _ => simp
        | [b1], _ => simp
        | [b1, b2], _ => simp
        | b1 :: b2 :: b3 :: t, ht =>
          rw [if_neg (by simp)]
          show finS (b0 :: b1 :: b2 :: b3 :: t) 4 (foldS [b1, b2, b3] (b0 - 240)) = _
          rw [foldS_cons, foldS_cons, foldS_cons]
          simp only [foldS]
          have hlo := lo_ge b0
          have hhi := hi_le b0
          by_cases d1 : 128 ≤ b1 ∧ b1 ≤ 191
          · by_cases d2 : 128 ≤ b2 ∧ b2 ≤ 191
            · by_cases d3 : 128 ≤ b3 ∧ b3 ≤ 191
              · rw [if_pos d1, if_pos d2, if_pos d3]
                have e4 := E4 c4 u0.2 d1 d2 d3
                simp only [finS]
                show (if E _ = [b0, b1, b2, b3] then _ else _) = _
                by_cases g : b0 < 245 ∧ lo b0 ≤ b1 ∧ b1 ≤ hi b0
                · rw [if_pos (e4.mpr g), if_pos g.1, if_pos (by omega)]
                  show (_, _) = (_, _)
                  congr 1; omega
                · rw [if_neg (fun h => g (e4.mp h))]
                  split
                  · rw [if_neg (by omega)]; rfl
                  · rfl
              · rw [if_pos d1, if_pos d2, if_neg d3]
                split
                · rw [if_neg (by omega)]; rfl
                · rfl
            · rw [if_pos d1, if_neg d2]
              split
              · rw [if_neg (by omega)]; rfl
              · rfl
          · rw [if_neg d1]
            split
            · rw [if_neg (by omega)]; rfl
            · rfl
      rw [← e]; exact h
    refine Evt.neg (by simpa using c4) (Evt.some_bind (rd_0 _ _) ?_)
    by_cases c3 : b0 ≥ 224
    · refine Evt.pos (by simpa using c3) (Evt.some_bind (rd_0 _ _) ?_)
      rw [wrap_i64 (n := b0) (by omega) (by omega), wrap_i64 (by omega) (by omega)]
      have h := ref_j (b0 :: t) hu 3 (by decide) (by decide) (b0 - 224) (by omega) (by omega)
      have e : (if (b0 :: t).length < 3 then (0, 0) else finS (b0 :: t) 3 (foldS (((b0 :: t).take 3).drop 1) (b0 - 224))) = dec (b0 :: t) := by
        simp only [dec]
        rw [if_neg (show ¬ b0 < 128 by omega)]
        unfold mb
        rw [if_neg (show ¬ b0 < 194 by omega), if_neg (show ¬ b0 < 224 by omega), if_pos (show b0 < 240 by omega)]
        match t, ht with
        | [], _ => simp
        | [b1], _ => simp
        | b1 :: b2 :: t, ht =>
          rw [if_neg (by simp)]
          show finS (b0 :: b1 :: b2 :: t) 3 (foldS [b1, b2] (b0 - 224)) = _
          rw [foldS_cons, foldS_cons]
          simp only [foldS]
          have hlo := lo_ge b0
          have hhi := hi_le b0
          by_cases d1 : 128 ≤ b1 ∧ b1 ≤ 191
          · by_cases d2 : 128 ≤ b2 ∧ b2 ≤ 191
            · rw [if_pos d1, if_pos d2]
              have e4 := E3 c3 (by omega) d1 d2
              simp only [finS]
              show (if E _ = [b0, b1, b2] then _ else _) = _
              by_cases g : lo b0 ≤ b1 ∧ b1 ≤ hi b0
              · rw [if_pos (e4.mpr g), if_pos (by omega)]
                show (_, _) = (_, _)
                congr 1; omega
              · rw [if_neg (fun h => g (e4.mp h)), if_neg (by omega)]; rfl
            · rw [if_pos d1, if_neg d2, if_neg (by omega)]; rfl
          · rw [if_neg d1, if_neg (by omega)]; rfl
      rw [← e]; exact h
    refine Evt.neg (by simpa using c3) (Evt.some_bind (rd_0 _ _) ?_)
    by_cases c2 : b0 ≥ 192
    · refine Evt.pos (by simpa using c2) (Evt.some_bind (rd_0 _ _) ?_)
      rw [wrap_i64 (n := b0) (by omega) (by omega), wrap_i64 (by omega) (by omega)]
      have h := ref_j (b0 :: t) hu 2 (by decide) (by decide) (b0 - 192) (by omega) (by omega)
      have e : (if (b0 :: t).length < 2 then (0, 0) else finS (b0 :: t) 2 (foldS (((b0 :: t).take 2).drop 1) (b0 - 192))) = dec (b0 :: t) := by
        simp only [dec]
        rw [if_neg (show ¬ b0 < 128 by omega)]
        unfold mb
        match t, ht with
        | [], _ =>
          rw [if_pos (by simp)]
          split
          · rfl
          · rw [if_pos (by omega)]; rfl
        | b1 :: t, ht =>
          rw [if_neg (by simp)]
          show finS (b0 :: b1 :: t) 2 (foldS [b1] (b0 - 192)) = _
          rw [foldS_cons]
          simp only [foldS]
          by_cases d1 : 128 ≤ b1 ∧ b1 ≤ 191
          · rw [if_pos d1]
            have e4 := E2 c2 (by omega) d1
            simp only [finS]
            show (if E _ = [b0, b1] then _ else _) = _
            by_cases g : 194 ≤ b0
            · rw [if_pos (e4.mpr g), if_neg (by omega), if_pos (by omega), if_pos d1]
              show (_, _) = (_, _)
              congr 1; omega
            · rw [if_neg (fun h => g (e4.mp h)), if_pos (by omega)]; rfl
          · rw [if_neg d1]
            split
            · rfl
            · rw [if_pos (by omega)]
              rfl
      rw [← e]; exact h
    refine Evt.neg (by simpa using c2) ?_
    rw [wrap_i64 (by omega) (by omega)]
    have h := ref_j (b0 :: t) hu 1 (by decide) (by decide) b0 (by omega) (by omega)
    have e : (if (b0 :: t).length < 1 then (0, 0) else finS (b0 :: t) 1 (foldS (((b0 :: t).take 1).drop 1) b0)) = dec (b0 :: t) := by
      rw [if_neg (by simp)]
      show finS (b0 :: t) 1 (some b0) = _
      simp only [finS, dec]
      show (if E b0 = [b0] then _ else _) = _
      by_cases g : b0 < 128
      · rw [if_pos (by unfold E; rw [if_neg (by omega), if_pos g]), if_pos g]; rfl
      · have hn : ¬ E b0 = [b0] := by
          unfold E
          rw [if_neg (by omega), if_neg g, if_pos (by omega)]
          simp
        rw [if_neg hn, if_neg g]
        unfold mb
        rw [if_pos (by omega)]; rfl
    rw [← e]; exact h
end Go.Abs.GenC
