import Derived.Test.YtknfjmongeddgaaDoorPlCharsC
set_option linter.unusedVariables false
set_option linter.unusedSimpArgs false
set_option linter.unnecessarySimpa false
set_option maxRecDepth 100000
set_option maxHeartbeats 4000000
namespace Go.Abs.GenC
open Go.Abs

/-! ### classes -/
def inS (r : Int) (l : List chars_span) : Bool := l.any fun s => decide (s.low ≤ r) && decide (r ≤ s.high)
theorem in_ev (r : Int) (l : List chars_span) (hl : l.length ≤ 1048576) : Evt (fun k => chars_in.f k r l) (inS r l) := by
  simp only [chars_in.f]
  exact loop_all (σ := Unit) (xs := l) (F := fun k i _ => chars_in.l0 k i r l) (E := fun _ _ => some false) (by omega) (fun k i s => by rw [chars_in.l0])
    (Good := fun _ _ => True) (R := fun suf _ => inS r suf) (fun s _ => .pure _)
    (fun i v suf u hi hv hg ih => by
      simp only [inS, List.any_cons]
      by_cases h1 : v.low ≤ r
      · refine Evt.pos (by simpa using h1) ?_
        by_cases h2 : r ≤ v.high
        · rw [decide_eq_true h1, decide_eq_true h2]; exact Evt.pos (by simpa using h2) (.pure _)
        · rw [decide_eq_true h1, decide_eq_false h2]; exact Evt.neg (by simpa using h2) (ih () trivial)
      · rw [decide_eq_false h1]; exact Evt.neg (by simpa using h1) (ih () trivial)) () trivial
def wi (r : Int) : List Int → Bool
  | a :: b :: t => (decide (r ≥ a) && decide (r ≤ b)) || wi r t
  | _ => false
theorem within_ev (r : Int) (l : List Int) (hl : l.length ≤ 1048576) : Evt (fun k => dossierref01_within.f k r l) (wi r l) := by
  simp only [dossierref01_within.f]
  have key : ∀ (n : Nat) (suf pre : List Int), suf.length ≤ n → l = pre ++ suf → Evt (fun k => dossierref01_within.l0 k (pre.length : Int) r l) (wi r suf) := by
    intro n
    induction n with
    | zero =>
      intro suf pre hs hx
      have : suf = [] := List.eq_nil_of_length_eq_zero (by omega)
      subst this
      refine Evt.succ (fun k => by rw [dossierref01_within.l0]) ?_
      rw [wrap_nat (by rw [hx] at hl; simp at hl; omega)]
      exact Evt.neg (by simp [hx]; omega) (.pure _)
    | succ n ih =>
      intro suf pre hs hx
      have hpl : pre.length ≤ 1048576 := by rw [hx] at hl; simp at hl; omega
      refine Evt.succ (fun k => by rw [dossierref01_within.l0]) ?_
      rw [wrap_nat (by omega)]
      match suf, hs, hx with
      | [], _, hx => exact Evt.neg (by simp [hx]; omega) (.pure _)
      | [a], _, hx => exact Evt.neg (by simp [hx]) (.pure _)
      | a :: b :: t, hs, hx =>
        have e2 : IntKind.i64.wrap ((pre.length : Int) + 2) = ((pre ++ [a, b]).length : Int) := by
          rw [wrap_i64 (by omega) (by omega)]; simp
        have next := ih t (pre ++ [a, b]) (by simp at hs; omega) (by rw [hx]; simp)
        rw [e2]
        simp only [wi]
        refine Evt.pos (by simp [hx]; omega) (Evt.some_bind (a := a) (by rw [rd_nat, hx]; simp) ?_)
        by_cases h1 : r ≥ a
        · refine Evt.pos (by simpa using h1) (Evt.some_bind (a := b) (by rw [rd_nat, hx]; simp [List.getElem?_append_right]) ?_)
          by_cases h2 : r ≤ b
          · rw [decide_eq_true h1, decide_eq_true h2]; exact Evt.pos (by simpa using h2) (.pure _)
          · rw [decide_eq_true h1, decide_eq_false h2]; exact Evt.neg (by simpa using h2) next
        · rw [decide_eq_false h1]; exact Evt.neg (by simpa using h1) next
  exact key l.length l [] (Nat.le_refl _) rfl

def fLs : List Int := [65, 90, 95, 95, 97, 122, 192, 214, 216, 246, 248, 767, 880, 893, 895, 8191, 8204, 8205, 8304, 8591, 11264, 12271, 12289, 55295, 63744, 64975, 65008, 65533, 65536, 983039]
def firstS (r : Int) : Bool := wi r fLs
theorem reffirst_ev (r : Int) : Evt (fun k => dossierref01_First.f k r) (firstS r) := by
  simp only [dossierref01_First.f]
  exact (within_ev r _ (by decide)).map
theorem or_neg {r : Int} (h0 : -9223372036854775808 ≤ r) (h1 : r < 0) : Go.bits .or .i64 r 32 < 0 := by
  show IntKind.i64.wrap (((BitVec.ofInt 64 r ||| BitVec.ofInt 64 32).toNat : Nat) : Int) < 0
  have h2 : (BitVec.ofInt 64 r).toNat ≥ 2 ^ 63 := by
    rw [BitVec.toNat_ofInt]; omega
  have h3 : (BitVec.ofInt 64 r ||| BitVec.ofInt 64 32).toNat ≥ 2 ^ 63 := by
    rw [BitVec.toNat_or]
    exact Nat.le_trans h2 Nat.left_le_or
  have h4 := (BitVec.ofInt 64 r ||| BitVec.ofInt 64 32).isLt
  generalize (BitVec.ofInt 64 r ||| BitVec.ofInt 64 32).toNat = q at h3 h4
  simp [IntKind.wrap, IntKind.bits, IntKind.signed]
  omega
theorem ascii : ∀ n : Fin 128, (if (Go.bits .or .i64 (n.val : Int) 32) ≥ 97 then (if (Go.bits .or .i64 (n.val : Int) 32) ≤ 122 then true else ((n.val : Int) == 95)) else ((n.val : Int) == 95)) = firstS (n.val : Int) := by decide +kernel
theorem wi_neg {r : Int} : ∀ (n : Nat) (l : List Int), l.length ≤ n → (∀ x ∈ l, 0 ≤ x) → r < 0 → wi r l = false := by
  intro n
  induction n with
  | zero => intro l hl _ _; have : l = [] := List.eq_nil_of_length_eq_zero (by omega); subst this; rfl
  | succ n ih =>
    intro l hl h0 hr
    match l, hl, h0 with
    | [], _, _ => rfl
    | [a], _, _ => rfl
    | a :: b :: t, hl, h0 =>
      have ha := h0 a (by simp)
      simp only [wi]
      rw [decide_eq_false (show ¬ r ≥ a by omega), ih t (by simp at hl; omega) (fun x hx => h0 x (by simp [hx])) hr]; rfl
theorem first_ev (r : Int) (h0 : -9223372036854775808 ≤ r) : Evt (fun k => chars_First.f k r) (firstS r) := by
  simp only [chars_First.f]
  by_cases c : r < 128
  · refine Evt.pos (by simpa using c) ?_
    by_cases d : r < 0
    · have e : firstS r = (r == 95) := by
        rw [firstS, wi_neg _ fLs (Nat.le_refl _) (by decide) d]
        have : ¬ r = 95 := by omega
        simp [this]
      rw [e]
      have := or_neg h0 d
      exact Evt.neg (by simp; omega) (.pure _)
    · have ha := ascii ⟨r.toNat, by omega⟩
      have e : ((r.toNat : Nat) : Int) = r := by omega
      simp only [e] at ha
      rw [← ha]
      exact Evt.iteD (fun _ => Evt.iteD (fun _ => .pure _) fun _ => .pure _) fun _ => .pure _
  · refine Evt.neg (by simpa using c) (Evt.congr (fun _ => rfl) ?_)
    have h := (in_ev r [(⟨192, 214⟩ : chars_span), (⟨216, 246⟩ : chars_span), (⟨248, 767⟩ : chars_span), (⟨880, 893⟩ : chars_span), (⟨895, 8191⟩ : chars_span), (⟨8204, 8205⟩ : chars_span), (⟨8304, 8591⟩ : chars_span), (⟨11264, 12271⟩ : chars_span), (⟨12289, 55295⟩ : chars_span), (⟨63744, 64975⟩ : chars_span), (⟨65008, 65533⟩ : chars_span), (⟨65536, 983039⟩ : chars_span)] (by decide)).map
    have e : firstS r = inS r [(⟨192, 214⟩ : chars_span), (⟨216, 246⟩ : chars_span), (⟨248, 767⟩ : chars_span), (⟨880, 893⟩ : chars_span), (⟨895, 8191⟩ : chars_span), (⟨8204, 8205⟩ : chars_span), (⟨8304, 8591⟩ : chars_span), (⟨11264, 12271⟩ : chars_span), (⟨12289, 55295⟩ : chars_span), (⟨63744, 64975⟩ : chars_span), (⟨65008, 65533⟩ : chars_span), (⟨65536, 983039⟩ : chars_span)] := by
      have w : ∀ a b t, wi r (a :: b :: t) = ((decide (a ≤ r) && decide (r ≤ b)) || wi r t) := fun a b t => rfl
      simp only [firstS, fLs, inS, List.any_cons, List.any_nil, w]
      rw [decide_eq_false (show ¬ r ≤ 90 by omega), decide_eq_false (show ¬ r ≤ 95 by omega), decide_eq_false (show ¬ r ≤ 122 by omega)]
      simp [wi]
    rw [e]; exact h
def laterS (r : Int) : Bool := firstS r || wi r [45, 46, 48, 57, 183, 183, 768, 879, 8255, 8256]
theorem reflater_ev (r : Int) : Evt (fun k => dossierref01_Later.f k r) (laterS r) := by
  simp only [dossierref01_Later.f, laterS]
  refine Evt.bind (reffirst_ev r) ?_
  cases firstS r with
  | true => exact Evt.pos rfl (.pure _)
  | false => exact Evt.neg (by decide) (within_ev r _ (by decide)).map
theorem later_ev (r : Int) (h0 : -9223372036854775808 ≤ r) : Evt (fun k => chars_Later.f k r) (laterS r) := by
  simp only [chars_Later.f, laterS]
  refine Evt.bind (first_ev r h0) ?_
  have w : ∀ a b t, wi r (a :: b :: t) = ((decide (a ≤ r) && decide (r ≤ b)) || wi r t) := fun a b t => rfl
  cases firstS r with
  | true => exact Evt.pos rfl (.pure _)
  | false =>
    refine Evt.neg (by decide) ?_
    have h := (in_ev r [(⟨48, 57⟩ : chars_span), (⟨768, 879⟩ : chars_span), (⟨8255, 8256⟩ : chars_span)] (by decide)).map
    simp only [Bool.false_or]
    by_cases c1 : r = 45
    · subst c1; exact Evt.pos rfl (.pure _)
    refine Evt.neg (by simpa using c1) ?_
    by_cases c2 : r = 46
    · subst c2; exact Evt.pos rfl (.pure _)
    refine Evt.neg (by simpa using c2) ?_
    by_cases c3 : r = 183
    · subst c3; exact Evt.pos rfl (.pure _)
    refine Evt.neg (by simpa using c3) ?_
    have e : wi r [45, 46, 48, 57, 183, 183, 768, 879, 8255, 8256] = inS r [(⟨48, 57⟩ : chars_span), (⟨768, 879⟩ : chars_span), (⟨8255, 8256⟩ : chars_span)] := by
      simp only [inS, List.any_cons, List.any_nil, w]
      have a1 : (decide (45 ≤ r) && decide (r ≤ 46)) = false := by simp; omega
      have a2 : (decide (183 ≤ r) && decide (r ≤ 183)) = false := by simp; omega
      rw [a1, a2]; simp [wi]
    rw [e]; exact h
def xmlS (r : Int) : Bool := wi r [9, 10, 13, 13, 32, 55295, 57344, 65533, 65536, 1114111]
theorem refxml_ev (r : Int) : Evt (fun k => dossierref01_OfXML.f k r) (xmlS r) := by
  simp only [dossierref01_OfXML.f]
  exact (within_ev r _ (by decide)).map
theorem xml_ev (r : Int) : Evt (fun k => chars_ofXML.f k r) (xmlS r) := by
  simp only [chars_ofXML.f]
  have h := (in_ev r [(⟨32, 55295⟩ : chars_span), (⟨9, 10⟩ : chars_span), (⟨13, 13⟩ : chars_span), (⟨57344, 65533⟩ : chars_span), (⟨65536, 1114111⟩ : chars_span)] (by decide)).map
  have e : xmlS r = inS r [(⟨32, 55295⟩ : chars_span), (⟨9, 10⟩ : chars_span), (⟨13, 13⟩ : chars_span), (⟨57344, 65533⟩ : chars_span), (⟨65536, 1114111⟩ : chars_span)] := by
    have w : ∀ a b t, wi r (a :: b :: t) = ((decide (a ≤ r) && decide (r ≤ b)) || wi r t) := fun a b t => rfl
    simp only [xmlS, inS, List.any_cons, List.any_nil, w]
    simp only [wi, Bool.or_false, ← Bool.or_assoc]
    generalize (decide (9 ≤ r) && decide (r ≤ 10)) = a
    generalize (decide (13 ≤ r) && decide (r ≤ 13)) = b
    generalize (decide (32 ≤ r) && decide (r ≤ 55295)) = c
    cases a <;> cases b <;> cases c <;> simp
  rw [e]; exact h

/-! ### names -/
theorem dec_prog {b : List Int} (hu : U8s b) : ((dec b).2 = 0 ∨ (1 ≤ (dec b).2 ∧ (dec b).2 ≤ (b.length : Int))) ∧ 0 ≤ (dec b).1 ∧ (dec b).1 ≤ 1114111 := by
  cases b with
  | nil => simp [dec]
  | cons b0 t =>
    have u0 := hu b0 (by simp)
    have ht : U8s t := fun x hx => hu x (by simp [hx])
    simp only [dec]
    split
    · simp; omega
    · cases hm : mb b0 t with
      | none => simp
      | some p =>
        obtain ⟨r, n⟩ := p
        have := mb_some (by omega) u0.2 ht hm
        simp only [Option.getD_some, List.length_cons] at this ⊢
        omega
def nlen : Nat → List Int → Nat
  | 0, _ => 0
  | f + 1, b => if (dec b).2 = 0 ∨ laterS (dec b).1 = false then 0 else (dec b).2.toNat + nlen f (b.drop (dec b).2.toNat)
theorem nlen_le : ∀ (f : Nat) (b : List Int), U8s b → nlen f b ≤ b.length := by
  intro f
  induction f with
  | zero => intro b _; simp [nlen]
  | succ f ih =>
    intro b hu
    simp only [nlen]
    split
    · omega
    · have h1 := dec_prog hu
      have h2 := ih (b.drop (dec b).2.toNat) (hu.drop _)
      simp at h2
      omega
theorem name_loop (s : ByteArray) (hs : s.size ≤ 1048576) : ∀ (f : Nat) (suf pre : List Int), suf.length ≤ f → bytesI s = pre ++ suf → 1 ≤ pre.length →
    Evt (fun k => chars_Name.l0 k (pre.length : Int) s) (nlen f suf == suf.length) := by
  intro f
  have hlen := bytesI_len s
  have hus := bytesI_u8 s
  induction f with
  | zero =>
    intro suf pre h1 hx h2
    have : suf = [] := List.eq_nil_of_length_eq_zero (by omega)
    subst this
    refine Evt.succ (fun k => by rw [chars_Name.l0]) (Evt.neg (by simp [hx]) ?_)
    have : decide (((bytesI s).length : Int) > 0) = true := by simp [hx]; omega
    rw [this]; exact .pure _
  | succ f ih =>
    intro suf pre h1 hx h2
    have hpl : pre.length + suf.length ≤ 1048576 := by rw [← hlen, hx, List.length_append] at hs; omega
    cases suf with
    | nil =>
      refine Evt.succ (fun k => by rw [chars_Name.l0]) (Evt.neg (by simp [hx]) ?_)
      have : decide (((bytesI s).length : Int) > 0) = true := by simp [hx]; omega
      rw [this]
      have e : nlen (f + 1) [] = 0 := by simp [nlen, dec]
      rw [e]; exact .pure _
    | cons v t =>
      have hsu : U8s (v :: t) := by have := hus.drop pre.length; rw [hx] at this; simpa using this
      refine Evt.succ (fun k => by rw [chars_Name.l0]) (Evt.pos (by simp [hx] <;> omega) (Evt.pos (by simp [hx] <;> omega) ?_))
      rw [sub_all, hx, List.drop_left]
      refine Evt.bind (progD _ hsu) ?_
      have hd := dec_prog hsu
      simp only [nlen]
      by_cases c : (dec (v :: t)).2 = 0
      · rw [if_pos (.inl c)]
        refine Evt.pos (by simpa using c) ?_
        have : ((0 : Nat) == (v :: t).length) = false := by simp
        rw [this]; exact .pure _
      · refine Evt.neg (by simpa using c) (Evt.neg (by simp only [beq_iff_eq]; omega) (Evt.bind (later_ev _ (by omega)) ?_))
        cases hl : laterS (dec (v :: t)).1 with
        | false =>
          rw [if_pos (.inr rfl)]
          have : ((0 : Nat) == (v :: t).length) = false := by simp
          rw [this]; exact Evt.neg (by decide) (.pure _)
        | true =>
          rw [if_neg (by simp [c])]
          refine Evt.pos rfl ?_
          have hn : (v :: t) = (v :: t).take (dec (v :: t)).2.toNat ++ (v :: t).drop (dec (v :: t)).2.toNat := (List.take_append_drop _ _).symm
          have hq := ih ((v :: t).drop (dec (v :: t)).2.toNat) (pre ++ (v :: t).take (dec (v :: t)).2.toNat) (by simp only [List.length_drop, List.length_cons] at *; omega) (by rw [hx, List.append_assoc, ← hn]) (by simp; omega)
          have e1 : IntKind.i64.wrap ((pre.length : Int) + (dec (v :: t)).2) = ((pre ++ (v :: t).take (dec (v :: t)).2.toNat).length : Int) := by
            rw [wrap_i64 (by omega) (by omega)]
            simp only [List.length_append, List.length_take]; omega
          rw [e1]
          have e2 : ((dec (v :: t)).2.toNat + nlen f ((v :: t).drop (dec (v :: t)).2.toNat) == (v :: t).length) = (nlen f ((v :: t).drop (dec (v :: t)).2.toNat) == ((v :: t).drop (dec (v :: t)).2.toNat).length) := by
            rw [List.length_drop, Bool.eq_iff_iff]
            simp only [beq_iff_eq]
            constructor <;> intro h <;> omega
          rw [e2]; exact hq
theorem at_loop (b : List Int) (hu : U8s b) (hs : b.length ≤ 1048576) : ∀ (f : Nat) (suf pre : List Int), suf.length ≤ f → b = pre ++ suf →
    Evt (fun k => dossierref01_NameAt.l0 k (pre.length : Int) b) ((pre.length + nlen f suf : Nat) : Int) := by
  intro f
  induction f with
  | zero =>
    intro suf pre h1 hx
    have : suf = [] := List.eq_nil_of_length_eq_zero (by omega)
    subst this
    refine Evt.succ (fun k => by rw [dossierref01_NameAt.l0]) (Evt.pos (by simp [hx]) ?_)
    rw [sub_all, hx, List.drop_left, ← hx]
    refine Evt.bind (refD [] U8s.nil) (Evt.pos rfl ?_)
    simpa [nlen] using Evt.pure (pre.length : Int)
  | succ f ih =>
    intro suf pre h1 hx
    have hpl : pre.length + suf.length ≤ 1048576 := by rw [hx, List.length_append] at hs; omega
    have hsu : U8s suf := by have := hu.drop pre.length; rw [hx] at this; simpa using this
    refine Evt.succ (fun k => by rw [dossierref01_NameAt.l0]) (Evt.pos (by simp [hx] <;> omega) ?_)
    rw [sub_all, hx, List.drop_left, ← hx]
    refine Evt.bind (refD _ hsu) ?_
    have hd := dec_prog hsu
    simp only [nlen]
    by_cases c : (dec suf).2 = 0
    · rw [if_pos (.inl c)]; exact Evt.pos (by simpa using c) (by simpa using Evt.pure (pre.length : Int))
    · refine Evt.neg (by simpa using c) (Evt.bind (reflater_ev _) ?_)
      cases hl : laterS (dec suf).1 with
      | false => rw [if_pos (.inr rfl)]; exact Evt.neg (by decide) (by simpa using Evt.pure (pre.length : Int))
      | true =>
        rw [if_neg (by simp [c])]
        refine Evt.pos rfl ?_
        have hn : suf = suf.take (dec suf).2.toNat ++ suf.drop (dec suf).2.toNat := (List.take_append_drop _ _).symm
        have hq := ih (suf.drop (dec suf).2.toNat) (pre ++ suf.take (dec suf).2.toNat) (by simp only [List.length_drop]; omega) (by rw [hx, List.append_assoc, ← hn])
        have e0 : (pre ++ suf.take (dec suf).2.toNat).length = pre.length + (dec suf).2.toNat := by simp only [List.length_append, List.length_take]; omega
        have e1 : IntKind.i64.wrap ((pre.length : Int) + (dec suf).2) = ((pre ++ suf.take (dec suf).2.toNat).length : Int) := by
          rw [wrap_i64 (by omega) (by omega), e0]; omega
        rw [e1]
        have e2 : ((pre.length + ((dec suf).2.toNat + nlen f (suf.drop (dec suf).2.toNat)) : Nat) : Int) = (((pre ++ suf.take (dec suf).2.toNat).length + nlen f (suf.drop (dec suf).2.toNat) : Nat) : Int) := by
          rw [e0]; omega
        rw [e2]; exact hq

def nameS (b : List Int) : Bool := decide (1 ≤ b.length) && decide ((dec b).2 ≠ 0) && firstS (dec b).1 && laterS (dec b).1 && (nlen b.length (b.drop (dec b).2.toNat) == (b.drop (dec b).2.toNat).length)
theorem first_later {r : Int} (h : firstS r = true) : laterS r = true := by simp [laterS, h]
theorem name_ev (s : ByteArray) (hs : s.size ≤ 1048576) : Evt (fun k => chars_Name.f k s) (nameS (bytesI s)) := by
  have hlen := bytesI_len s
  have hus := bytesI_u8 s
  simp only [chars_Name.f]
  refine Evt.succ (fun k => by rw [chars_Name.l0]) ?_
  by_cases c0 : (bytesI s).length = 0
  · refine Evt.neg (by simp only [decide_eq_true_eq]; omega) ?_
    have e : nameS (bytesI s) = false := by
      have : decide (1 ≤ (bytesI s).length) = false := decide_eq_false (by omega)
      simp only [nameS, this, Bool.false_and]
    rw [e]
    have : decide (((bytesI s).length : Int) > 0) = false := decide_eq_false (by omega)
    rw [this]; exact .pure _
  refine Evt.pos (by simp only [decide_eq_true_eq]; omega) (Evt.pos (by simp) ?_)
  have e0 : sub (bytesI s) 0 ((bytesI s).length : Int) = bytesI s := by
    have := sub_all (bytesI s) 0; simpa using this
  rw [e0]
  refine Evt.bind (progD _ hus) ?_
  have hd := dec_prog hus
  by_cases c : (dec (bytesI s)).2 = 0
  · refine Evt.pos (by simpa using c) ?_
    have e : nameS (bytesI s) = false := by simp [nameS, c]
    rw [e]; exact .pure _
  · refine Evt.neg (by simpa using c) (Evt.pos rfl (Evt.bind (first_ev _ (by omega)) ?_))
    cases hf : firstS (dec (bytesI s)).1 with
    | false =>
      have e : nameS (bytesI s) = false := by simp [nameS, hf]
      rw [e]; exact Evt.neg (by decide) (.pure _)
    | true =>
      have hl := first_later hf
      refine Evt.pos rfl (Evt.bind (later_ev _ (by omega)) ?_)
      rw [hl]
      refine Evt.pos rfl ?_
      have hq := name_loop s hs (bytesI s).length ((bytesI s).drop (dec (bytesI s)).2.toNat) ((bytesI s).take (dec (bytesI s)).2.toNat) (by simp) (List.take_append_drop _ _).symm (by simp; omega)
      have e1 : IntKind.i64.wrap (0 + (dec (bytesI s)).2) = (((bytesI s).take (dec (bytesI s)).2.toNat).length : Int) := by
        rw [wrap_i64 (by omega) (by omega)]
        simp only [List.length_take]; omega
      rw [e1]
      have e2 : nameS (bytesI s) = (nlen (bytesI s).length ((bytesI s).drop (dec (bytesI s)).2.toNat) == ((bytesI s).drop (dec (bytesI s)).2.toNat).length) := by
        have : decide (1 ≤ (bytesI s).length) = true := decide_eq_true (by omega)
        simp [nameS, hf, hl, c, this]
      rw [e2]; exact hq
theorem refname_ev (s : ByteArray) (hs : s.size ≤ 1048576) : Evt (fun k => dossierref01_Name.f k s) (nameS (bytesI s)) := by
  have hlen := bytesI_len s
  have hus := bytesI_u8 s
  simp only [dossierref01_Name.f]
  by_cases c0 : (bytesI s).length = 0
  · refine Evt.neg (by simp only [decide_eq_true_eq]; omega) ?_
    have e : nameS (bytesI s) = false := by
      have : decide (1 ≤ (bytesI s).length) = false := decide_eq_false (by omega)
      simp only [nameS, this, Bool.false_and]
    rw [e]; exact .pure _
  refine Evt.pos (by simp only [decide_eq_true_eq]; omega) ?_
  have hd := dec_prog hus
  refine Evt.bind (a := if (dec (bytesI s)).2 = 0 ∨ firstS (dec (bytesI s)).1 = false then 0 else (((dec (bytesI s)).2.toNat + nlen (bytesI s).length ((bytesI s).drop (dec (bytesI s)).2.toNat) : Nat) : Int)) ?_ ?_
  · simp only [dossierref01_NameAt.f]
    refine Evt.bind (refD _ hus) ?_
    by_cases c : (dec (bytesI s)).2 = 0
    · rw [if_pos (.inl c)]; exact Evt.pos (by simpa using c) (.pure _)
    · refine Evt.neg (by simpa using c) (Evt.bind (reffirst_ev _) ?_)
      cases hf : firstS (dec (bytesI s)).1 with
      | false => rw [if_pos (.inr rfl)]; exact Evt.neg (by decide) (.pure _)
      | true =>
        rw [if_neg (by simp [c])]
        refine Evt.pos rfl ?_
        have hq := at_loop (bytesI s) hus (by omega) (bytesI s).length ((bytesI s).drop (dec (bytesI s)).2.toNat) ((bytesI s).take (dec (bytesI s)).2.toNat) (by simp) (List.take_append_drop _ _).symm
        have e0 : ((bytesI s).take (dec (bytesI s)).2.toNat).length = (dec (bytesI s)).2.toNat := by simp only [List.length_take]; omega
        rw [e0] at hq
        rw [show (((dec (bytesI s)).2.toNat : Nat) : Int) = (dec (bytesI s)).2 by omega] at hq
        exact hq
  · have hle := nlen_le (bytesI s).length ((bytesI s).drop (dec (bytesI s)).2.toNat) (hus.drop _)
    have e : nameS (bytesI s) = ((if (dec (bytesI s)).2 = 0 ∨ firstS (dec (bytesI s)).1 = false then 0 else (((dec (bytesI s)).2.toNat + nlen (bytesI s).length ((bytesI s).drop (dec (bytesI s)).2.toNat) : Nat) : Int)) == (s.size : Int)) := by
      by_cases c : (dec (bytesI s)).2 = 0
      · rw [if_pos (.inl c)]
        have : ¬ (0 : Int) = (s.size : Int) := by omega
        simp [nameS, c]; omega
      · cases hf : firstS (dec (bytesI s)).1 with
        | false =>
          rw [if_pos (.inr rfl)]
          simp [nameS, hf]; omega
        | true =>
          rw [if_neg (by simp [c])]
          have h1 : decide (1 ≤ (bytesI s).length) = true := decide_eq_true (by omega)
          have hl := first_later hf
          simp only [nameS, hf, hl, h1, c, ne_eq, not_false_iff, decide_true, Bool.true_and, Bool.and_true]
          rw [Bool.eq_iff_iff]
          simp only [decide_eq_true_eq, beq_iff_eq, List.length_drop]
          constructor <;> intro h <;> omega
    rw [e]; exact .pure _

/-! ### the first byte that is wrong -/
def wrS : Nat → Nat → List Int → Int
  | 0, _, _ => -1
  | f + 1, x, b => if b = [] then -1 else if (dec b).2 = 0 ∨ xmlS (dec b).1 = false then (x : Int) else wrS f (x + (dec b).2.toNat) (b.drop (dec b).2.toNat)
theorem wrong_loop (b : List Int) (hu : U8s b) (hs : b.length ≤ 1048576) (F : Nat → Int → Option Int) (D : Nat → List Int → Option (Int × Int)) (X : Nat → Int → Option Bool)
    (hD : ∀ b, U8s b → Evt (fun k => D k b) (dec b)) (hX : ∀ r, Evt (fun k => X k r) (xmlS r))
    (hF : ∀ k x, F (k + 1) x = if (decide (x < (b.length : Int))) = true then (if (decide (0 ≤ x ∧ x ≤ (b.length : Int) ∧ (b.length : Int) ≤ (b.length : Int))) = true then ((D k (sub b x (b.length : Int))).bind fun r4 => if (r4.2 == 0) = true then (some x) else ((X k r4.1).bind fun r6 => if r6 = true then (F k (IntKind.i64.wrap (x + r4.2))) else (some x))) else none) else (some (-1))) :
    ∀ (f : Nat) (suf pre : List Int), suf.length ≤ f → b = pre ++ suf → Evt (fun k => F k (pre.length : Int)) (wrS f pre.length suf) := by
  intro f
  induction f with
  | zero =>
    intro suf pre h1 hx
    have : suf = [] := List.eq_nil_of_length_eq_zero (by omega)
    subst this
    exact Evt.succ (fun k => hF k _) (Evt.neg (by simp [hx]) (.pure _))
  | succ f ih =>
    intro suf pre h1 hx
    have hpl : pre.length + suf.length ≤ 1048576 := by rw [hx, List.length_append] at hs; omega
    cases suf with
    | nil => exact Evt.succ (fun k => hF k _) (Evt.neg (by simp [hx]) (by simpa [wrS] using Evt.pure (-1 : Int)))
    | cons v t =>
      have hsu : U8s (v :: t) := by have := hu.drop pre.length; rw [hx] at this; simpa using this
      refine Evt.succ (fun k => hF k _) (Evt.pos (by simp [hx] <;> omega) (Evt.pos (by simp [hx] <;> omega) ?_))
      rw [sub_all, hx, List.drop_left]
      refine Evt.bind (hD _ hsu) ?_
      have hd := dec_prog hsu
      simp only [wrS]
      rw [if_neg (by simp)]
      by_cases c : (dec (v :: t)).2 = 0
      · rw [if_pos (.inl c)]; exact Evt.pos (by simpa using c) (.pure _)
      · refine Evt.neg (by simpa using c) (Evt.bind (hX _) ?_)
        cases hl : xmlS (dec (v :: t)).1 with
        | false => rw [if_pos (.inr rfl)]; exact Evt.neg (by decide) (.pure _)
        | true =>
          rw [if_neg (by simp [c])]
          refine Evt.pos rfl ?_
          have hn : (v :: t) = (v :: t).take (dec (v :: t)).2.toNat ++ (v :: t).drop (dec (v :: t)).2.toNat := (List.take_append_drop _ _).symm
          have hq := ih ((v :: t).drop (dec (v :: t)).2.toNat) (pre ++ (v :: t).take (dec (v :: t)).2.toNat) (by simp only [List.length_drop, List.length_cons] at *; omega) (by rw [hx, List.append_assoc, ← hn])
          have e0 : (pre ++ (v :: t).take (dec (v :: t)).2.toNat).length = pre.length + (dec (v :: t)).2.toNat := by simp only [List.length_append, List.length_take]; omega
          have e1 : IntKind.i64.wrap ((pre.length : Int) + (dec (v :: t)).2) = ((pre ++ (v :: t).take (dec (v :: t)).2.toNat).length : Int) := by
            rw [wrap_i64 (by omega) (by omega), e0]; omega
          rw [e1, ← e0]; exact hq
theorem wrong_ev (b : List Int) (hu : U8s b) (hs : b.length ≤ 1048576) : Evt (fun k => chars_Wrong.f k b) (wrS b.length 0 b) := by
  simp only [chars_Wrong.f]
  exact wrong_loop b hu hs (fun k x => chars_Wrong.l0 k x b) chars_Decode.f chars_ofXML.f progD xml_ev (fun k x => by rw [chars_Wrong.l0]) b.length b [] (Nat.le_refl _) rfl
theorem refwrong_ev (b : List Int) (hu : U8s b) (hs : b.length ≤ 1048576) : Evt (fun k => dossierref01_Wrong.f k b) (wrS b.length 0 b) := by
  simp only [dossierref01_Wrong.f]
  exact wrong_loop b hu hs (fun k x => dossierref01_Wrong.l0 k x b) dossierref01_Decode.f dossierref01_OfXML.f refD refxml_ev (fun k x => by rw [dossierref01_Wrong.l0]) b.length b [] (Nat.le_refl _) rfl

/-! ### the laws -/
theorem awake_ev : Evt (fun k => dossierlaw01_awake.f k) true := by
  simp only [dossierlaw01_awake.f]
  refine Evt.bind (progD [195, 169, 1] (by intro x hx; simp at hx; omega)) ?_
  have e : dec [195, 169, 1] = (233, 2) := by decide +kernel
  rw [e]
  exact Evt.pos rfl (.pure _)
theorem space_ev (r : Int) : Evt (fun k => chars_Space.f k r) (r == 32 || r == 9 || r == 10 || r == 13) ∧ Evt (fun k => dossierref01_Space.f k r) (r == 32 || r == 9 || r == 10 || r == 13) := by
  simp only [chars_Space.f, dossierref01_Space.f]
  by_cases h1 : r = 32
  · subst h1; exact ⟨Evt.pos rfl (.pure _), Evt.neg (by decide) (Evt.neg (by decide) (Evt.neg (by decide) (.pure _)))⟩
  by_cases h2 : r = 9
  · subst h2; exact ⟨Evt.neg (by decide) (Evt.pos rfl (.pure _)), Evt.pos rfl (.pure _)⟩
  by_cases h3 : r = 10
  · subst h3; exact ⟨Evt.neg (by decide) (Evt.neg (by decide) (Evt.pos rfl (.pure _))), Evt.neg (by decide) (Evt.pos rfl (.pure _))⟩
  by_cases h4 : r = 13
  · subst h4; exact ⟨Evt.neg (by decide) (Evt.neg (by decide) (Evt.neg (by decide) (Evt.pos rfl (.pure _)))), Evt.neg (by decide) (Evt.neg (by decide) (Evt.pos rfl (.pure _)))⟩
  have e : (r == 32 || r == 9 || r == 10 || r == 13) = false := by simp [h1, h2, h3, h4]
  rw [e]
  refine ⟨Evt.neg (by simpa using h1) (Evt.neg (by simpa using h2) (Evt.neg (by simpa using h3) (Evt.neg (by simpa using h4) (.pure _)))), Evt.neg (by simpa using h2) (Evt.neg (by simpa using h3) (Evt.neg (by simpa using h4) ?_))⟩
  have : (r == 32) = false := by simp [h1]
  rw [this]; exact .pure _

theorem charsNames_true (r : Int) (s : ByteArray) (h0 : -9223372036854775808 ≤ r) (hs : s.size ≤ 1048576) : ∃ k, dossierlaw01_CharsNames.f k r s = some true := by
  refine Evt.get (f := fun k => dossierlaw01_CharsNames.f k r s) ?_
  simp only [dossierlaw01_CharsNames.f]
  refine Evt.bind (space_ev r).1 (Evt.bind (space_ev r).2 (Evt.pos (by simp) (Evt.bind (first_ev r h0) (Evt.bind (reffirst_ev r) (Evt.pos (by simp) (Evt.bind (later_ev r h0) (Evt.bind (reflater_ev r) (Evt.pos (by simp) ?_))))))))
  exact Evt.bind (name_ev s hs) (Evt.bind (refname_ev s hs) (Evt.pos (by simp) awake_ev.map))
theorem charsDecode_true (b : List Int) (r : Int) (h0 : -9223372036854775808 ≤ r) (h1 : r ≤ 9223372036854775807) (hu : U8s b) (hs : b.length ≤ 1048576) : ∃ k, dossierlaw01_CharsDecode.f k b r = some true := by
  refine Evt.get (f := fun k => dossierlaw01_CharsDecode.f k b r) ?_
  simp only [dossierlaw01_CharsDecode.f]
  refine Evt.bind (progD b hu) (Evt.bind (refD b hu) (Evt.pos (by simp) (Evt.pos (by simp) (Evt.bind (progE 0 r h0 h1) (Evt.bind (a := E r) (Evt.congr (fun k => refE k r h0 h1) (.pure _)) ?_)))))
  simp only [bytes_Equal.f]
  refine Evt.some_bind rfl (Evt.pos (by simp) ?_)
  exact Evt.bind (wrong_ev b hu hs) (Evt.bind (refwrong_ev b hu hs) (Evt.pos (by simp) awake_ev.map))
end Go.Abs.GenC
