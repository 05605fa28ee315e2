import Derived.Test.YtdpakmmkponfmaaPlZJ
set_option linter.unusedVariables false
set_option linter.unusedSimpArgs false
set_option maxRecDepth 100000
set_option maxHeartbeats 4000000
namespace Go.Abs.GenZ
open Go.Abs
abbrev Jn := journal_Journal
abbrev Jr := dossierref04_Journal
def nm : ByteArray := ⟨#[106, 111, 117, 114, 110, 97, 108]⟩
def nn : ByteArray := ⟨#[106, 111, 117, 114, 110, 97, 108, 46, 110, 101, 119]⟩
theorem rdp {α : Type} (pre l : List α) (j : Nat) : rd (pre ++ l) ((pre.length + j : Nat) : Int) = l[j]? := by
 rw [rd_nat, List.getElem?_append_right (by omega)]; congr 1; omega
theorem subp {α : Type} (pre l : List α) (i j : Nat) : sub (pre ++ l) ((pre.length + i : Nat) : Int) ((pre.length + j : Nat) : Int) = (l.drop i).take (j - i) := by
 simp only [sub, Int.toNat_natCast]
 rw [List.drop_append, List.drop_eq_nil_of_le (by omega), List.nil_append]
 congr 1
 ·omega
 ·congr 1; omega
def scanTail (k : Nat) (L : List (List Int)) (n : Int) (p0 : Jn) (a1 : List Int) (p1 : VD) : Option ((Option Unit) × Int × Jn × VD) :=
 if ((L.length : Int) == 0) = true then (some ((none : Option Unit), 72, p0, p1)) else (if (decide (n < (a1.length : Int))) = true then ((vdisk_Disk_Truncate.f k p1 (⟨#[106, 111, 117, 114, 110, 97, 108]⟩ : ByteArray) n).bind fun r9 => if (r9.1 != 0) = true then (some ((none : Option Unit), r9.1, p0, r9.2)) else (journal_Journal_scan.j1 k r9.2.fuse r9.2.room r9.2.used r9.2.dead r9.2.files p0 L)) else (journal_Journal_scan.j1 k p1.fuse p1.room p1.used p1.dead p1.files p0 L))
theorem w8 {p q : Nat} (h : p + q < 4611686018427387904) : IntKind.i64.wrap ((p : Int) + (q : Int)) = ((p + q : Nat) : Int) := by rw [wrap_i64 (by omega) (by omega)]; omega
/-- the reference's reading of one frame. -/
theorem framesR_step (pre b : List Int) (x1 : List (List Int)) (hu : U8s b) (hl : (pre ++ b).length ≤ 100000000000) (hx : x1.length ≤ pre.length) (r : List (List Int) × Int)
  (h : match nx b with
   | none => r = (x1, (pre.length : Int))
   | some body => Evt (fun k => dossierref04_frames.l0 k (x1 ++ [body]) ((pre.length + (8 + body.length) : Nat) : Int) (pre ++ b)) r) :
  Evt (fun k => dossierref04_frames.l0 k x1 (pre.length : Int) (pre ++ b)) r := by
 have hlen : (pre ++ b).length = pre.length + b.length := List.length_append
 rw [hlen] at hl
 have e0 : IntKind.i64.wrap (((pre ++ b).length : Int) - (pre.length : Int)) = (b.length : Int) := by rw [wrap_i64] <;> rw [hlen] <;> omega
 refine Evt.succ (fun k => by rw [dossierref04_frames.l0, e0]) ?_
 by_cases h8 : b.length < 8
 ·have : nx b = none := by
   cases hq : nx b with
   | none => rfl
   | some body => have := nx_len hq; omega
  rw [this] at h
  subst h
  exact Evt.neg (by rw [decide_eq_true_eq]; omega) (.pure _)
 ·obtain ⟨v0, v1, v2, v3, t, rfl⟩ : ∃ v0 v1 v2 v3 t, b = v0 :: v1 :: v2 :: v3 :: t := by
   match b, h8 with
   | [], h8 => exact absurd (by simp) h8
   | [_], h8 => exact absurd (by simp) h8
   | [_, _], h8 => exact absurd (by simp) h8
   | [_, _, _], h8 => exact absurd (by simp) h8
   | v0 :: v1 :: v2 :: v3 :: t, h8 => exact ⟨v0, v1, v2, v3, t, rfl⟩
  have hb4 : (v0 :: v1 :: v2 :: v3 :: t).length = t.length + 4 := rfl
  rw [hb4] at hl h8 hlen
  obtain ⟨g0, g1, g2, g3⟩ := num_pos hu
  have hnum : 0 ≤ num v0 v1 v2 v3 := by simp only [num]; omega
  have hnum2 : num v0 v1 v2 v3 < 4294967296 := by simp only [num]; omega
  obtain ⟨n, hn⟩ := Int.eq_ofNat_of_zero_le hnum
  have hn2 : n < 4294967296 := by omega
  refine Evt.pos (by rw [decide_eq_true_eq, hb4]; omega) ?_
  refine Evt.some_bind (a := v0) (by have := rdp pre (v0 :: v1 :: v2 :: v3 :: t) 0; simpa using this) ?_
  have w1 : ∀ j : Nat, j < 100 → IntKind.i64.wrap ((pre.length : Int) + (j : Int)) = ((pre.length + j : Nat) : Int) := fun j hj => w8 (by omega)
  refine Evt.some_bind (a := v1) (by rw [show ((1 : Int)) = ((1 : Nat) : Int) from rfl, w1 1 (by omega), rdp]; rfl) ?_
  refine Evt.some_bind (a := v2) (by rw [show ((2 : Int)) = ((2 : Nat) : Int) from rfl, w1 2 (by omega), rdp]; rfl) ?_
  refine Evt.some_bind (a := v3) (by rw [show ((3 : Int)) = ((3 : Nat) : Int) from rfl, w1 3 (by omega), rdp]; rfl) ?_
  have e1 : IntKind.i64.wrap (((v0 :: v1 :: v2 :: v3 :: t).length : Int) - 8) = (t.length : Int) - 4 := by rw [wrap_i64] <;> rw [hb4] <;> omega
  have e2 : IntKind.i64.wrap ((pre.length : Int) + 8) = ((pre.length + 8 : Nat) : Int) := w1 8 (by omega)
  have e3 : IntKind.i64.wrap (((pre.length + 8 : Nat) : Int) + (n : Int)) = ((pre.length + (8 + n) : Nat) : Int) := by rw [w8 (by omega)]; congr 1; omega
  have e4 : IntKind.i64.wrap (8 + (n : Int)) = ((8 + n : Nat) : Int) := w8 (p := 8) (by omega)
  have e5 : IntKind.i64.wrap ((pre.length : Int) + ((8 + n : Nat) : Int)) = ((pre.length + (8 + n) : Nat) : Int) := w8 (by omega)
  rw [W1_eq g0 g1 g2 g3, e1, e2, hn, e3, e4, e5]
  have hnx : nx (v0 :: v1 :: v2 :: v3 :: t) = if (n : Int) > (t.length : Int) - 4 then none else if hdr ((t.drop 4).take n) = v0 :: v1 :: v2 :: v3 :: t.take 4 then some ((t.drop 4).take n) else none := by
   simp only [nx]
   rw [if_neg (by omega), hn]
   rfl
  by_cases h9 : (n : Int) > (t.length : Int) - 4
  ·rw [hnx, if_pos h9] at h
   subst h
   exact Evt.pos (by rw [decide_eq_true_eq]; exact h9) (.pure _)
  ·rw [hnx, if_neg h9] at h
   have hbl : ((t.drop 4).take n).length = n := by simp only [List.length_take, List.length_drop]; omega
   have eb : sub (pre ++ v0 :: v1 :: v2 :: v3 :: t) ((pre.length + 8 : Nat) : Int) ((pre.length + (8 + n) : Nat) : Int) = (t.drop 4).take n := by
    rw [subp, show 8 + n - 8 = n by omega]; rfl
   have ea : sub (pre ++ v0 :: v1 :: v2 :: v3 :: t) (pre.length : Int) ((pre.length + (8 + n) : Nat) : Int) = (v0 :: v1 :: v2 :: v3 :: t.take 4) ++ (t.drop 4).take n := by
    have := subp pre (v0 :: v1 :: v2 :: v3 :: t) 0 (8 + n)
    rw [Nat.add_zero, List.drop_zero, Nat.sub_zero] at this
    rw [this, List.take_add]
    rfl
   rw [eb, ea]
   refine Evt.neg (by rw [decide_eq_true_eq]; exact h9) (Evt.pos (by rw [decide_eq_true_eq, hlen]; omega) ((frameR_ev _ (by rw [hbl]; omega)).bind (Evt.pos (by rw [decide_eq_true_eq, hlen]; omega) ?_)))
   have hub : U8s ((t.drop 4).take n) := fun x hx => hu x (by
    have := List.mem_of_mem_drop (List.mem_of_mem_take hx)
    simp [this])
   have hua : U8s ((v0 :: v1 :: v2 :: v3 :: t.take 4) ++ (t.drop 4).take n) := by
    refine U8s.app (fun x hx => hu x ?_) hub
    simp only [List.mem_cons] at hx ⊢
    rcases hx with h | h | h | h | h
    ·exact .inl h
    ·exact .inr (.inl h)
    ·exact .inr (.inr (.inl h))
    ·exact .inr (.inr (.inr (.inl h)))
    ·exact .inr (.inr (.inr (.inr (List.mem_of_mem_take h))))
   rw [ofNums_beq (frm_u8 hub) hua]
   by_cases hh : hdr ((t.drop 4).take n) = v0 :: v1 :: v2 :: v3 :: t.take 4
   ·rw [if_pos hh] at h
    simp only [hbl] at h
    refine Evt.pos (by rw [decide_eq_true_eq, frm, hh]) (Evt.pos (by rw [decide_eq_true_eq, hbl]; simp only [List.length_nil]; omega) (Evt.pos (by rw [decide_eq_true_eq]; simp only [List.length_cons, List.length_nil]; omega) ?_))
    exact h
   ·rw [if_neg hh] at h
    subst h
    refine Evt.neg (by
     rw [decide_eq_true_eq, frm]
     intro e
     exact hh (List.append_inj_left e (by rw [hdr_len]; simp only [List.length_cons, List.length_take]; omega))) (.pure _)
/-- both readings. -/
theorem frames_scan : ∀ (m : Nat) (pre b : List Int) (x1 : List (List Int)), b.length ≤ m → U8s b → (pre ++ b).length ≤ 100000000000 → x1.length ≤ pre.length → (∀ x ∈ x1, x.length ≤ 100000000000) →
  ∃ (L : List (List Int)) (n : Nat), Evt (fun k => dossierref04_frames.l0 k x1 (pre.length : Int) (pre ++ b)) (L, (n : Int)) ∧ (n ≤ (pre ++ b).length ∧ L.length ≤ n ∧ ∀ x ∈ L, x.length ≤ 100000000000) ∧
   ∀ p0 p1 r, Evt (fun k => scanTail k L (n : Int) p0 (pre ++ b) p1) r → Evt (fun k => journal_Journal_scan.l0 k x1 (pre.length : Int) p0 (pre ++ b) p1) r := by
 intro m
 induction m with
 | zero => ?_
 | succ m ih => ?_
 all_goals
  intro pre b x1 hm hu hl hx hx1
  have hlen : (pre ++ b).length = pre.length + b.length := List.length_append
  obtain ⟨w, hw, hw2⟩ := next_ev b hu (by omega)
  have hs : sub (pre ++ b) (pre.length : Int) ((pre ++ b).length : Int) = b := by rw [sub_all, List.drop_left]
  have stop : nx b = none → ∃ (L : List (List Int)) (n : Nat), Evt (fun k => dossierref04_frames.l0 k x1 (pre.length : Int) (pre ++ b)) (L, (n : Int)) ∧ (n ≤ (pre ++ b).length ∧ L.length ≤ n ∧ ∀ x ∈ L, x.length ≤ 100000000000) ∧
    ∀ p0 p1 r, Evt (fun k => scanTail k L (n : Int) p0 (pre ++ b) p1) r → Evt (fun k => journal_Journal_scan.l0 k x1 (pre.length : Int) p0 (pre ++ b) p1) r := by
   intro hq
   refine ⟨x1, pre.length, framesR_step pre b x1 hu hl hx _ (by rw [hq]), ⟨by omega, hx, hx1⟩, fun p0 p1 r hr => ?_⟩
   refine Evt.succ (fun k => by rw [journal_Journal_scan.l0, hs]) (Evt.pos (by rw [decide_eq_true_eq, hlen]; omega) ?_)
   rw [hq] at hw
   refine hw.bind ?_
   refine Evt.neg (by simp) ?_
   exact hr
 ·exact stop (by
   cases hq : nx b with
   | none => rfl
   | some body => have := nx_len hq; omega)
 ·cases hq : nx b with
  | none => exact stop hq
  | some body =>
   have hb := nx_len hq
   have hwb := hw2 body hq
   subst hwb
   have ha : pre ++ b = (pre ++ b.take (8 + w.length)) ++ b.drop (8 + w.length) := by rw [List.append_assoc, List.take_append_drop]
   have hp : (pre ++ b.take (8 + w.length)).length = pre.length + (8 + w.length) := by simp only [List.length_append, List.length_take]; omega
   obtain ⟨L, n, h1, h2, h3⟩ := ih (pre ++ b.take (8 + w.length)) (b.drop (8 + w.length)) (x1 ++ [w]) (by rw [List.length_drop]; omega) (hu.drop _) (by rw [← ha]; exact hl) (by rw [hp]; simp only [List.length_append, List.length_cons, List.length_nil]; omega) (fun x hx => by
    rcases List.mem_append.mp hx with h | h
    ·exact hx1 x h
    ·rw [List.mem_singleton.mp h]; omega)
   rw [← ha, hp] at h1 h3
   rw [← ha] at h2
   refine ⟨L, n, framesR_step pre b x1 hu hl hx _ (by rw [hq]; exact h1), h2, fun p0 p1 r hr => ?_⟩
   refine Evt.succ (fun k => by rw [journal_Journal_scan.l0, hs]) (Evt.pos (by rw [decide_eq_true_eq, hlen]; omega) ?_)
   rw [hq] at hw
   refine hw.bind ?_
   refine Evt.pos (by rfl) (Evt.pos (by rw [decide_eq_true_eq]; simp only [List.length_cons, List.length_nil]; omega) ?_)
   have e4 : IntKind.i64.wrap (8 + (w.length : Int)) = ((8 + w.length : Nat) : Int) := w8 (p := 8) (by omega)
   have e5 : IntKind.i64.wrap ((pre.length : Int) + ((8 + w.length : Nat) : Int)) = ((pre.length + (8 + w.length) : Nat) : Int) := w8 (by omega)
   simp only [e4, e5]
   exact h3 p0 p1 r hr
end Go.Abs.GenZ
