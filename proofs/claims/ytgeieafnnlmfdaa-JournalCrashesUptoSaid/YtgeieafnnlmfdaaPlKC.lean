import Derived.Test.YtgeieafnnlmfdaaPlKB
set_option linter.unusedVariables false
set_option linter.unusedSimpArgs false
set_option maxRecDepth 100000
set_option maxHeartbeats 4000000
namespace Go.Abs.GenK
open Go.Abs
/-! ### frames, one behind the other, and a torn one -/
theorem num_fo {n : Int} (h0 : 0 ≤ n) (h1 : n < 4294967296) : num (IntKind.u8.wrap (Int.fdiv n (2 ^ 24))) (IntKind.u8.wrap (Int.fdiv n (2 ^ 16))) (IntKind.u8.wrap (Int.fdiv n (2 ^ 8))) (IntKind.u8.wrap n) = n := by
 have e1 : (2 : Int) ^ 24 = 16777216 := rfl
 have e2 : (2 : Int) ^ 16 = 65536 := rfl
 have e3 : (2 : Int) ^ 8 = 256 := rfl
 rw [e1, e2, e3, Int.fdiv_eq_ediv_of_nonneg _ (by decide), Int.fdiv_eq_ediv_of_nonneg _ (by decide), Int.fdiv_eq_ediv_of_nonneg _ (by decide)]
 simp only [num, wrap_u8]
 omega
theorem nx_frm (a t : List Int) (h : a.length < 4294967296) : nx (frm a ++ t) = some a := by
 have hn := num_fo (n := (a.length : Int)) (by omega) (by omega)
 have e : frm a ++ t = IntKind.u8.wrap (Int.fdiv (a.length : Int) (2 ^ 24)) :: IntKind.u8.wrap (Int.fdiv (a.length : Int) (2 ^ 16)) :: IntKind.u8.wrap (Int.fdiv (a.length : Int) (2 ^ 8)) :: IntKind.u8.wrap (a.length : Int) :: (fo (crcV a) ++ (a ++ t)) := by simp only [frm, hdr, fo, List.cons_append, List.nil_append]
 rw [e]
 simp only [nx]
 have hl : (fo (crcV a) ++ (a ++ t)).length = 4 + (a.length + t.length) := by rw [List.length_append, List.length_append]; rfl
 have h4 : (fo (crcV a) ++ (a ++ t)).drop 4 = a ++ t := rfl
 have h5 : (fo (crcV a) ++ (a ++ t)).take 4 = fo (crcV a) := rfl
 rw [if_neg (by omega), hn, if_neg (by rw [hl]; omega), h4, h5, Int.toNat_natCast, List.take_left]
 exact if_pos rfl
theorem nx_torn (a : List Int) (m : Nat) (h : a.length < 4294967296) (hm : m < 8 + a.length) : nx ((frm a).take m) = none := by
 match m, hm with
 | 0, _ => rfl
 | 1, _ => rfl
 | 2, _ => rfl
 | 3, _ => rfl
 | m + 4, hm =>
  have hn := num_fo (n := (a.length : Int)) (by omega) (by omega)
  have e : (frm a).take (m + 4) = IntKind.u8.wrap (Int.fdiv (a.length : Int) (2 ^ 24)) :: IntKind.u8.wrap (Int.fdiv (a.length : Int) (2 ^ 16)) :: IntKind.u8.wrap (Int.fdiv (a.length : Int) (2 ^ 8)) :: IntKind.u8.wrap (a.length : Int) :: ((fo (crcV a) ++ a).take m) := rfl
  rw [e]
  simp only [nx]
  have hl : ((fo (crcV a) ++ a).take m).length = min m (4 + a.length) := by rw [List.length_take, List.length_append]; rfl
  by_cases h4 : m < 4
  ·rw [if_pos (by rw [hl]; omega)]
  ·rw [if_neg (by rw [hl]; omega), hn, if_pos (by rw [hl]; omega)]
theorem frm_u8 {a : List Int} (h : U8s a) : U8s (frm a) := by
 have fo_u8 : ∀ n : Int, U8s (fo n) := by
  intro n x hx
  simp only [fo, List.mem_cons, List.mem_nil_iff, or_false] at hx
  rcases hx with rfl | rfl | rfl | rfl <;> rw [wrap_u8] <;> omega
 exact ((fo_u8 _).app (fo_u8 _)).app h
noncomputable def jf (L : List (List Int)) : List Int := L.flatMap frm
theorem jf_cons (a : List Int) (L : List (List Int)) : jf (a :: L) = frm a ++ jf L := rfl
theorem jf_app (L M : List (List Int)) : jf (L ++ M) = jf L ++ jf M := by simp [jf]
theorem jf_one (a : List Int) : jf [a] = frm a := by simp [jf]
/-- a journal's file is read: what the loop does, of any of its shapes. -/
theorem scan_gen {β : Type} {b : List Int} {S T : Nat → List (List Int) → Int → Option β} (hu : U8s b) (hb : b.length ≤ 100000000)
  (hS : ∀ k x1 x2, S (k + 1) x1 x2 = if (decide (0 ≤ x2 ∧ x2 ≤ (b.length : Int) ∧ (b.length : Int) ≤ (b.length : Int))) = true then ((journal_next.f k (sub b x2 (b.length : Int))).bind fun r4 => if r4.2 = true then (if (decide (x1.length + ([r4.1] : List (List Int)).length ≤ 5864062014805)) = true then (S k (x1 ++ ([r4.1] : List (List Int))) (IntKind.i64.wrap (x2 + (IntKind.i64.wrap (8 + (r4.1.length : Int)))))) else none) else T k x1 x2) else none) :
  ∀ (L : List (List Int)) (pre t : List Int) (x1 : List (List Int)) (r : β), b = pre ++ (jf L ++ t) → nx t = none → (∀ a ∈ L, a.length < 4294967296) → x1.length ≤ pre.length →
   Evt (fun k => T k (x1 ++ L) (((pre ++ jf L).length : Nat) : Int)) r → Evt (fun k => S k x1 (pre.length : Int)) r
 | [], pre, t, x1, r, he, ht, hL, hx, h => by
  have hlen : b.length = pre.length + t.length := by rw [he]; simp [jf]
  have hs : sub b (pre.length : Int) (b.length : Int) = t := by rw [sub_all, he, List.drop_left]; simp [jf]
  have hut : U8s t := fun x hx => hu x (by rw [he]; simp [hx])
  obtain ⟨w, hw, _⟩ := next_ev t hut (by omega)
  refine Evt.succ (fun k => hS k _ _) (Evt.pos (by rw [decide_eq_true_eq]; omega) ?_)
  rw [hs]
  refine Evt.bind hw ?_
  rw [ht]
  refine Evt.neg (by simp) ?_
  simpa [jf] using h
 | a :: L, pre, t, x1, r, he, ht, hL, hx, h => by
  have hlen : b.length = pre.length + ((8 + a.length) + (jf L).length + t.length) := by rw [he]; simp [jf_cons, frm_len]; omega
  have hs : sub b (pre.length : Int) (b.length : Int) = frm a ++ (jf L ++ t) := by rw [sub_all, he, List.drop_left, jf_cons, List.append_assoc]
  have hut : U8s (frm a ++ (jf L ++ t)) := fun x hx => hu x (by rw [he, jf_cons]; simp only [List.mem_append] at hx ⊢; rcases hx with h | h | h <;> simp [h])
  obtain ⟨w, hw, hw2⟩ := next_ev _ hut (by simp only [List.length_append, frm_len]; omega)
  have hn := nx_frm a (jf L ++ t) (hL a (by simp))
  have := hw2 a hn
  subst this
  rw [hn] at hw
  refine Evt.succ (fun k => hS k _ _) (Evt.pos (by rw [decide_eq_true_eq]; omega) ?_)
  rw [hs]
  refine Evt.bind hw (Evt.pos rfl (Evt.pos (by rw [decide_eq_true_eq]; simp only [List.length_cons, List.length_nil]; omega) ?_))
  have e : IntKind.i64.wrap ((pre.length : Int) + (IntKind.i64.wrap (8 + (w.length : Int)))) = (((pre ++ frm w).length : Nat) : Int) := by
   rw [wrap_i64 (n := 8 + (w.length : Int)) (by omega) (by omega), wrap_i64 (by omega) (by omega), List.length_append, frm_len]; omega
  show Evt (fun k => S k (x1 ++ [w]) (IntKind.i64.wrap ((pre.length : Int) + (IntKind.i64.wrap (8 + (w.length : Int)))))) r
  rw [e]
  refine scan_gen hu hb hS L (pre ++ frm w) t (x1 ++ [w]) r (by rw [he, jf_cons]; simp) ht (fun x hx => hL x (by simp [hx])) (by simp only [List.length_append, List.length_cons, List.length_nil, frm_len]; omega) ?_
  rw [List.append_assoc, List.append_assoc, ← jf_cons]
  exact h
end Go.Abs.GenK
