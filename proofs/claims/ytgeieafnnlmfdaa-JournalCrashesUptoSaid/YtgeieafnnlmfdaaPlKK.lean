import Derived.Test.YtgeieafnnlmfdaaPlKJ
set_option linter.unusedVariables false
set_option linter.unusedSimpArgs false
set_option maxRecDepth 100000
set_option maxHeartbeats 4000000
namespace Go.Abs.GenK
open Go.Abs
theorem take700 {v : List Int} (h : U8s v) : U8s (v.take 700) ∧ (v.take 700).length ≤ 700 := ⟨fun x hx => h x (List.mem_of_mem_take hx), by rw [List.length_take]; omega⟩
theorem l0_ev {a0 : List (List Int)} (h0 : ∀ a ∈ a0, U8s a) (hn : a0.length < 9223372036854775807) {a1 : List Int} (h1 : U8s a1) (a2 : Bool) (a3 : Int) (a4 : List Int) (a5 : Int) (a6 : List Int) : ∀ n i (l : List (List Int)), a0.length - i = n → i ≤ a0.length → Ok8 l → l.length ≤ i →
  Evt (fun k => dossierlaw04_JournalCrashes.l0 k (d1 R0 (jf ([115] :: l)) ((jf ([115] :: l)).length : Int) false).room (d1 R0 (jf ([115] :: l)) ((jf ([115] :: l)).length : Int) false).used (d1 R0 (jf ([115] :: l)) ((jf ([115] :: l)).length : Int) false).dead [115] false (d1 R0 (jf ([115] :: l)) ((jf ([115] :: l)).length : Int) false).files l (i : Int) a0 a1 a2 a3 a4 a5 a6) true
 | 0, i, l, hz, hi, hl, hli => by
  have h8 := hl.2
  obtain ⟨ub, lb⟩ := take700 h1
  have hp := mod_small a3 6 (by omega)
  have hrl : ∀ x ∈ l, x.length ≤ 1000000000000 := fun x hx => by have := (hl.1 x hx).2; omega
  have e5 : (([] : List (List Int)).length + l.length ≤ 5864062014805) := by simp only [List.length_nil]; omega
  have e6 : (l.length + ([a1.take 700] : List (List Int)).length ≤ 5864062014805) := by simp only [List.length_cons, List.length_nil]; omega
  refine Evt.succ (fun k => by rw [dossierlaw04_JournalCrashes.l0]) (Evt.neg (by rw [decide_eq_true_eq]; omega) ?_)
  refine Evt.bind (recsF_ev (⟨(), [115], l, false⟩ : Jn) _ (by show l.length ≤ _; omega) hrl) ?_
  refine Evt.bind (snapF_ev (⟨(), [115], l, false⟩ : Jn) _ (by show (1 : Nat) ≤ _; omega)) ?_
  refine Evt.bind (fuse_ev (d1 R0 (jf ([115] :: l)) ((jf ([115] :: l)).length : Int) false) hp.1) ?_
  refine Evt.pos (take_ok a1) ?_
  rw [take_ev]
  refine Evt.pos (by rw [decide_eq_true_eq]; exact e5) (Evt.pos (by rw [decide_eq_true_eq]; exact e6) ?_)
  cases a2 with
  | true =>
   refine Evt.pos rfl ?_
   exact com_ev hl ub lb a4 a5 a6 _ _ _ hp (fun k r25 => dossierlaw04_JournalCrashes.j1 k r25.2.2.1.room r25.2.2.1.used r25.2.2.1.dead ([] : List (List Int)) r25.2.2.1.files r25.2.2.2 r25.1 (a1.take 700) a4 a5 a6 (l, (⟨(), [115], l, false⟩ : Jn)) ([115], (⟨(), [115], l, false⟩ : Jn))) (fun _ _ _ _ h => h)
  | false =>
   refine Evt.neg (by decide) ?_
   by_cases hb : 0 < (a1.take 700).length
   ·exact app_ev hl ub lb a4 a5 a6 _ _ _ hp hb (β := Unit) (fun k r26 => dossierlaw04_JournalCrashes.j1 k r26.2.2.1.room r26.2.2.1.used r26.2.2.1.dead (l ++ [a1.take 700]) r26.2.2.1.files r26.2.2.2 r26.1 [115] a4 a5 a6 (l, (⟨(), [115], l, false⟩ : Jn)) ([115], (⟨(), [115], l, false⟩ : Jn))) (fun _ _ _ _ h => h)
   ·have hz : a1.take 700 = [] := List.eq_nil_of_length_eq_zero (by omega)
    rw [hz]
    refine Evt.bind (appendF_none hp) ?_
    have := same_ev hl (b := []) (fun x hx => by cases hx) (by simp) a4 a5 a6 (⟨(), [115], l, false⟩ : Jn) (⟨(), [115], l, false⟩ : Jn) false (IntKind.i64.wrap (Int.tmod (IntKind.u64.wrap a3) 6)) 1 (l ++ [[]]) [115] u115 (nowU hl (fun x hx => by cases hx) (by simp)) (.inr rfl)
    exact this
 | n + 1, i, l, hz, hi, hl, hli => by
  have hlt : i < a0.length := by omega
  have h8 := hl.2
  refine Evt.succ (fun k => by rw [dossierlaw04_JournalCrashes.l0]) (Evt.pos (by rw [decide_eq_true_eq]; omega) (Evt.some_bind (rd_lt hlt) ?_))
  obtain ⟨ub, lb⟩ := take700 (h0 _ (List.getElem_mem hlt))
  by_cases h : (i : Int) < 8
  ·refine Evt.pos (by rw [decide_eq_true_eq]; exact h) (Evt.pos (take_ok _) ?_)
   rw [take_ev, wrap_nat (by omega)]
   by_cases hb : 0 < (a0[i].take 700).length
   ·refine Evt.bind (append_ev (R := R0) (snap := [115]) (l := l) (hl.fits lb) hb (by omega)) ?_
    rw [← jf_more]
    exact l0_ev h0 hn h1 a2 a3 a4 a5 a6 n (i + 1) (l ++ [a0[i].take 700]) (by omega) (by omega) ⟨fun a ha => by
     rcases List.mem_append.mp ha with ha | ha
     ·exact hl.1 a ha
     ·rw [List.mem_singleton] at ha; subst ha; exact ⟨ub, lb⟩, by simp only [List.length_append, List.length_cons, List.length_nil]; omega⟩ (by simp only [List.length_append, List.length_cons, List.length_nil]; omega)
   ·have hz' : a0[i].take 700 = [] := List.eq_nil_of_length_eq_zero (by omega)
    rw [hz']
    refine Evt.bind append_none ?_
    exact l0_ev h0 hn h1 a2 a3 a4 a5 a6 n (i + 1) l (by omega) (by omega) hl (by omega)
  ·refine Evt.neg (by rw [decide_eq_true_eq]; exact h) ?_
   rw [wrap_nat (by omega)]
   exact l0_ev h0 hn h1 a2 a3 a4 a5 a6 n (i + 1) l (by omega) (by omega) hl (by omega)
theorem crashes_true (a0 : List (List Int)) (a1 : List Int) (a2 : Bool) (a3 : Int) (a4 : List Int) (a5 : Int) (a6 : List Int) (h0 : ∀ a ∈ a0, U8s a) (hn : a0.length < 9223372036854775807) (h1 : U8s a1) : ∃ k, dossierlaw04_JournalCrashes.f k a0 a1 a2 a3 a4 a5 a6 = some true := by
 have e1 : ∀ k, vdisk_New.f k 1048576 = some (d0 R0, 0) := fun k => rfl
 have hop := open0_ev (R := R0) (b := [115]) (by simp [R0]) (by unfold R0; omega)
 have : Evt (fun k => dossierlaw04_JournalCrashes.f k a0 a1 a2 a3 a4 a5 a6) true := by
  simp only [dossierlaw04_JournalCrashes.f, e1, Option.bind_some]
  refine Evt.neg (by decide) (hop.bind (Evt.neg (by simp) ?_))
  have := l0_ev h0 hn h1 a2 a3 a4 a5 a6 a0.length 0 [] (by omega) (by omega) ⟨(fun a ha => by cases ha), by simp⟩ (by simp)
  rw [jf_one] at this
  exact this
 exact this.get
end Go.Abs.GenK
