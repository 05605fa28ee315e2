import Derived.Test.YtdpakmmkponfmaaAbsS
set_option linter.unusedVariables false
set_option linter.unusedSimpArgs false
namespace Go.Abs

/-! ### with fuel enough -/
/-- from some amount of fuel on. -/
def Evt {α : Type} (f : Nat → Option α) (r : α) : Prop := ∃ K, ∀ k, K ≤ k → f k = some r
theorem Evt.pure {α : Type} (r : α) : Evt (fun _ => some r) r := ⟨0, fun _ _ => rfl⟩
theorem Evt.succ {α : Type} {f g : Nat → Option α} {r : α} (h : ∀ k, f (k + 1) = g k) (hg : Evt g r) : Evt f r := by
 obtain ⟨K, hK⟩ := hg
 refine ⟨K + 1, fun k hk => ?_⟩
 cases k with
 | zero => omega
 | succ k => rw [h]; exact hK k (by omega)
theorem Evt.congr {α : Type} {f g : Nat → Option α} {r : α} (h : ∀ k, f k = g k) (hg : Evt g r) : Evt f r := by
 obtain ⟨K, hK⟩ := hg
 exact ⟨K, fun k hk => by rw [h]; exact hK k hk⟩
theorem Evt.bind {α β : Type} {f : Nat → Option α} {g : Nat → α → Option β} {a : α} {r : β} (hf : Evt f a) (hg : Evt (fun k => g k a) r) : Evt (fun k => (f k).bind (g k)) r := by
 obtain ⟨K, hK⟩ := hf
 obtain ⟨L, hL⟩ := hg
 refine ⟨max K L, fun k hk => ?_⟩
 show (f k).bind (g k) = some r
 rw [hK k (by omega)]
 exact hL k (by omega)
theorem Evt.map {α : Type} {f : Nat → Option α} {r : α} (hf : Evt f r) : Evt (fun k => (f k).bind fun x => some x) r := hf.bind (.pure r)
theorem Evt.some_bind {α β : Type} {x : Option α} {g : Nat → α → Option β} {a : α} {r : β} (hx : x = some a) (hg : Evt (fun k => g k a) r) : Evt (fun k => x.bind (g k)) r := by
 subst hx; exact hg
theorem Evt.pos {α : Type} {c : Prop} [Decidable c] {f g : Nat → Option α} {r : α} (hc : c) (h : Evt f r) : Evt (fun k => if c then f k else g k) r := h.congr fun k => if_pos hc
theorem Evt.neg {α : Type} {c : Prop} [Decidable c] {f g : Nat → Option α} {r : α} (hc : ¬ c) (h : Evt g r) : Evt (fun k => if c then f k else g k) r := h.congr fun k => if_neg hc
theorem Evt.ite {α : Type} {c : Prop} [Decidable c] {f g : Nat → Option α} {r s : α} (h1 : c → Evt f r) (h2 : ¬ c → Evt g s) : Evt (fun k => if c then f k else g k) (if c then r else s) := by
 by_cases hc : c
 ·rw [if_pos hc]; exact (h1 hc).pos hc
 ·rw [if_neg hc]; exact (h2 hc).neg hc
theorem Evt.iteD {α : Type} {c : Prop} [Decidable c] {f g : Nat → Option α} {r s : α} (h1 : c → Evt f r) (h2 : ¬ c → Evt g s) : Evt (fun k => if decide c = true then f k else g k) (if c then r else s) := by
 by_cases hc : c
 ·rw [if_pos hc]; exact (h1 hc).pos (by simpa using hc)
 ·rw [if_neg hc]; exact (h2 hc).neg (by simpa using hc)
theorem Evt.get {α : Type} {f : Nat → Option α} {r : α} (h : Evt f r) : ∃ k, f k = some r := by
 obtain ⟨K, hK⟩ := h
 exact ⟨K, hK K (Nat.le_refl _)⟩

/-! ### numbers -/
theorem wrap_i64 {n : Int} (h0 : -9223372036854775808 ≤ n) (h1 : n ≤ 9223372036854775807) : IntKind.i64.wrap n = n := by
 simp [IntKind.wrap, IntKind.bits, IntKind.signed]; omega
theorem wrap_u64 (n : Int) : IntKind.u64.wrap n = n % 18446744073709551616 := by simp [IntKind.wrap, IntKind.bits, IntKind.signed]
theorem wrap_u32 (n : Int) : IntKind.u32.wrap n = n % 4294967296 := by simp [IntKind.wrap, IntKind.bits, IntKind.signed]
theorem wrap_u8 (n : Int) : IntKind.u8.wrap n = n % 256 := by simp [IntKind.wrap, IntKind.bits, IntKind.signed]
theorem wrap_len {α : Type} {xs : List α} (h : xs.length < 9223372036854775807) : IntKind.i64.wrap ((xs.length : Int) + 1) = ((xs.length + 1 : Nat) : Int) := by
 rw [wrap_i64 (by omega) (by omega)]; rfl
theorem wrap_nat {n : Nat} (h : n < 9223372036854775807) : IntKind.i64.wrap ((n : Int) + 1) = ((n + 1 : Nat) : Int) := by
 rw [wrap_i64 (by omega) (by omega)]; rfl

/-! ### lists -/
theorem rd_nat {α : Type} (xs : List α) (n : Nat) : rd xs (n : Int) = xs[n]? := by simp [rd]
theorem rd_lt {α : Type} {xs : List α} {n : Nat} (h : n < xs.length) : rd xs (n : Int) = some xs[n] := by rw [rd_nat, List.getElem?_eq_getElem h]

/-- a loop over a list: 'for i, x := range xs': the state that is carried, the rest of the list. -/
theorem loop_evt {α σ β : Type} {xs : List α} {F : Nat → Int → σ → Option β} {G : Nat → Int → α → σ → Option β} {E : Nat → σ → Option β} (hn : xs.length < 9223372036854775807)
  (hF : ∀ k i s, F (k + 1) i s = if (decide (i < (xs.length : Int))) = true then ((rd xs i).bind fun v => G k i v s) else E k s)
  {P : Nat → σ → β → Prop} (he : ∀ s r, P xs.length s r → Evt (fun k => E k s) r)
  (hs : ∀ i (hi : i < xs.length) s r, P i s r → Evt (fun k => G k (i : Int) xs[i] s) r ∨ ∃ s', P (i + 1) s' r ∧ ∀ q, Evt (fun k => F k ((i + 1 : Nat) : Int) s') q → Evt (fun k => G k (i : Int) xs[i] s) q) :
  ∀ (n i : Nat) s r, xs.length - i = n → i ≤ xs.length → P i s r → Evt (fun k => F k (i : Int) s) r := by
 intro n
 induction n with
 | zero =>
  intro i s r h1 h2 h
  have : i = xs.length := by omega
  subst this
  refine Evt.succ (fun k => hF k _ s) (Evt.neg (by simp) (he s r h))
 | succ n ih =>
  intro i s r h1 h2 h
  have hi : i < xs.length := by omega
  refine Evt.succ (fun k => hF k _ s) (Evt.pos (by simpa using hi) (Evt.some_bind (rd_lt hi) ?_))
  rcases hs i hi s r h with h3 | ⟨s', h3, h4⟩
  ·exact h3
  ·exact h4 r (ih (i + 1) s' r (by omega) (by omega) h3)

/-- a loop over a list: 'for i, x := range xs': the rest of the list, the state that is carried. -/
theorem loop_suf {α σ β : Type} {xs : List α} {F : Nat → Int → σ → Option β} {G : Nat → Int → α → σ → Option β} {E : Nat → σ → Option β} (hn : xs.length < 9223372036854775807)
  (hF : ∀ k i s, F (k + 1) i s = if (decide (i < (xs.length : Int))) = true then ((rd xs i).bind fun v => G k i v s) else E k s)
  {Good : List α → σ → Prop} {R : List α → σ → β} (he : ∀ s, Good [] s → Evt (fun k => E k s) (R [] s))
  (hs : ∀ i v suf s, i < xs.length → xs[i]? = some v → Good (v :: suf) s → (∀ s', Good suf s' → Evt (fun k => F k (IntKind.i64.wrap ((i : Nat) + 1)) s') (R suf s')) → Evt (fun k => G k ((i : Nat) : Int) v s) (R (v :: suf) s)) :
  ∀ (suf pre : List α) s, xs = pre ++ suf → Good suf s → Evt (fun k => F k (pre.length : Int) s) (R suf s) := by
 intro suf
 induction suf with
 | nil =>
  intro pre s hx hg
  refine Evt.succ (fun k => hF k _ s) (Evt.neg ?_ (he s hg))
  simp [hx]
 | cons v suf ih =>
  intro pre s hx hg
  have hi : pre.length < xs.length := by rw [hx]; simp
  have hv : xs[pre.length]? = some v := by rw [hx]; simp
  refine Evt.succ (fun k => hF k _ s) (Evt.pos (by simpa using hi) (Evt.some_bind (by rw [rd_nat]; exact hv) ?_))
  refine hs pre.length v suf s hi hv hg fun s' hg' => ?_
  have := ih (pre ++ [v]) s' (by rw [hx]; simp) hg'
  rw [List.length_append] at this
  rw [wrap_nat (by omega)]
  exact this
theorem loop_all {α σ β : Type} {xs : List α} {F : Nat → Int → σ → Option β} {G : Nat → Int → α → σ → Option β} {E : Nat → σ → Option β} (hn : xs.length < 9223372036854775807)
  (hF : ∀ k i s, F (k + 1) i s = if (decide (i < (xs.length : Int))) = true then ((rd xs i).bind fun v => G k i v s) else E k s)
  {Good : List α → σ → Prop} {R : List α → σ → β} (he : ∀ s, Good [] s → Evt (fun k => E k s) (R [] s))
  (hs : ∀ i v suf s, i < xs.length → xs[i]? = some v → Good (v :: suf) s → (∀ s', Good suf s' → Evt (fun k => F k (IntKind.i64.wrap ((i : Nat) + 1)) s') (R suf s')) → Evt (fun k => G k ((i : Nat) : Int) v s) (R (v :: suf) s))
  (s : σ) (hg : Good xs s) : Evt (fun k => F k 0 s) (R xs s) := loop_suf hn hF he hs xs [] s rfl hg

/-! ### some answer -/
def Tot {α : Type} (f : Nat → Option α) : Prop := ∃ r, Evt f r
theorem Evt.tot {α : Type} {f : Nat → Option α} {r : α} (h : Evt f r) : Tot f := ⟨r, h⟩
theorem Tot.pure {α : Type} (r : α) : Tot (fun _ => some r) := ⟨r, .pure r⟩
theorem Tot.succ {α : Type} {f g : Nat → Option α} (h : ∀ k, f (k + 1) = g k) (hg : Tot g) : Tot f := let ⟨r, hr⟩ := hg; ⟨r, hr.succ h⟩
theorem Tot.congr {α : Type} {f g : Nat → Option α} (h : ∀ k, f k = g k) (hg : Tot g) : Tot f := let ⟨r, hr⟩ := hg; ⟨r, hr.congr h⟩
theorem Tot.bind {α β : Type} {f : Nat → Option α} {g : Nat → α → Option β} (hf : Tot f) (hg : ∀ a, Tot (fun k => g k a)) : Tot (fun k => (f k).bind (g k)) := by
 obtain ⟨a, ha⟩ := hf
 obtain ⟨r, hr⟩ := hg a
 exact ⟨r, ha.bind hr⟩
theorem Tot.some_bind {α β : Type} {x : Option α} {g : Nat → α → Option β} {a : α} (hx : x = some a) (hg : Tot (fun k => g k a)) : Tot (fun k => x.bind (g k)) := by
 subst hx; exact hg
theorem Tot.ite {α : Type} {c : Prop} [Decidable c] {f g : Nat → Option α} (h1 : Tot f) (h2 : Tot g) : Tot (fun k => if c then f k else g k) := by
 by_cases hc : c
 ·obtain ⟨r, hr⟩ := h1; exact ⟨r, hr.pos hc⟩
 ·obtain ⟨r, hr⟩ := h2; exact ⟨r, hr.neg hc⟩
theorem loop_tot {α σ β : Type} {xs : List α} {F : Nat → Int → σ → Option β} {G : Nat → Int → α → σ → Option β} {E : Nat → σ → Option β} (hn : xs.length < 9223372036854775807)
  (hF : ∀ k i s, F (k + 1) i s = if (decide (i < (xs.length : Int))) = true then ((rd xs i).bind fun v => G k i v s) else E k s)
  (he : ∀ s, Tot (fun k => E k s)) (hs : ∀ (i : Nat) v s, v ∈ xs → (∀ s', Tot (fun k => F k (IntKind.i64.wrap ((i : Nat) + 1)) s')) → Tot (fun k => G k ((i : Nat) : Int) v s)) (s : σ) : Tot (fun k => F k 0 s) := by
 have key : ∀ (suf pre : List α) s, xs = pre ++ suf → Tot (fun k => F k (pre.length : Int) s) := by
  intro suf
  induction suf with
  | nil =>
   intro pre s hx
   obtain ⟨r, hr⟩ := he s
   refine ⟨r, Evt.succ (fun k => hF k _ s) (Evt.neg ?_ hr)⟩
   simp [hx]
  | cons v suf ih =>
   intro pre s hx
   have hi : pre.length < xs.length := by rw [hx]; simp
   have hv : xs[pre.length]? = some v := by rw [hx]; simp
   obtain ⟨r, hr⟩ := hs pre.length v s (List.mem_of_getElem? hv) fun s' => by
    have := ih (pre ++ [v]) s' (by rw [hx]; simp)
    rw [List.length_append] at this
    rw [wrap_nat (by omega)]
    exact this
   exact ⟨r, Evt.succ (fun k => hF k _ s) (Evt.pos (by simpa using hi) (Evt.some_bind (by rw [rd_nat]; exact hv) hr))⟩
 exact key xs [] s rfl
end Go.Abs
