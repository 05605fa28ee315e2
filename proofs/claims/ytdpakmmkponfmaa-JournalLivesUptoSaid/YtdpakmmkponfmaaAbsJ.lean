import Derived.Test.YtdpakmmkponfmaaAbsI
import Derived.Lib.ConvBytes
set_option linter.unusedVariables false
set_option linter.unusedSimpArgs false
namespace Go.Abs

def lenD : D → Option Nat
 | .one (.own _ _ n _) => some n
 | .one (.p _ (.sl n _)) => some n
 | .one (.p _ (.v (.slice none 0 0))) => some 0
 | .one (.p _ (.v (.string s))) => some s.size
 | _ => none

/-- a bound of a slice expression. -/
inductive IsB (st : St) : Option Operand → Nat → Nat → Prop
 | no {d : Nat} : IsB st none d d
 | yes {y : Operand} {d v : Nat} {f : Bool} {k : IntKind} {i : Int} (h : st.val y = .one (.p f (.v (.int k i)))) (h0 : 0 ≤ i) (hv : i.toNat = v) : IsB st (some y) d v

section
variable {pr : Program} {x : Ctx} {K : Exit → St → Prop} {st : St} {a : Act} {w : World} {S : Nat → Prop} {g : G}
variable {ops : Array Oper} {rest : List Oper} {dst : Option Tmp} {ty : TypeId} {pos : String} {aft : Array Edge}

/-- a slice's value. -/
theorem DRel.slice {v : Value} {d : D} (hv : DRel w S x.base g v d) {n : Nat} (h : lenD d = some n) (hs : ∀ f s, d ≠ .one (.p f (.v (.string s)))) : ∃ ad cap, v = .slice ad n cap ∧ n ≤ cap ∧ (0 < n → ad.isNone = false) := by
 match d, h with
 | .one (.own o off n sz), h =>
  cases h
  cases hv with
  | t hv =>
   cases hv with
   | one hv => cases hv with
    | own hg hn hN => exact ⟨_, _, rfl, hn, fun _ => rfl⟩
    | own0 ad hg => exact ⟨_, _, rfl, Nat.le_refl _, fun h => absurd h (by omega)⟩
 | .one (.p _ (.sl n cs)), h =>
  cases h
  cases hv with
  | t hv =>
   cases hv with
   | one hv => cases hv with
    | p hv => cases hv with
     | nil ad cap => exact ⟨_, _, rfl, by omega, fun h => absurd h (by omega)⟩
     | sl b o n cap cs us hb hn hc hr => exact ⟨_, _, rfl, hn, fun _ => rfl⟩
 | .one (.p f (.v (.string s))), h => exact absurd rfl (hs f s)
 | .one (.p f (.v (.slice none 0 0))), h => cases h; obtain rfl := hv.of_v; exact ⟨_, _, rfl, Nat.le_refl _, fun h => absurd h (by omega)⟩

theorem s_len {t : TypeId} {dt : TypeDesc} {y : Operand} {n : Nat} (ht : pr.underlying t = some dt) (hd : lenD (st.val y) = some n)
  (hk : ((∃ f s, st.val y = .one (.p f (.v (.string s)))) ∧ dt = .string) ∨ ((∀ f s, st.val y ≠ .one (.p f (.v (.string s)))) ∧ ∃ e, dt = .slice e))
  (k : AWops pr x ops rest K (st.put dst (sc (.int .i64 n)))) : AWops pr x ops (⟨dst, .call { callee := .builtin .len, args := #[y], argTypes := #[t] }, ty, pos, aft, none⟩ :: rest) K st :=
 AWops.pure _ (fun a w S g hs => by
  refine ⟨.int .i64 n, ?_, .sc _ rfl⟩
  rcases hk with ⟨⟨f, s, hy⟩, rfl⟩ | ⟨hy, e, rfl⟩
  ·have e1 := (hy ▸ hs.val y).of_v
   rw [hy] at hd
   cases hd
   simp [execOp, resolve, invoke, builtin, e1, Builtin.len_, run_underlying ht, goInt]
  ·obtain ⟨ad, cap, e1, _, _⟩ := (hs.val y).slice hd hy
   simp [execOp, resolve, invoke, builtin, e1, Builtin.len_, run_underlying ht, goInt]) k

theorem s_eqNil {t t' e : TypeId} {y z : Operand} {n : Nat} {f : Bool} {op : BinOp} (ht : pr.underlying t = some (.slice e)) (hd : lenD (st.val y) = some n) (hy : ∀ f s, st.val y ≠ .one (.p f (.v (.string s))))
  (hz : st.val z = .one (.p f (.v (.slice none 0 0)))) (hop : op = .eql ∨ op = .neq)
  (k : ∀ b : Bool, (0 < n → b = false) → AWops pr x ops rest K (st.put dst (sc (.bool (if op = .eql then b else !b))))) : AWops pr x ops (⟨dst, .binOp op t y z t', ty, pos, aft, none⟩ :: rest) K st :=
 AWops.of_run rfl (fun a w S g hs => by
  obtain ⟨ad, cap, e1, _, h0⟩ := (hs.val y).slice hd hy
  have e2 := (hz ▸ hs.val z).of_v
  refine ⟨_, w, _, S, g, ?_, hs.put dst (.sc (.bool (if op = .eql then ad.isNone else !ad.isNone)) rfl), k ad.isNone h0⟩
  rcases hop with rfl | rfl
  ·have h1 : (binOp .eql t (.slice ad n cap) (.slice none 0 0)).run pr w = .ok (.bool ad.isNone) w := by
    simp only [binOp]
    simp [run_equal_slice_nil w t e ad n cap ht]
   simp only [execOp, e1, e2, eqGuard, Sem.run_bind]
   simp [h1]
  ·have h1 := run_neq_slice_nil (P := pr) w t e ad n cap ht
   simp only [execOp, e1, e2, eqGuard, Sem.run_bind]
   simp [h1]) 

/-- a pointer against nil. -/
theorem s_ptrNil {t t' e : TypeId} {y z : Operand} {f : Bool} {op : BinOp} {b : Bool} (ht : pr.underlying t = some (.pointer e)) (hz : st.val z = .one (.p f (.v (.pointer none))))
  (hy : ((∃ o off, st.val y = .one (.ref o off)) ∧ b = false) ∨ ((∃ f, st.val y = .one (.p f (.v (.pointer none)))) ∧ b = true)) (hop : op = .eql ∨ op = .neq)
  (k : AWops pr x ops rest K (st.put dst (sc (.bool (if op = .eql then b else !b))))) : AWops pr x ops (⟨dst, .binOp op t y z t', ty, pos, aft, none⟩ :: rest) K st :=
 AWops.pure _ (fun a w S g hs => by
  have e2 := (hz ▸ hs.val z).of_v
  have hpt : pr.underlying t = some (.pointer (pr.pointee t)) := by simp [Program.pointee, ht]
  obtain ⟨q, e1, hq⟩ : ∃ q : Option Addr, a.eval y = .pointer q ∧ q.isNone = b := by
   rcases hy with ⟨⟨o, off, hy⟩, rfl⟩ | ⟨⟨f, hy⟩, rfl⟩
   ·have h := hy ▸ hs.val y
    generalize a.eval y = q at h
    cases h with | t h => cases h with | one h => cases h with | ref hg ho => exact ⟨_, rfl, rfl⟩
   ·exact ⟨none, (hy ▸ hs.val y).of_v, rfl⟩
  subst hq
  refine ⟨_, ?_, .sc (.bool (if op = .eql then q.isNone else !q.isNone)) rfl⟩
  rcases hop with rfl | rfl
  ·have h1 := run_eql_pointer_nil (P := pr) w t q hpt
   simp only [execOp, e1, e2, eqGuard, Sem.run_bind]
   simp [h1]
  ·have h1 := run_neq_pointer_nil (P := pr) w t q hpt
   simp only [execOp, e1, e2, eqGuard, Sem.run_bind]
   simp [h1]) k

theorem IsB.run (hs : Sim x st a w S g) {o : Option Operand} {d v : Nat} (h : IsB st o d v) :
  (o = none ∧ v = d) ∨ ∃ y k i, o = some y ∧ a.eval y = .int k i ∧ 0 ≤ i ∧ i.toNat = v := by
 cases h with
 | no => exact .inl ⟨rfl, rfl⟩
 | @yes y _ _ f k i h h0 hv => exact .inr ⟨y, k, i, rfl, (h ▸ hs.val y).of_v, h0, hv⟩

theorem run_bound {pr : Program} {w : World} {k : IntKind} {i : Int} {y : Nat} {code : BoundsCode} (h0 : 0 ≤ i) (h1 : i.toNat ≤ y) : (Instr.sliceBound (.int k i) y code).run pr w = .ok i.toNat w := by
 simp only [Instr.sliceBound, asIntOf, Sem.run_bind]
 have : i ≤ (y : Int) := by omega
 simp [h0, this]

theorem run_bounds2 (hs : Sim x st a w S g) {lo hi : Option Operand} {l h len cap : Nat} (hlo : IsB st lo 0 l) (hhi : IsB st hi len h) (hlh : l ≤ h) (hhc : h ≤ cap) (isS : Bool) :
  (Instr.sliceBounds isS len cap (lo.map a.eval) (hi.map a.eval) none).run pr w = .ok (l, h, cap) w := by
 rcases hlo.run hs with ⟨rfl, rfl⟩ | ⟨y, k, i, rfl, e1, h1, rfl⟩ <;> rcases hhi.run hs with ⟨rfl, rfl⟩ | ⟨z, k', i', rfl, e2, h2, rfl⟩
 ·simp [Instr.sliceBounds]
 ·simp [Instr.sliceBounds, e2, run_bound h2 hhc]
 ·simp [Instr.sliceBounds, e1, run_bound h1 hlh]
 ·simp [Instr.sliceBounds, e1, e2, run_bound h1 hlh, run_bound h2 hhc]

theorem s_sliceStr {t : TypeId} {y : Operand} {lo hi : Option Operand} {l h : Nat} {s : ByteArray} {f : Bool} (ht : pr.underlying t = some .string) (hy : st.val y = .one (.p f (.v (.string s))))
  (hlo : IsB st lo 0 l) (hhi : IsB st hi s.size h) (hlh : l ≤ h) (hhs : h ≤ s.size) (k : AWops pr x ops rest K (st.put dst (sc (.string (s.extract l h))))) :
  AWops pr x ops (⟨dst, .slice t y lo hi none, ty, pos, aft, none⟩ :: rest) K st :=
 AWops.pure _ (fun a w S g hs => by
  have e1 := (hy ▸ hs.val y).of_v
  refine ⟨_, ?_, .sc (.string (s.extract l h)) rfl⟩
  have hb := run_bounds2 (pr := pr) hs hlo hhi hlh hhs false
  simp [execOp, e1, Instr.sliceAt, Instr.slice, run_underlying ht, hb]) k

theorem s_sliceImm {t e : TypeId} {y : Operand} {lo hi : Option Operand} {l h n sz : Nat} {cs ps : List P} {f : Bool} (ht : pr.underlying t = some (.slice e)) (hsz : szOf pr e = some sz)
  (hy : st.val y = .one (.p f (.sl n cs))) (hlo : IsB st lo 0 l) (hhi : IsB st hi n h) (hlh : l ≤ h) (hhn : h ≤ n) (hps : (cs.drop (l * sz)).take ((h - l) * sz) = ps)
  (k : AWops pr x ops rest K (st.put dst (.one (.p f (.sl (h - l) ps))))) : AWops pr x ops (⟨dst, .slice t y lo hi none, ty, pos, aft, none⟩ :: rest) K st :=
 AWops.pure _ (fun a w S g hs => by
  subst hps
  have hv := hy ▸ hs.val y
  generalize hq : a.eval y = q at hv
  have fin : ∀ ad cap, q = .slice ad n cap → n ≤ cap → (execOp a.eval ⟨dst, .slice t y lo hi none, ty, pos, aft, none⟩).run pr w = .ok (.value (.slice (if cap = l then ad else ad.map (·.add (l * sz))) (h - l) (cap - l))) w := by
   rintro ad cap rfl hc
   have hb := run_bounds2 (pr := pr) hs hlo hhi hlh (show h ≤ cap by omega) true
   simp [execOp, hq, Instr.sliceAt, Instr.slice, run_underlying ht, hb, run_size hsz]
  cases hv with
  | t hv => cases hv with
   | one hv => cases hv with
    | p hv =>
     by_cases h0 : h - l = 0
     ·cases hv with
      | nil ad cap => exact ⟨_, fin _ _ rfl (by omega), by rw [h0]; simp; exact .t (.one (.p (.nil _ _)))⟩
      | sl b o n cap cs us hb hn hc hr => exact ⟨_, fin _ _ rfl hn, by rw [h0]; simp; exact .t (.one (.p (.nil _ _)))⟩
     ·cases hv with
      | nil ad cap => omega
      | sl b o n cap cs us hb hn hc hr =>
       refine ⟨_, fin _ _ rfl hn, ?_⟩
       rw [if_neg (by omega)]
       simp only [Option.map_some, add_addr]
       refine .t (.one (.p (.sl b (o + l * sz) _ _ _ (fun j => us (l * sz + j)) hb (by omega) ?_ ?_)))
       ·intro j hj
        simp at hj
        rw [show o + l * sz + j = o + (l * sz + j) by omega]
        exact hc _ (by omega)
       ·intro j hj
        simp at hj
        have := hr (l * sz + j) (by omega)
        simpa using this) k

/-- the front of a row of the call's own; or a piece that is not empty. -/
theorem s_sliceOwn {t e : TypeId} {y : Operand} {lo hi : Option Operand} {l h o off n sz : Nat} {d : D} (ht : pr.underlying t = some (.slice e)) (hsz : szOf pr e = some sz)
  (hy : st.val y = .one (.own o off n sz)) (hlo : IsB st lo 0 l) (hhi : IsB st hi n h) (hlh : l ≤ h) (hhn : h ≤ n) (hl : l = 0 ∨ l < h) (hd : .one (.own o (off + l * sz) (h - l) sz) = d)
  (k : AWops pr x ops rest K (st.put dst d)) : AWops pr x ops (⟨dst, .slice t y lo hi none, ty, pos, aft, none⟩ :: rest) K st :=
 AWops.pure _ (fun a w S g hs => by
  subst hd
  have hv := hy ▸ hs.val y
  generalize hq : a.eval y = q at hv
  have fin : ∀ ad cap, q = .slice ad n cap → n ≤ cap → (execOp a.eval ⟨dst, .slice t y lo hi none, ty, pos, aft, none⟩).run pr w = .ok (.value (.slice (if cap = l then ad else ad.map (·.add (l * sz))) (h - l) (cap - l))) w := by
   rintro ad cap rfl hc
   have hb := run_bounds2 (pr := pr) hs hlo hhi hlh (show h ≤ cap by omega) true
   simp [execOp, hq, Instr.sliceAt, Instr.slice, run_underlying ht, hb, run_size hsz]
  cases hv with
  | t hv => cases hv with
   | one hv => cases hv with
    | @own _ b N _ _ cap _ hg hn hN =>
     refine ⟨_, fin _ _ rfl hn, ?_⟩
     have hle : N.o + (off + l * sz) + (cap - l) * sz ≤ N.n := by
      have : l * sz + (cap - l) * sz = cap * sz := by rw [← Nat.add_mul, show l + (cap - l) = cap by omega]
      omega
     rcases hl with rfl | hl
     ·by_cases hc0 : cap = 0
      ·rw [if_pos hc0]
       have := CRel.own (w := w) (S := S) (base := x.base) (g := g) (t := o) (b := b) (N := N) (off := off + 0 * sz) (n := h - 0) (cap := cap - 0) (sz := sz) hg (by omega) hle
       simp only [Nat.zero_mul, Nat.add_zero] at this ⊢
       exact .t (.one this)
      ·rw [if_neg hc0]
       simp only [Option.map_some, add_addr, Nat.add_assoc N.o]
       exact .t (.one (.own hg (by omega) hle))
     ·rw [if_neg (by omega)]
      simp only [Option.map_some, add_addr, Nat.add_assoc N.o]
      exact .t (.one (.own hg (by omega) hle))
    | own0 ad hg =>
     obtain rfl : h = 0 := by omega
     obtain rfl : l = 0 := by omega
     refine ⟨_, fin _ _ rfl (Nat.le_refl _), ?_⟩
     rw [if_pos rfl]
     simp only [Nat.zero_mul, Nat.add_zero]
     exact .t (.one (.own0 ad hg))) k

/-- an empty piece: nothing to write into. -/
theorem s_sliceEmpty {t e : TypeId} {y : Operand} {lo hi : Option Operand} {l n sz : Nat} (ht : pr.underlying t = some (.slice e)) (hsz : szOf pr e = some sz)
  (hy : lenD (st.val y) = some n) (hys : ∀ f s, st.val y ≠ .one (.p f (.v (.string s)))) (hlo : IsB st lo 0 l) (hhi : IsB st hi n l) (hln : l ≤ n)
  (k : AWops pr x ops rest K (st.put dst (.one (.p false (.sl 0 []))))) : AWops pr x ops (⟨dst, .slice t y lo hi none, ty, pos, aft, none⟩ :: rest) K st :=
 AWops.pure _ (fun a w S g hs => by
  obtain ⟨ad, cap, e1, hc, _⟩ := (hs.val y).slice hy hys
  have hb := run_bounds2 (pr := pr) hs hlo hhi (Nat.le_refl l) (show l ≤ cap by omega) true
  refine ⟨.slice (if cap = l then ad else ad.map (·.add (l * sz))) (l - l) (cap - l), by simp [execOp, e1, Instr.sliceAt, Instr.slice, run_underlying ht, hb, run_size hsz], ?_⟩
  rw [Nat.sub_self]
  exact .t (.one (.p (.nil _ _)))) k

/-- 's[:0:0]': a row of the call's own, of nothing. -/
theorem s_slice00 {t e : TypeId} {y y0 y1 : Operand} {n sz : Nat} {k0 k1 : IntKind} {f0 f1 : Bool} (ht : pr.underlying t = some (.slice e)) (hsz : szOf pr e = some sz)
  (hy : lenD (st.val y) = some n) (hys : ∀ f s, st.val y ≠ .one (.p f (.v (.string s)))) (h0 : st.val y0 = .one (.p f0 (.v (.int k0 0)))) (h1 : st.val y1 = .one (.p f1 (.v (.int k1 0))))
  (k : AWops pr x ops rest K ((st.heap (st.H ++ [some (.cells true [])])).put dst (.one (.own st.H.length 0 0 sz)))) :
  AWops pr x ops (⟨dst, .slice t y none (some y0) (some y1), ty, pos, aft, none⟩ :: rest) K st :=
 AWops.of_run rfl (fun a w S g hs => by
  obtain ⟨ad, cap, e1, hc, _⟩ := (hs.val y).slice hy hys
  have e2 := (h0 ▸ hs.val y0).of_v
  have e3 := (h1 ▸ hs.val y1).of_v
  refine ⟨.slice (if (0 : Nat) = 0 then ad else ad.map (·.add (0 * sz))) 0 0, w, _, S, _, ?_, hs.newNone.put dst (.t (.one (.own0 _ gnew_at))), k⟩
  have hb : ∀ y, (Instr.sliceBound (.int k0 0) y .slice3B).run pr w = .ok 0 w := fun y => run_bound (i := 0) (by omega) (by simp)
  have hb2 : ∀ y, (Instr.sliceBound (.int k1 0) y .slice3Acap).run pr w = .ok 0 w := fun y => run_bound (i := 0) (by omega) (by simp)
  simp [execOp, e1, e2, e3, Instr.sliceAt, Instr.slice, run_underlying ht, Instr.sliceBounds, hb, hb2, run_size hsz])

/-- 'b[:n:n]' of what nobody writes. -/
theorem s_slice3Imm {t e : TypeId} {y y0 y1 : Operand} {n h sz : Nat} {k0 k1 : IntKind} {f0 f1 f : Bool} {i : Int} {cs ps : List P} (ht : pr.underlying t = some (.slice e)) (hsz : szOf pr e = some sz)
  (hy : st.val y = .one (.p f (.sl n cs))) (h0 : st.val y0 = .one (.p f0 (.v (.int k0 i)))) (h1 : st.val y1 = .one (.p f1 (.v (.int k1 i)))) (hi0 : 0 ≤ i) (hi : i.toNat = h) (hhn : h ≤ n)
  (hps : cs.take (h * sz) = ps) (k : AWops pr x ops rest K (st.put dst (.one (.p f (.sl h ps))))) :
  AWops pr x ops (⟨dst, .slice t y none (some y0) (some y1), ty, pos, aft, none⟩ :: rest) K st :=
 AWops.pure _ (fun a w S g hs => by
  subst hps hi
  have hv := hy ▸ hs.val y
  have e2 := (h0 ▸ hs.val y0).of_v
  have e3 := (h1 ▸ hs.val y1).of_v
  generalize hq : a.eval y = q at hv
  have fin : ∀ ad cap, q = .slice ad n cap → n ≤ cap → (execOp a.eval ⟨dst, .slice t y none (some y0) (some y1), ty, pos, aft, none⟩).run pr w = .ok (.value (.slice (if i.toNat = 0 then ad else ad.map (·.add (0 * sz))) i.toNat i.toNat)) w := by
   rintro ad cap rfl hc
   have hb : (Instr.sliceBound (.int k0 i) i.toNat .slice3B).run pr w = .ok i.toNat w := run_bound hi0 (Nat.le_refl _)
   have hb2 : (Instr.sliceBound (.int k1 i) cap .slice3Acap).run pr w = .ok i.toNat w := run_bound hi0 (by omega)
   simp [execOp, hq, e2, e3, Instr.sliceAt, Instr.slice, run_underlying ht, Instr.sliceBounds, hb, hb2, run_size hsz]
  cases hv with
  | t hv => cases hv with
   | one hv => cases hv with
    | p hv =>
     by_cases h0 : i.toNat = 0
     ·cases hv with
      | nil ad cap => exact ⟨_, fin _ _ rfl (by omega), by rw [h0]; simp; exact .t (.one (.p (.nil _ _)))⟩
      | sl b o n cap cs us hb hn hc hr => exact ⟨_, fin _ _ rfl hn, by rw [h0]; simp; exact .t (.one (.p (.nil _ _)))⟩
     ·cases hv with
      | nil ad cap => omega
      | sl b o n cap cs us hb hn hc hr =>
       refine ⟨_, fin _ _ rfl hn, ?_⟩
       rw [if_neg h0]
       simp only [Option.map_some, add_addr, Nat.zero_mul, Nat.add_zero]
       refine .t (.one (.p (.sl b o _ _ _ us hb (Nat.le_refl _) ?_ ?_)))
       ·intro j hj
        simp at hj
        exact hc _ (by omega)
       ·intro j hj
        simp at hj
        have := hr j (by omega)
        simpa using this) k

/-- a piece of an array in a block. -/
theorem s_sliceArr {t e : TypeId} {y : Operand} {lo hi : Option Operand} {l h o off n sz : Nat} {fr : Bool} {cs : List C} {d : D} (ht : pr.underlying t = some (.array n e)) (hsz : szOf pr e = some sz)
  (hy : st.val y = .one (.ref o off)) (hl0 : st.H[o]? = some (some (.cells fr cs))) (hoff : off + n * sz ≤ cs.length) (hlo : IsB st lo 0 l) (hhi : IsB st hi n h) (hlh : l ≤ h) (hhn : h ≤ n) (hl : l < n)
  (hd : .one (.own o (off + l * sz) (h - l) sz) = d)
  (k : AWops pr x ops rest K (st.put dst d)) : AWops pr x ops (⟨dst, .slice t y lo hi none, ty, pos, aft, none⟩ :: rest) K st :=
 AWops.pure _ (fun a w S g hs => by
  subst hd
  have hv := hy ▸ hs.val y
  generalize hq : a.eval y = q at hv
  cases hv with
  | t hv => cases hv with
   | one hv => cases hv with
    | @ref _ b N _ hg ho =>
     obtain ⟨_, arr, e', hblk, ha, hle, _⟩ := hs.row hl0 hg
     have hb := run_bounds2 (pr := pr) hs hlo hhi hlh hhn false
     refine ⟨.slice (some (if n = l then ⟨b, off, none⟩ else (⟨b, off, none⟩ : Addr).add (l * sz))) (h - l) (n - l), ?_, ?_⟩
     ·simp [execOp, hq, Instr.sliceAt, run_underlying ht, hb, run_size hsz, Instr.sureAddr]
     ·rw [if_neg (by omega), add_addr]
      have : l * sz + (n - l) * sz = n * sz := by rw [← Nat.add_mul, show l + (n - l) = n by omega]
      have h9 := CRel.own (w := w) (S := S) (base := x.base) (off := off + l * sz) (n := h - l) (cap := n - l) (sz := sz) hg (by omega) (by omega)
      rw [ho, Nat.zero_add] at h9
      exact .t (.one h9)) k
end
end Go.Abs
