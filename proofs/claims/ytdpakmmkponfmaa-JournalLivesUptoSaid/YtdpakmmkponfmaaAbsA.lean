/-
 The abstract machine: what a frame and the blocks of a call hold, told as plain data; the relation to the world; the rules of control.
-/
import Derived.MapKept
import Derived.Test.YtdpakmmkponfmaaAbsGL
set_option linter.unusedVariables false
set_option linter.unusedSimpArgs false
namespace Go.Abs

/-- what one cell or slot may hold. -/
inductive C where
 | p (fr : Bool) (x : P)
 | own (t off n sz : Nat)
 | ref (t off : Nat)
 | er (t off : Nat)
 | cut (t off n sz : Nat)
 | opt (o : Bool) (t off : Nat)
 | peek (fr : Bool) (ps : List P)
 | mp (t : Nat)
 | clo (f : FuncId) (caps : List C)
 | top

inductive D where
 | one (c : C)
 | agg (cs : List C)
 | tup (ds : List D)

/-- an object of the call's: a row of cells, or a map. -/
inductive AObj where
 | cells (fr : Bool) (cs : List C)
 | map (fr : Bool) (es : List (Value × Bool × List P))

structure St where
 n : Nat
 fr : Nat → D
 H : List (Option AObj)

/-- a row in a block: how many cells the block has, and where the row begins. -/
structure RI where
 n : Nat
 o : Nat
instance : OfNat RI 0 := ⟨⟨0, 0⟩⟩
abbrev G := Nat → Option (Option (Nat × RI))

inductive PRel (w : World) (S : Nat → Prop) : Value → P → Prop
 | v (x : Value) (h : x.oneCell' = true) : PRel w S x (.v x)
 | nil (a : Option Addr) (cap : Nat) : PRel w S (.slice a 0 cap) (.sl 0 [])
 | sl (b o n cap : Nat) (cs : List P) (us : Nat → Value) (hb : S b) (hn : n ≤ cap)
   (hc : ∀ j, j < cs.length → w.cell? ⟨b, o + j, none⟩ = some (us j))
   (hr : ∀ j (h : j < cs.length), PRel w S (us j) (cs[j]'h)) : PRel w S (.slice (some ⟨b, o, none⟩) n cap) (.sl n cs)
 | fnil (m : Nat) (a : Option Addr) (cap : Nat) : PRel w S (.slice a 0 cap) (.fsl m 0 [])
 | fsl (m b o n cap : Nat) (cs : List P) (us : Nat → Value) (hb : S b) (hm : m ≤ b) (hz : ∃ arr e, w.heap[b]? = some (.cells arr e)) (hn : n ≤ cap)
   (hc : ∀ j, j < cs.length → w.cell? ⟨b, o + j, none⟩ = some (us j))
   (hr : ∀ j (h : j < cs.length), PRel w S (us j) (cs[j]'h)) : PRel w S (.slice (some ⟨b, o, none⟩) n cap) (.fsl m n cs)
 | fptr (m b o : Nat) (u : Value) (p : P) (hb : S b) (hm : m ≤ b) (hz : ∃ arr e, w.heap[b]? = some (.cells arr e)) (hc : w.cell? ⟨b, o, none⟩ = some u) (hr : PRel w S u p) : PRel w S (.pointer (some ⟨b, o, none⟩)) (.fptr m p)

theorem cell_of_heap {w w' : World} {b o : Nat} (h : w'.heap[b]? = w.heap[b]?) : w'.cell? ⟨b, o, none⟩ = w.cell? ⟨b, o, none⟩ := by
 simp only [World.cell?, h]

theorem PRel.mono {w w' : World} {S S' : Nat → Prop} (hS : ∀ b, S b → S' b ∧ w'.heap[b]? = w.heap[b]?) {x : Value} {c : P} (h : PRel w S x c) : PRel w' S' x c := by
 induction h with
 | v x h => exact .v x h
 | nil a cap => exact .nil a cap
 | sl b o n cap cs us hb hn hc hr ih =>
  exact .sl b o n cap cs us (hS b hb).1 hn (fun j hj => by rw [cell_of_heap (hS b hb).2]; exact hc j hj) ih
 | fnil m a cap => exact .fnil m a cap
 | fsl m b o n cap cs us hb hm hz hn hc hr ih =>
  exact .fsl m b o n cap cs us (hS b hb).1 hm (by rw [(hS b hb).2]; exact hz) hn (fun j hj => by rw [cell_of_heap (hS b hb).2]; exact hc j hj) ih
 | fptr m b o u p hb hm hz hc hr ih => exact .fptr m b o u p (hS b hb).1 hm (by rw [(hS b hb).2]; exact hz) (by rw [cell_of_heap (hS b hb).2]; exact hc) ih

theorem PRel.unf {w : World} {S : Nat → Prop} {x : Value} {m n : Nat} {cs : List P} (h : PRel w S x (.fsl m n cs)) : PRel w S x (.sl n cs) := by
 cases h with
 | fnil _ a cap => exact .nil a cap
 | fsl _ b o _ cap _ us hb hm hz hn hc hr => exact .sl b o n cap cs us hb hn hc hr
/-- S, and fresh where that is said. -/
def Sub (S : Nat → Prop) (base : Nat) (fr : Bool) (b : Nat) : Prop := S b ∧ (fr = true → base ≤ b)

theorem PRel.weak {w : World} {S S' : Nat → Prop} (hS : ∀ b, S b → S' b) {x : Value} {c : P} (h : PRel w S x c) : PRel w S' x c :=
 h.mono fun b hb => ⟨hS b hb, rfl⟩

inductive CRel (w : World) (S : Nat → Prop) (base : Nat) (g : G) : Value → C → Prop
 | p {fr : Bool} {x : Value} {c : P} (h : PRel w (Sub S base fr) x c) : CRel w S base g x (.p fr c)
 | own {t b : Nat} {N : RI} {off n cap sz : Nat} (hg : g t = some (some (b, N))) (hn : n ≤ cap) (hN : N.o + off + cap * sz ≤ N.n) :
   CRel w S base g (.slice (some ⟨b, N.o + off, none⟩) n cap) (.own t off n sz)
 | own0 {t sz : Nat} (a : Option Addr) (hg : g t = some none) : CRel w S base g (.slice a 0 0) (.own t 0 0 sz)
 | ref {t b : Nat} {N : RI} {off : Nat} (hg : g t = some (some (b, N))) (ho : N.o = 0) : CRel w S base g (.pointer (some ⟨b, off, none⟩)) (.ref t off)
 | er {t b : Nat} {N : RI} {off : Nat} (hg : g t = some (some (b, N))) : CRel w S base g (.pointer (some ⟨b, N.o + off, none⟩)) (.er t off)
 | cut {t b : Nat} {N : RI} {off o n cap sz : Nat} (hg : g t = some (some (b, N))) (hn : n ≤ cap) (hN : o + cap * sz ≤ N.n) (ho : n = 0 ∨ o = N.o + off) :
   CRel w S base g (.slice (some ⟨b, o, none⟩) n cap) (.cut t off n sz)
 | opt1 {t b : Nat} {N : RI} {off : Nat} (hg : g t = some (some (b, N))) (ho : N.o = 0) : CRel w S base g (.pointer (some ⟨b, off, none⟩)) (.opt true t off)
 | opt0 {t off : Nat} : CRel w S base g (.pointer none) (.opt false t off)
 | peek {fr : Bool} (b o : Nat) (ps : List P) (us : Nat → Value) (hb : Sub S base fr b)
   (hc : ∀ j, j < ps.length → w.cell? ⟨b, o + j, none⟩ = some (us j))
   (hr : ∀ j (h : j < ps.length), PRel w (Sub S base fr) (us j) (ps[j]'h)) : CRel w S base g (.pointer (some ⟨b, o, none⟩)) (.peek fr ps)
 | mp {t b : Nat} (hg : g t = some (some (b, 0))) : CRel w S base g (.map (some b)) (.mp t)
 | clo {f : FuncId} {caps : List C} (vs : List Value) (hs : vs.length = caps.length)
   (h : ∀ i (h : i < caps.length) (h' : i < vs.length), CRel w S base g (vs[i]'h') (caps[i]'h)) : CRel w S base g (.func (.func f) #[] vs.toArray) (.clo f caps)
 | top (x : Value) : CRel w S base g x .top

theorem CRel.own00 {w : World} {S : Nat → Prop} {base : Nat} {g : G} {t b k n cap sz : Nat} (hg : g t = some (some (b, ⟨k, 0⟩))) (hn : n ≤ cap) (hN : cap * sz ≤ k) : CRel w S base g (.slice (some ⟨b, 0, none⟩) n cap) (.own t 0 n sz) :=
 .own (N := ⟨k, 0⟩) (off := 0) hg hn (by simpa using hN)

def C.isTop : C → Bool
 | .top => true
 | _ => false

theorem PRel.one {w : World} {S : Nat → Prop} {x : Value} {c : P} (h : PRel w S x c) : x.oneCell' = true := by
 cases h <;> first | assumption | rfl

theorem CRel.oneCell {w : World} {S : Nat → Prop} {base : Nat} {g : G} {x : Value} {c : C} (h : CRel w S base g x c) (ht : c.isTop = false) : x.oneCell' = true := by
 cases h <;> first | (exact PRel.one (by assumption)) | rfl | cases ht

theorem CRel.mono {w w' : World} {S S' : Nat → Prop} {base : Nat} {g g' : G} (hS : ∀ b, S b → S' b ∧ w'.heap[b]? = w.heap[b]?)
  (hg : ∀ t x, g t = some x → g' t = some x) {x : Value} {c : C} (h : CRel w S base g x c) : CRel w' S' base g' x c := by
 induction h with
 | p h => exact .p (h.mono fun b hb => ⟨⟨(hS b hb.1).1, hb.2⟩, (hS b hb.1).2⟩)
 | own h hn hN => exact .own (hg _ _ h) hn hN
 | own0 a h => exact .own0 a (hg _ _ h)
 | ref h ho => exact .ref (hg _ _ h) ho
 | er h => exact .er (hg _ _ h)
 | cut h hn hN ho => exact .cut (hg _ _ h) hn hN ho
 | opt1 h ho => exact .opt1 (hg _ _ h) ho
 | opt0 => exact .opt0
 | peek b o ps us hb hc hr =>
  exact .peek b o ps us ⟨(hS b hb.1).1, hb.2⟩ (fun j hj => by rw [cell_of_heap (hS b hb.1).2]; exact hc j hj)
   (fun j hj => (hr j hj).mono fun b hb => ⟨⟨(hS b hb.1).1, hb.2⟩, (hS b hb.1).2⟩)
 | mp h => exact .mp (hg _ _ h)
 | clo vs hs _ ih => exact .clo vs hs ih
 | top x => exact .top x

inductive TRel (w : World) (S : Nat → Prop) (base : Nat) (g : G) : Value → D → Prop
 | one {x : Value} {c : C} (h : CRel w S base g x c) : TRel w S base g x (.one c)
 | agg {cs : List C} (vs : List Value) (hs : vs.length = cs.length)
   (h : ∀ i (h : i < cs.length) (h' : i < vs.length), CRel w S base g (vs[i]'h') (cs[i]'h)) : TRel w S base g (.agg vs.toArray) (.agg cs)

inductive DRel (w : World) (S : Nat → Prop) (base : Nat) (g : G) : Value → D → Prop
 | t {x : Value} {d : D} (h : TRel w S base g x d) : DRel w S base g x d
 | tup {ds : List D} (vs : List Value) (hs : vs.length = ds.length)
   (h : ∀ i (h : i < ds.length) (h' : i < vs.length), TRel w S base g (vs[i]'h') (ds[i]'h)) : DRel w S base g (.tuple vs.toArray) (.tup ds)

theorem TRel.mono {w w' : World} {S S' : Nat → Prop} {base : Nat} {g g' : G} (hS : ∀ b, S b → S' b ∧ w'.heap[b]? = w.heap[b]?)
  (hg : ∀ t x, g t = some x → g' t = some x) {x : Value} {c : D} (h : TRel w S base g x c) : TRel w' S' base g' x c := by
 cases h with
 | one h => exact .one (h.mono hS hg)
 | agg vs hs h => exact .agg vs hs fun i h1 h2 => (h i h1 h2).mono hS hg

theorem DRel.mono {w w' : World} {S S' : Nat → Prop} {base : Nat} {g g' : G} (hS : ∀ b, S b → S' b ∧ w'.heap[b]? = w.heap[b]?)
  (hg : ∀ t x, g t = some x → g' t = some x) {x : Value} {c : D} (h : DRel w S base g x c) : DRel w' S' base g' x c := by
 cases h with
 | t h => exact .t (h.mono hS hg)
 | tup vs hs h => exact .tup vs hs fun i h1 h2 => (h i h1 h2).mono hS hg

/-- an entry of a map. -/
def ERel (w : World) (S : Nat → Prop) (base : Nat) (fr : Bool) (e : MapEntry) (x : Value × Bool × List P) : Prop :=
 e.key = x.1 ∧ ∃ vs : List Value, (e.val = if x.2.1 then .agg vs.toArray else vs.getD 0 undef) ∧ (x.2.1 = false → vs.length = 1) ∧ vs.length = x.2.2.length ∧
  ∀ i (h : i < x.2.2.length) (h' : i < vs.length), PRel w (Sub S base fr) (vs[i]'h') (x.2.2[i]'h)

/-- a map from which nothing was taken away: the entries' stamps are their places. -/
def Exact (arr : Array MapEntry) (clock : Nat) : Prop := clock = arr.size ∧ ∀ i (h : i < arr.size), (arr[i]'h).born = i

def ORel (w : World) (S : Nat → Prop) (base : Nat) (g : G) (t : Nat) : AObj → Prop
 | .cells fr cs =>
  g t = some none ∨
  ∃ b N arr e, g t = some (some (b, N)) ∧ (fr = true → base ≤ b) ∧ w.heap[b]? = some (.cells arr e) ∧ arr.size = N.n ∧ N.o + cs.length ≤ N.n ∧
   ∀ j (h : j < cs.length), CRel w S base g (arr.getD (N.o + j) undef) (cs[j]'h)
 | .map fr es =>
  ∃ b arr clock, g t = some (some (b, 0)) ∧ (fr = true → Exact arr clock) ∧ w.heap[b]? = some (.map arr clock) ∧ (arr.size = es.length ∧ MapKept.Stamped arr clock) ∧
   ∀ i (h : i < es.length) (h' : i < arr.size), ERel w S base false (arr[i]'h') (es[i]'h)

theorem ERel.mono {w w' : World} {S S' : Nat → Prop} {base : Nat} {fr : Bool} (hS : ∀ b, S b → S' b ∧ w'.heap[b]? = w.heap[b]?)
  {e : MapEntry} {x : Value × Bool × List P} (h : ERel w S base fr e x) : ERel w' S' base fr e x := by
 obtain ⟨hk, vs, hv, h1, hl, h⟩ := h
 exact ⟨hk, vs, hv, h1, hl, fun i h1 h2 => (h i h1 h2).mono fun b hb => ⟨⟨(hS b hb.1).1, hb.2⟩, (hS b hb.1).2⟩⟩

theorem ORel.mono {w w' : World} {S S' : Nat → Prop} {base : Nat} {g g' : G} {t : Nat} (hS : ∀ b, S b → S' b ∧ w'.heap[b]? = w.heap[b]?)
  (hg : ∀ t x, g t = some x → g' t = some x) (hb : ∀ b N, g t = some (some (b, N)) → w'.heap[b]? = w.heap[b]?) {o : AObj}
  (h : ORel w S base g t o) : ORel w' S' base g' t o := by
 cases o with
 | cells fr cs =>
  rcases h with h1 | ⟨b, N, arr, e, h1, h2, h3, h4, h5, h6⟩
  ·exact .inl (hg _ _ h1)
  ·exact .inr ⟨b, N, arr, e, hg _ _ h1, h2, by rw [hb b N h1]; exact h3, h4, h5, fun j hj => (h6 j hj).mono hS hg⟩
 | map fr es =>
  obtain ⟨b, arr, clock, h1, h2, h3, h4, h5⟩ := h
  exact ⟨b, arr, clock, hg _ _ h1, h2, by rw [hb b _ h1]; exact h3, h4, fun i ha hb => (h5 i ha hb).mono hS⟩

/-- the object of a number. -/
def Live (H : List (Option AObj)) (t : Nat) (o : AObj) : Prop := H[t]? = some (some o)

/-- the package variables hold what they held. -/
def GlobOK (w : World) (S : Nat → Prop) : Prop := ∀ b ps, GL b = some ps → S b ∧ ∀ j p, ps[j]? = some p → ∃ u, w.cell? ⟨b, j, none⟩ = some u ∧ PRel w S u p
theorem GlobOK.mono {w w' : World} {S S' : Nat → Prop} (h : GlobOK w S) (hS : ∀ b, S b → S' b ∧ w'.heap[b]? = w.heap[b]?) : GlobOK w' S' := by
 intro b ps hb
 obtain ⟨h1, h2⟩ := h b ps hb
 refine ⟨(hS b h1).1, fun j p hj => ?_⟩
 obtain ⟨u, h3, h4⟩ := h2 j p hj
 exact ⟨u, by rw [cell_of_heap (hS b h1).2]; exact h3, h4.mono hS⟩

structure HOK (w : World) (S : Nat → Prop) (base : Nat) (g : G) (H : List (Option AObj)) : Prop where
 obj : ∀ t o, Live H t o → ORel w S base g t o
 inj : ∀ t t' o o' b N N', Live H t o → Live H t' o' → g t = some (some (b, N)) → g t' = some (some (b, N')) → t = t'
 st : ∀ b, S b → b < w.heap.size
 dis : ∀ b t o N, S b → Live H t o → g t ≠ some (some (b, N))
 dom : ∀ t, H.length ≤ t → g t = none
 lt : ∀ t o b N, Live H t o → g t = some (some (b, N)) → b < w.heap.size
 glob : GlobOK w S

structure Ctx where
 base : Nat
 w0 : World
 wr : Nat → Prop
 S0 : Nat → Prop
 k : Nat
 g0 : G

structure Ext (x : Ctx) (w : World) : Prop where
 tape : w.tape = x.w0.tape
 os : w.os = x.w0.os
 output : w.output = x.w0.output
 size : x.base ≤ w.heap.size
 frame : ∀ b, b < x.base → ¬ x.wr b → w.heap[b]? = x.w0.heap[b]?

structure Sim (x : Ctx) (st : St) (a : Act) (w : World) (S : Nat → Prop) (g : G) : Prop where
 size : a.tmps.size = st.n
 nodef : a.defers = []
 fr : ∀ i, DRel w S x.base g (a.tmps.getD i undef) (st.fr i)
 ok : HOK w S x.base g st.H
 s0 : ∀ b, S b → x.base ≤ b ∨ x.S0 b ∨ x.wr b
 wr : ∀ t o b N, Live st.H t o → g t = some (some (b, N)) → x.base ≤ b ∨ x.wr b
 ext : Ext x w
 par : ∀ t, t < x.k → g t = x.g0 t
 kl : x.k ≤ st.H.length

/-- what stands behind a piece of code: the abstract machine's end, and its exit. -/
def post (x : Ctx) (K : Exit → St → Prop) (e : Exit) (a : Act) (w : World) : Prop := ∃ st S g, Sim x st a w S g ∧ K e st

def AW (pr : Program) (x : Ctx) (c : Code) (K : Exit → St → Prop) (st : St) : Prop :=
 ∀ a w S g, Sim x st a w S g → c.wp pr (post x K) a w

def AWops (pr : Program) (x : Ctx) (ops : Array Oper) (l : List Oper) (K : Exit → St → Prop) (st : St) : Prop :=
 ∀ a w S g, Sim x st a w S g → wpList pr ops (post x K) l a w

def thenK (n : St → Prop) (K : Exit → St → Prop) : Exit → St → Prop
 | .normal, st => n st
 | e, st => K e st

def blockK (id : Nat) (K : Exit → St → Prop) : Exit → St → Prop
 | .exit id', st => bif Nat.beq id' id then K .normal st else K (.exit id') st
 | e, st => K e st

section rules
variable {pr : Program} {x : Ctx} {K : Exit → St → Prop} {st : St}

theorem AW.mono {c : Code} {K' : Exit → St → Prop} (h : AW pr x c K st) (hk : ∀ e st, K e st → K' e st) : AW pr x c K' st :=
 fun a w S g hs => wp_mono (h a w S g hs) fun e a w ⟨st, S, g, h1, h2⟩ => ⟨st, S, g, h1, hk _ _ h2⟩

theorem AW.skip (h : K .normal st) : AW pr x .skip K st := fun a w S g hs => wp_skip ⟨st, S, g, hs, h⟩
theorem AW.ret (h : K .ret st) : AW pr x .ret K st := fun a w S g hs => wp_ret ⟨st, S, g, hs, h⟩
theorem AW.exit {id : Nat} (h : K (.exit id) st) : AW pr x (.exit id) K st := fun a w S g hs => wp_exit ⟨st, S, g, hs, h⟩

theorem AW.seq {c d : Code} (h : AW pr x c (thenK (AW pr x d K) K) st) : AW pr x (.seq c d) K st := by
 intro a w S g hs
 refine wp_seq (wp_mono (h a w S g hs) ?_)
 rintro e a w ⟨st, S, g, h1, h2⟩
 cases e <;> first | exact h2 a w S g h1 | exact ⟨st, S, g, h1, h2⟩

theorem AW.block {id : Nat} {c : Code} (h : AW pr x c (blockK id K) st) : AW pr x (.block id c) K st := by
 intro a w S g hs
 refine wp_block (wp_mono (h a w S g hs) ?_)
 rintro e a w ⟨st, S, g, h1, h2⟩
 cases e with
 | exit id' =>
  simp only [Go.Exit.inBlock]
  by_cases hid : id' = id
  ·subst hid
   have hb : Nat.beq id' id' = true := by simp
   simp only [blockK] at h2
   rw [hb] at h2
   rw [if_pos rfl]
   exact ⟨st, S, g, h1, h2⟩
  ·have hb : Nat.beq id' id = false := by
    cases hq : Nat.beq id' id
    ·rfl
    ·exact absurd (by simpa [Nat.beq_eq] using hq) hid
   simp only [blockK, hb, cond_false, hid, if_false] at h2 ⊢; exact ⟨st, S, g, h1, h2⟩
 | _ => exact ⟨st, S, g, h1, h2⟩

/-- a loop, with a number of rounds that the machine does not know. -/
theorem AW.loop {c : Code} (I : Nat → St → Prop) {k : Nat} (h0 : I k st)
  (round : ∀ k st, I k st → AW pr x c (thenK (fun st' => ∃ k', k' < k ∧ I k' st') K) st) : AW pr x (.loop c) K st := by
 have key : ∀ n k, k = n → ∀ st, I k st → ∀ a w S g, Sim x st a w S g → ∀ (b : Frame) (kk : List Item) (cs : List Frame),
   ∃ e a' w', post x K e a' w' ∧ Arrives pr (lone (b.at a (.code c :: .inLoop c :: kk)) cs w) b kk cs e a' w' := by
  intro n
  induction n using Nat.strongRecOn with
  | _ n ih =>
   intro k hk st hI a w S g hs b kk cs
   obtain ⟨e, a₁, w₁, ⟨st₁, S₁, g₁, h1, h2⟩, harr⟩ := round k st hI a w S g hs b (.inLoop c :: kk) cs
   cases e with
   | normal =>
    obtain ⟨k', hk', hI'⟩ := h2
    obtain ⟨e, a₂, w₂, hq, harr₂⟩ := ih k' (by omega) k' rfl st₁ hI' a₁ w₁ S₁ g₁ h1 b kk cs
    exact ⟨e, a₂, w₂, hq, .of_steps (Steps.trans harr (.one step_inLoop)) harr₂⟩
   | exit id => exact ⟨_, a₁, w₁, ⟨st₁, S₁, g₁, h1, h2⟩, .pass (x := .inLoop c) rfl (fun _ _ => .inl (by simp)) harr⟩
   | goto l => exact ⟨_, a₁, w₁, ⟨st₁, S₁, g₁, h1, h2⟩, .pass (x := .inLoop c) rfl (fun _ _ => .inl (by simp)) harr⟩
   | ret => exact ⟨_, a₁, w₁, ⟨st₁, S₁, g₁, h1, h2⟩, .pass (x := .inLoop c) rfl (fun _ _ => .inl (by simp)) harr⟩
   | panic ch => exact ⟨_, a₁, w₁, ⟨st₁, S₁, g₁, h1, h2⟩, .pass (x := .inLoop c) rfl (fun _ _ => .inl (by simp)) harr⟩
   | outgrown => exact ⟨_, a₁, w₁, ⟨st₁, S₁, g₁, h1, h2⟩, .pass (x := .inLoop c) rfl (fun _ _ => .inl (by simp)) harr⟩
 intro a w S g hs b kk cs
 obtain ⟨e, a', w', hq, harr⟩ := key k k rfl st h0 a w S g hs b kk cs
 exact ⟨e, a', w', hq, .of_steps (.one step_loop) harr⟩

/-- the state may be told otherwise, or less of it. -/
def Weak (k : Nat) (st st' : St) : Prop := ∀ (x : Ctx) (a : Act) (w : World) (S : Nat → Prop) (g : G), x.k = k → Sim x st a w S g → ∃ S' g', Sim x st' a w S' g'

theorem Weak.refl {k : Nat} (st : St) : Weak k st st := fun _ _ _ S g _ h => ⟨S, g, h⟩
theorem Weak.trans {n : Nat} {s t u : St} (h : Weak n s t) (k : Weak n t u) : Weak n s u := fun x a w S g e hs => let ⟨S', g', hs'⟩ := h x a w S g e hs; k x a w S' g' e hs'

theorem AW.weak {c : Code} {st' : St} (hw : Weak x.k st st') (h : AW pr x c K st') : AW pr x c K st := by
 intro a w S g hs
 obtain ⟨S', g', hs'⟩ := hw x a w S g rfl hs
 exact h a w S' g' hs'

theorem AWops.weak {ops : Array Oper} {l : List Oper} {st' : St} (hw : Weak x.k st st') (h : AWops pr x ops l K st') : AWops pr x ops l K st := by
 intro a w S g hs
 obtain ⟨S', g', hs'⟩ := hw x a w S g rfl hs
 exact h a w S' g' hs'

/-- a loop whose rounds end in a state that may be told otherwise. -/
theorem AW.loopw {c : Code} (I : Nat → St → Prop) {k : Nat} {st0 : St} (hw : Weak x.k st st0) (h0 : I k st0)
  (round : ∀ k st, I k st → AW pr x c (thenK (fun st' => ∃ k' st'', k' < k ∧ Weak x.k st' st'' ∧ I k' st'') K) st) : AW pr x (.loop c) K st := by
 refine AW.loop (fun k st => ∃ st', Weak x.k st st' ∧ I k st') ⟨st0, hw, h0⟩ ?_
 rintro k st ⟨st', hw', hI⟩
 refine AW.weak hw' ((round k st' hI).mono ?_)
 intro e s hs
 cases e with
 | normal => obtain ⟨k', s'', hk, hw, hI⟩ := hs; exact ⟨k', hk, s'', hw, hI⟩
 | _ => exact hs

/-- ways that meet again. -/
theorem AW.seqJ {c d : Code} (J : St → Prop) (h1 : AW pr x c (thenK (fun st' => ∃ st'', Weak x.k st' st'' ∧ J st'') K) st) (h2 : ∀ st, J st → AW pr x d K st) : AW pr x (.seq c d) K st := by
 refine AW.seq (h1.mono ?_)
 intro e s hs
 cases e with
 | normal => obtain ⟨s', hw, hJ⟩ := hs; exact AW.weak hw (h2 s' hJ)
 | _ => exact hs

theorem AW.region {id : Nat} {l : List Oper} (h : AWops pr x l.toArray l K st) : AW pr x (.region id l.toArray false) K st :=
 fun a w S g hs => wp_region_lit (h a w S g hs)

theorem AWops.nil {ops : Array Oper} (h : K .normal st) : AWops pr x ops [] K st := fun _ _ S g hs => wpList_nil ⟨st, S, g, hs, h⟩

end rules
end Go.Abs
