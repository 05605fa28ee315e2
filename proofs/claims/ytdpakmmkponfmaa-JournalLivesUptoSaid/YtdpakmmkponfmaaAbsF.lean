import Derived.Test.YtdpakmmkponfmaaAbsE
import Derived.Deep.AppendSrc
set_option linter.unusedVariables false
set_option linter.unusedSimpArgs false
namespace Go.Abs

def infoQ (pr : Program) (e : TypeId) : Option (Option Value × Nat × Nat) := (pr.info? e).map fun i => (i.zero, i.size, i.bytes)

theorem infoQ_some {pr : Program} {e : TypeId} {z : Value} {sz bs : Nat} (h : infoQ pr e = some (some z, sz, bs)) : ∃ i, pr.info? e = some i ∧ i.zero = some z ∧ i.size = sz ∧ i.bytes = bs := by
 unfold infoQ at h
 cases hi : pr.info? e with
 | none => rw [hi] at h; cases h
 | some i => rw [hi] at h; simp at h; exact ⟨i, rfl, h.1, h.2.1, h.2.2⟩

section
variable {pr : Program} (w : World)
theorem run_append_room_row (t tx ty e e0 : TypeId) (i : TypeInfo) (ht : pr.underlying t = some (.slice e)) (hi : pr.info? e = some i) (b o sLen sCap : Nat) (x : Value) (n : Nat) (news : List Value) (hs : Src pr i.size tx x n news w)
  (cur : Array Value) (hb : w.heap[b]? = some (.cells cur e0)) (hroom : sLen + n ≤ sCap) (hfit : o + sLen * i.size + news.length ≤ cur.size) :
  (Builtin.append_ #[t, tx] ty #[.slice (some ⟨b, o, none⟩) sLen sCap, x]).run pr w = .ok (.slice (some ⟨b, o, none⟩) (sLen + n) sCap)
   (w.setRow b (cur.toList.take (o + sLen * i.size) ++ news ++ cur.toList.drop (o + sLen * i.size + news.length)).toArray) := by
 have hst := run_storeCells_at pr b (o + sLen * i.size) e0 news 0 cur w hb (by simpa using hfit) hs.one
 simp only [Nat.add_zero] at hst
 have hadd : (⟨b, o, none⟩ : Addr).add (sLen * i.size) = ⟨b, o + sLen * i.size, none⟩ := add_addr _ _ _
 rcases hs.kind with ⟨e', hk⟩ | hk <;> simp [Builtin.append_, run_underlying ht, run_underlying hk, sizeOf, typeInfo, hi, hs.len, hroom, hs.cells, hadd, hst]

/-- nothing is appended where there is no room. -/
theorem run_append_none (t tx ty e : TypeId) (i : TypeInfo) (ht : pr.underlying t = some (.slice e)) (hi : pr.info? e = some i) (ad : Option Addr) (x : Value) (news : List Value) (hs : Src pr i.size tx x 0 news w) :
  (Builtin.append_ #[t, tx] ty #[.slice ad 0 0, x]).run pr w = .ok (.slice ad 0 0) w := by
 have hn : news = [] := List.eq_nil_of_length_eq_zero (by have := hs.newsLen; simpa using this)
 subst hn
 have hst : ∀ a : Addr, (storeCells a []).run pr w = .ok () w := fun a => rfl
 rcases hs.kind with ⟨e', hk⟩ | hk <;> cases ad <;>
  simp [Builtin.append_, run_underlying ht, run_underlying hk, sizeOf, typeInfo, hi, hs.len, hs.cells, hst]
end

def strC (s : ByteArray) : List C := (byteCells s).map fun u => C.p true (.v u)

inductive IsBase (st : St) (sz : Nat) : D → Option Nat → Bool → Nat → List C → Prop
 | nil {f : Bool} : IsBase st sz (.one (.p f (.v (.slice none 0 0)))) none true 0 []
 | own {t n : Nat} {fr : Bool} {cs : List C} (hl : st.H[t]? = some (some (.cells fr cs))) (hn : cs.length = n * sz) : IsBase st sz (.one (.own t 0 n sz)) (some t) fr n cs

inductive IsSrc (st : St) (sz : Nat) : D → Nat → List C → Prop
 | nil {f : Bool} : IsSrc st sz (.one (.p f (.v (.slice none 0 0)))) 0 []
 | imm {f : Bool} {m : Nat} {ps : List P} (hn : ps.length = m * sz) : IsSrc st sz (.one (.p f (.sl m ps))) m (ps.map mkC)
 | own {t off m : Nat} {fr : Bool} {cs news : List C} (hl : st.H[t]? = some (some (.cells fr cs))) (hd : (cs.drop off).take (m * sz) = news) (hn : news.length = m * sz) (hnt : noTop news = true) :
   IsSrc st sz (.one (.own t off m sz)) m news
 | str {f : Bool} {s : ByteArray} (h1 : sz = 1) : IsSrc st sz (.one (.p f (.v (.string s)))) s.size (strC s)

def killO (H : List (Option AObj)) : Option Nat → List (Option AObj)
 | some t => H.set t none
 | none => H

section
variable {pr : Program} {x : Ctx} {K : Exit → St → Prop} {st : St} {a : Act} {w : World} {S : Nat → Prop} {g : G}
variable {ops : Array Oper} {rest : List Oper} {dst : Option Tmp} {ty : TypeId} {pos : String} {aft : Array Edge}

theorem pts_one {vs : List Value} {cs : List C} (h : Pts (CRel w S x.base g) vs cs) (hl : vs.length = cs.length) (hnt : noTop cs = true) : ∀ u ∈ vs, u.oneCell' = true := by
 intro u hu
 obtain ⟨i, hi, rfl⟩ := List.mem_iff_getElem.mp hu
 exact (h.get i (by omega) hi).oneCell (noTop_iff.mp hnt _ (List.getElem_mem _))

theorem Sim.src (hs : Sim x st a w S g) {v : Value} {d : D} {sz m : Nat} {news : List C} (hv : DRel w S x.base g v d) (h : IsSrc st sz d m news) {tx : TypeId}
  (hk : (∃ e', pr.underlying tx = some (.slice e')) ∨ pr.underlying tx = some .string) (hk' : (∃ f s, d = .one (.p f (.v (.string s)))) ∨ ∃ e', pr.underlying tx = some (.slice e')) (hk2 : (∃ e', pr.underlying tx = some (.slice e')) ∨ ∃ f s, d = .one (.p f (.v (.string s)))) :
  ∃ vs, Src pr sz tx v m vs w ∧ vs.length = news.length ∧ Pts (CRel w S x.base g) vs news := by
 cases h with
 | @nil f =>
  obtain rfl := hv.of_v
  rcases hk' with ⟨f', s, h⟩ | ⟨e', hk'⟩
  ·cases h
  ·exact ⟨[], .ofNil w hk' 0, rfl, .nil⟩
 | @imm f m ps hn =>
  rcases hk' with ⟨f', s, h⟩ | ⟨e', hk'⟩
  ·cases h
  cases hv with
  | t hv =>
   cases hv with
   | one hv =>
    cases hv with
    | p hv =>
     cases hv with
     | nil ad cap =>
      cases ad with
      | none => exact ⟨[], .ofNil w hk' cap, rfl, .nil⟩
      | some ad => exact ⟨[], .ofSlice w hk' ad 0 cap [] (by simp) (fun j u h => by simp at h) (fun u h => by cases h), rfl, .nil⟩
     | sl b o n cap cs us hb hn' hc hr =>
      refine ⟨(List.range ps.length).map us, .ofSlice w hk' ⟨b, o, none⟩ m cap _ (by simpa using hn) ?_ ?_, by simp, ?_⟩
      ·intro j u hj
       have hlt : j < ps.length := by have := (List.getElem?_eq_some_iff.mp hj).1; simpa using this
       rw [List.getElem?_map, List.getElem?_range hlt] at hj
       rw [add_addr]; exact Option.some.inj hj ▸ hc j hlt
      ·intro u hu
       simp at hu
       obtain ⟨j, hj, rfl⟩ := hu
       exact (hr j hj).one
      ·intro j c hj
       simp at hj
       obtain ⟨p, hp, rfl⟩ := hj
       obtain ⟨hlt, rfl⟩ := List.getElem?_eq_some_iff.mp hp
       have : CRel w S x.base g (us j) (.p f ps[j]) := .p (hr j hlt)
       exact ⟨us j, by simp [hlt], this.norm⟩
 | @own t off m fr cs news hl hd hn hnt =>
  rcases hk' with ⟨f', s, h⟩ | ⟨e', hk'⟩
  ·cases h
  subst hd
  cases hv with
  | t hv =>
   cases hv with
   | one hv =>
    cases hv with
    | @own _ b N _ _ cap _ hg hn' hN =>
     obtain ⟨_, arr, e, hb, ha, hle, hc⟩ := hs.row hl hg
     have hp := ((Pts.arrO hc (by omega)).drop off).take (m * sz)
     have hlen : (((arr.toList.drop N.o).drop off).take (m * sz)).length = ((cs.drop off).take (m * sz)).length := by
      rw [hn]; simp at hn ⊢; omega
     refine ⟨((arr.toList.drop N.o).drop off).take (m * sz), .ofSlice w hk' ⟨b, N.o + off, none⟩ m cap _ (by rw [hlen, hn]) ?_ (pts_one hp hlen hnt), hlen, hp⟩
     intro j u hj
     rw [List.getElem?_take] at hj
     split at hj
     ·rw [List.getElem?_drop, List.getElem?_drop] at hj
      rw [add_addr, cell_row (N := N) hb, Nat.add_assoc]; exact hj
     ·cases hj
    | own0 ad hg =>
     simp only [Nat.zero_mul, List.take_zero]
     cases ad with
     | none => exact ⟨[], .ofNil w hk' 0, rfl, .nil⟩
     | some ad => exact ⟨[], .ofSlice w hk' ad 0 0 [] (by simp) (fun j u h => by simp at h) (fun u h => by cases h), rfl, .nil⟩
 | @str f s h1 =>
  subst h1
  obtain rfl := hv.of_v
  rcases hk with ⟨e', hk⟩ | hk
  ·refine ⟨byteCells s, ⟨.inl ⟨e', hk⟩, fun _ => rfl, firstCells_string s w, firstCells_string s w.drew, by rw [byteCells_length, Nat.mul_one], fun u hu => by
    obtain ⟨_, _, rfl⟩ := List.mem_map.1 hu
    rfl⟩, by simp [strC], ?_⟩
   intro j c hj
   simp [strC, byteCells] at hj
   obtain ⟨u, hu, rfl⟩ := hj
   exact ⟨_, by simp [byteCells, hu], .p (.v _ rfl)⟩
  ·refine ⟨byteCells s, .ofString w hk s, by simp [strC], ?_⟩
   intro j c hj
   simp [strC, byteCells] at hj
   obtain ⟨u, hu, rfl⟩ := hj
   exact ⟨_, by simp [byteCells, hu], .p (.v _ rfl)⟩

theorem size_zeroCells' (z : Array Value) (n : Nat) : (Builtin.zeroCells z n).size = n * z.size := by simp [Builtin.zeroCells]

/-- where it must be made anew. -/
theorem Sim.grow (hs : Sim x st a w S g) {olds news : List Value} {co cn : List C} (ho : Pts (CRel w S x.base g) olds co) (hol : olds.length = co.length) (hn : Pts (CRel w S x.base g) news cn) (hnl : news.length = cn.length)
  (z : Array Value) (k : Nat) (e : TypeId) (fr : Bool) (kill : Option Nat) :
  Sim x (st.heap (killO st.H kill ++ [some (.cells fr (co ++ cn))])) a (w.drew.alloc (.cells ((olds ++ news).toArray ++ Builtin.zeroCells z k) e)) S
   (gnew g st.H.length (some (w.heap.size, ⟨(olds ++ news).length + k * z.size, 0⟩))) := by
 have h1 : Sim x st a w.drew S g := hs.same rfl rfl rfl rfl
 have hp : Pts (CRel w.drew S x.base g) ((olds ++ news).toArray ++ Builtin.zeroCells z k).toList (co ++ cn) := by
  simp only [Array.toList_append]
  refine Pts.appendr ?_
  refine (Pts.append ho hn hol).imp fun v c h => CRel.mono (w := w) (w' := w.drew) (S := S) (S' := S) (g := g) (g' := g) (fun b hb => ⟨hb, rfl⟩) (fun _ _ h => h) h
 have h2 := h1.newCells ((olds ++ news).toArray ++ Builtin.zeroCells z k) e (cs := co ++ cn) (by have := hp.len; rwa [Array.length_toList] at this) hp.toArr
 have hsz : ((olds ++ news).toArray ++ Builtin.zeroCells z k).size = (olds ++ news).length + k * z.size := by simp [size_zeroCells']
 rw [hsz] at h2
 have h3 : Sim x (st.heap (killO st.H kill ++ [some (.cells true (co ++ cn))])) a (w.drew.alloc (.cells ((olds ++ news).toArray ++ Builtin.zeroCells z k) e)) S
   (gnew g st.H.length (some (w.heap.size, ⟨(olds ++ news).length + k * z.size, 0⟩))) := by
  cases kill with
  | none => exact h2
  | some t =>
   refine h2.forget ?_ (by simp [killO, St.heap])
   intro u o hu
   rcases live_snoc hu with h | ⟨e, rfl⟩
   ·have := (live_kill h).2
    unfold Live at this ⊢
    rw [St.heap, List.getElem?_append_left (List.getElem?_eq_some_iff.mp this).1]; exact this
   ·simp [killO] at e
    subst e
    simp [Live, St.heap]
 -- 'fresh' may be told or not
 refine ⟨h3.size, h3.nodef, h3.fr, ?_, h3.s0, ?_, h3.ext, h3.par, by have := h3.kl; simpa [St.heap] using this⟩
 ·have hl : ∀ t o, Live (killO st.H kill ++ [some (.cells fr (co ++ cn))]) t o → ∃ o', Live (killO st.H kill ++ [some (.cells true (co ++ cn))]) t o' ∧ (o = o' ∨ (o = .cells fr (co ++ cn) ∧ o' = .cells true (co ++ cn))) := by
   intro t o h
   rcases live_snoc h with h | ⟨rfl, rfl⟩
   ·exact ⟨o, by unfold Live at h ⊢; rw [List.getElem?_append_left (List.getElem?_eq_some_iff.mp h).1]; exact h, .inl rfl⟩
   ·exact ⟨.cells true (co ++ cn), by simp [Live], .inr ⟨rfl, rfl⟩⟩
  refine ⟨?_, ?_, h3.ok.st, ?_, fun t ht => h3.ok.dom t (by simpa [St.heap] using ht), ?_, h3.ok.glob⟩
  ·intro t o h
   obtain ⟨o', h', hh⟩ := hl t o h
   have := h3.ok.obj t o' h'
   rcases hh with rfl | ⟨rfl, rfl⟩
   ·exact this
   ·rcases this with h | ⟨b, N, arr, e, q1, q2, q3⟩
    ·exact .inl h
    ·exact .inr ⟨b, N, arr, e, q1, fun _ => q2 rfl, q3⟩
  ·intro t t' o o' b N N' h h'
   obtain ⟨q, hq, _⟩ := hl t o h
   obtain ⟨q', hq', _⟩ := hl t' o' h'
   exact h3.ok.inj t t' q q' b N N' hq hq'
  ·intro b t o N hb h
   obtain ⟨q, hq, _⟩ := hl t o h
   exact h3.ok.dis b t q N hb hq
  ·intro t o b N h
   obtain ⟨q, hq, _⟩ := hl t o h
   exact h3.ok.lt t q b N hq
 ·intro t o b N h
  have : ∃ q, Live (killO st.H kill ++ [some (.cells true (co ++ cn))]) t q := by
   rcases live_snoc h with h | ⟨rfl, rfl⟩
   ·exact ⟨o, by unfold Live at h ⊢; rw [List.getElem?_append_left (List.getElem?_eq_some_iff.mp h).1]; exact h⟩
   ·exact ⟨.cells true (co ++ cn), by simp [Live]⟩
  obtain ⟨q, hq⟩ := this
  exact h3.wr t q b N hq

theorem DRel.base {v : Value} {d : D} {sz n : Nat} {kill : Option Nat} {fr : Bool} {olds : List C} (hs : Sim x st a w S g) (hv : DRel w S x.base g v d) (h : IsBase st sz d kill fr n olds) :
  (∃ ad, v = .slice ad 0 0 ∧ n = 0 ∧ olds = []) ∨
  ∃ t b N cap arr e, kill = some t ∧ v = .slice (some ⟨b, N.o, none⟩) n cap ∧ n ≤ cap ∧ N.o + cap * sz ≤ N.n ∧ Live st.H t (.cells fr olds) ∧ g t = some (some (b, N)) ∧ olds.length = n * sz ∧
   w.heap[b]? = some (.cells arr e) ∧ arr.size = N.n ∧ Pts (CRel w S x.base g) (arr.toList.drop N.o) olds := by
 cases h with
 | nil => exact .inl ⟨none, hv.of_v, rfl, rfl⟩
 | own hl hn =>
  cases hv with
  | t hv =>
   cases hv with
   | one hv =>
    cases hv with
    | @own _ b N _ _ cap _ hg hn' hN =>
     obtain ⟨_, arr, e, hb, ha, hle, hc⟩ := hs.row hl hg
     exact .inr ⟨_, b, N, cap, arr, e, rfl, rfl, hn', by omega, hl, hg, hn, hb, ha, Pts.arrO hc (by omega)⟩
    | own0 ad hg => exact .inl ⟨ad, rfl, rfl, List.eq_nil_of_length_eq_zero (by simpa using hn)⟩

theorem IsBase.len {d : D} {sz n : Nat} {kill : Option Nat} {fr : Bool} {olds : List C} (h : IsBase st sz d kill fr n olds) : olds.length = n * sz := by
 cases h <;> simp_all

theorem Sim.append {a : Act} {w : World} {S : Nat → Prop} {g : G} {v0 v1 : Value} {d0 d1 : D} {t tx ty e : TypeId} {zv : Value} {sz bs n m : Nat} {kill : Option Nat} {fr : Bool} {olds news : List C} (hs : Sim x st a w S g)
  (hd0 : DRel w S x.base g v0 d0) (hd1 : DRel w S x.base g v1 d1) (ht : pr.underlying t = some (.slice e)) (hi : infoQ pr e = some (some zv, sz, bs)) (hzs : zv.cells.size = sz)
  (hb : IsBase st sz d0 kill fr n olds) (hsrc : IsSrc st sz d1 m news)
  (hk : (∃ e', pr.underlying tx = some (.slice e')) ∨ (pr.underlying tx = some .string ∧ ∃ f s, d1 = .one (.p f (.v (.string s)))))
  (hbytes : (n + m) * bs ≤ 140737488355328) (h63 : n + m ≤ 9223372036854775807) :
  ∃ r w' S' g', (Builtin.append_ #[t, tx] ty #[v0, v1]).run pr w = .ok r w' ∧ Sim x (st.heap (killO st.H kill ++ [some (.cells fr (olds ++ news))])) a w' S' g' ∧ DRel w' S' x.base g' r (.one (.own st.H.length 0 (n + m) sz)) := by
 obtain ⟨i, hi0, hz, rfl, rfl⟩ := infoQ_some hi
 obtain ⟨vs, hsr, hvl, hvp⟩ := hs.src hd1 hsrc (tx := tx) (by rcases hk with h | h; exact .inl h; exact .inr h.1) (by rcases hk with h | h; exact .inr h; exact .inl h.2)
  (by rcases hk with h | h; exact .inl h; exact .inr h.2)
 have hol := hb.len
 have hnl : news.length = m * i.size := by rw [← hvl]; exact hsr.newsLen
 rcases DRel.base hs hd0 hb with ⟨ad, hv, rfl, rfl⟩ | ⟨u, b, N, cap, arr, e0, rfl, hv, hnc, hcN, hlive, hg, _, hblk, ha, hpt⟩
 ·-- nothing was there
  by_cases hm : m = 0
  ·subst hm
   have hn0 : news = [] := List.eq_nil_of_length_eq_zero (by simpa using hnl)
   subst hn0
   have hr := run_append_none w t tx ty e i ht hi0 ad _ _ hsr
   have h1 : Sim x (st.heap (killO st.H kill)) a w S g := by cases kill with | none => exact hs | some u => exact hs.kill u
   have hkl : (killO st.H kill).length = st.H.length := by cases kill <;> simp [killO]
   have h2 := h1.newNone
   simp only [St.heap, hkl] at h2
   refine ⟨_, _, S, gnew g st.H.length none, by rw [hv]; exact hr, ?_, .t (.one (.own0 ad gnew_at))⟩
   refine ⟨h2.size, h2.nodef, h2.fr, ?_, h2.s0, ?_, h2.ext, h2.par, by have := h2.kl; simpa [St.heap] using this⟩
   ·have hl : ∀ t o, Live (killO st.H kill ++ [some (.cells fr ([] ++ []))]) t o → ∃ o', Live (killO st.H kill ++ [some (.cells true [])]) t o' ∧ (o = o' ∨ (o = .cells fr [] ∧ t = st.H.length)) := by
     intro t o h
     rcases live_snoc h with h | ⟨rfl, rfl⟩
     ·exact ⟨o, by unfold Live at h ⊢; rw [List.getElem?_append_left (List.getElem?_eq_some_iff.mp h).1]; exact h, .inl rfl⟩
     ·exact ⟨.cells true [], by simp [Live], .inr ⟨rfl, hkl⟩⟩
    refine ⟨?_, ?_, h2.ok.st, ?_, fun t ht => h2.ok.dom t (by simpa [St.heap] using ht), ?_, h2.ok.glob⟩
    ·intro t o h
     obtain ⟨o', h', hh⟩ := hl t o h
     rcases hh with rfl | ⟨rfl, rfl⟩
     ·exact h2.ok.obj t o h'
     ·exact .inl gnew_at
    ·intro t t' o o' b N N' h h'
     obtain ⟨q, hq, _⟩ := hl t o h
     obtain ⟨q', hq', _⟩ := hl t' o' h'
     exact h2.ok.inj t t' q q' b N N' hq hq'
    ·intro b t o N hb h
     obtain ⟨q, hq, _⟩ := hl t o h
     exact h2.ok.dis b t q N hb hq
    ·intro t o b N h
     obtain ⟨q, hq, _⟩ := hl t o h
     exact h2.ok.lt t q b N hq
   ·intro t o b N h
    have : ∃ q, Live (killO st.H kill ++ [some (.cells true [])]) t q := by
     rcases live_snoc h with h | ⟨rfl, rfl⟩
     ·exact ⟨o, by unfold Live at h ⊢; rw [List.getElem?_append_left (List.getElem?_eq_some_iff.mp h).1]; exact h⟩
     ·exact ⟨.cells true [], by simp [Live]⟩
    obtain ⟨q, hq⟩ := this
    exact h2.wr t q b N hq
  ·have hr := run_append_grow_src (P := pr) w t tx ty e i zv ht hi0 hz ad 0 0 [] (by cases ad <;> simp [Builtin.firstCells, loadCells, loadCellsFrom]) _ m vs hsr (by omega) (by omega)
    (growslice_fits (by omega) (by simpa using hbytes))
   refine ⟨_, _, S, _, by rw [hv]; exact hr, hs.grow (olds := []) (co := []) .nil rfl hvp hvl zv.cells _ e fr kill, .t (.one (.own gnew_at ?_ ?_))⟩
   ·exact grownCap_ge w (0 + m) 0 e
   ·have := grownCap_ge w (0 + m) 0 e
    have hl2 : vs.length = m * i.size := hsr.newsLen
    simp only [List.nil_append, hl2, hzs, Nat.zero_add]
    rw [← Nat.add_mul]
    simp only [Nat.zero_add] at this
    exact Nat.mul_le_mul_right _ (by omega)
 ·by_cases hroom : n + m ≤ cap
  ·have hcap : (n + m) * i.size ≤ cap * i.size := Nat.mul_le_mul_right _ hroom
   have hfit : N.o + n * i.size + vs.length ≤ arr.size := by rw [hsr.newsLen, Nat.add_assoc, ← Nat.add_mul, ha]; omega
   have hr := run_append_room_row (pr := pr) w t tx ty e e0 i ht hi0 b N.o n cap _ m vs hsr arr hblk hroom hfit
   have hsz' : (arr.toList.take (N.o + n * i.size) ++ vs ++ arr.toList.drop (N.o + n * i.size + vs.length)).toArray.size = N.n := by simp; omega
   have hdr : (arr.toList.take (N.o + n * i.size) ++ vs ++ arr.toList.drop (N.o + n * i.size + vs.length)).drop N.o = (arr.toList.drop N.o).take (n * i.size) ++ vs ++ (arr.toList.drop N.o).drop (n * i.size + vs.length) := by
    rw [List.append_assoc, List.drop_append_of_le_length (by simp; omega), List.drop_drop, ← List.append_assoc, ← Nat.add_assoc]
    congr 2
    rw [List.take_drop]
   have hpts : Pts (CRel w S x.base g) ((arr.toList.take (N.o + n * i.size) ++ vs ++ arr.toList.drop (N.o + n * i.size + vs.length)).drop N.o) (olds ++ news) := by
    rw [hdr]
    refine Pts.appendr (Pts.append ?_ hvp ?_)
    ·have := hpt.take (n * i.size)
     rwa [List.take_of_length_le (l := olds) (by omega)] at this
    ·simp; omega
   have h1 := hs.writeRow (cs' := olds ++ news) hlive hg _ hsz' (by have h5 := hpts.len; have h6 : (arr.toList.take (N.o + n * i.size) ++ vs ++ arr.toList.drop (N.o + n * i.size + vs.length)).length = N.n := (by simpa using hsz'); rw [List.length_drop, h6] at h5; omega) (Pts.toArrO (by simpa only [List.toList_toArray] using hpts))
   have h2 := h1.move (t := u) (b := b) (N := N) (fr := fr) (cs := olds ++ news) (by simp [Live, St.heap, hlive.lt]) hg
   simp only [St.heap, List.length_set, List.set_set] at h2
   exact ⟨_, _, S, _, by rw [hv]; exact hr, h2, .t (.one (.own gnew_at hroom (by omega)))⟩
  ·have hcap : n * i.size ≤ cap * i.size := Nat.mul_le_mul_right _ hnc
   have hof : (Builtin.firstCells i.size n (.slice (some ⟨b, N.o, none⟩) n cap)).run pr w.drew = .ok ((arr.toList.drop N.o).take (n * i.size)).toArray w.drew := by
    have hlt : ((arr.toList.drop N.o).take (n * i.size)).length = n * i.size := by rw [List.length_take, List.length_drop, Array.length_toList, ha]; omega
    refine run_firstCells_some w.drew i.size n ⟨b, N.o, none⟩ n cap _ hlt fun j u hj => ?_
    rw [List.getElem?_take] at hj
    split at hj
    ·rw [List.getElem?_drop] at hj
     rw [add_addr]; show w.cell? _ = _; rw [cell_row (N := N) hblk]; exact hj
    ·cases hj
   have hr := run_append_grow_src (P := pr) w t tx ty e i zv ht hi0 hz (some ⟨b, N.o, none⟩) n cap _ hof _ m vs hsr (by omega) (by omega)
    (growslice_fits (by omega) hbytes)
   have hpo : Pts (CRel w S x.base g) ((arr.toList.drop N.o).take (n * i.size)) olds := by
    have := hpt.take (n * i.size)
    rwa [List.take_of_length_le (l := olds) (by omega)] at this
   have hlo : ((arr.toList.drop N.o).take (n * i.size)).length = olds.length := by rw [List.length_take, List.length_drop, hol, Array.length_toList, ha]; omega
   refine ⟨_, _, S, _, by rw [hv]; exact hr, hs.grow hpo hlo hvp hvl zv.cells _ e fr (some u), .t (.one (.own gnew_at ?_ ?_))⟩
   ·exact grownCap_ge w (n + m) cap e
   ·have := grownCap_ge w (n + m) cap e
    rw [List.length_append, hlo, hol, hsr.newsLen, hzs, ← Nat.add_mul, ← Nat.add_mul]
    rw [Nat.zero_add]
    exact Nat.mul_le_mul_right _ (by omega)
theorem s_append {t tx e : TypeId} {y z : Operand} {zv : Value} {sz bs n m : Nat} {kill : Option Nat} {fr : Bool} {olds news all : List C} {H' : List (Option AObj)} {d : D}
  (ht : pr.underlying t = some (.slice e)) (hi : infoQ pr e = some (some zv, sz, bs)) (hzs : zv.cells.size = sz)
  (hb : IsBase st sz (st.val y) kill fr n olds) (hsrc : IsSrc st sz (st.val z) m news)
  (hk : (∃ e', pr.underlying tx = some (.slice e')) ∨ (pr.underlying tx = some .string ∧ ∃ f s, st.val z = .one (.p f (.v (.string s)))))
  (hbytes : (n + m) * bs ≤ 140737488355328) (h63 : n + m ≤ 9223372036854775807) (hall : olds ++ news = all)
  (hH : killO st.H kill ++ [some (.cells fr all)] = H') (hd : .one (.own st.H.length 0 (n + m) sz) = d)
  (k : AWops pr x ops rest K ((st.heap H').put dst d)) :
  AWops pr x ops (⟨dst, .call { callee := .builtin .append, args := #[y, z], argTypes := #[t, tx] }, ty, pos, aft, none⟩ :: rest) K st :=
 AWops.of_run rfl (fun a w S g hs => by
  subst hall hH hd
  obtain ⟨r, w', S', g', hr, h, hd⟩ := Sim.append (ty := ty) hs (hs.val y) (hs.val z) ht hi hzs hb hsrc hk hbytes h63
  exact ⟨r, w', _, S', g', by simp [execOp, resolve, invoke, builtin, hr], Sim.put (st := st.heap _) h dst hd, k⟩)
end
end Go.Abs
