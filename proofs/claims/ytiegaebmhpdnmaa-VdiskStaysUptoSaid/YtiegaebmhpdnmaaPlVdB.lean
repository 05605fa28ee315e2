import Derived.Test.YtiegaebmhpdnmaaPlVdA
set_option linter.unusedVariables false
set_option linter.unusedSimpArgs false
set_option maxRecDepth 100000
set_option maxHeartbeats 4000000
namespace Go.Abs.GenV
open Go.Abs

theorem loop_ex {α σ β : Type} {xs : List α} {F : Nat → Int → σ → Option β} {G : Nat → Int → α → σ → Option β} {E : Nat → σ → Option β} (hn : xs.length < 9223372036854775807)
    (hF : ∀ k i s, F (k + 1) i s = if (decide (i < (xs.length : Int))) = true then ((rd xs i).bind fun v => G k i v s) else E k s)
    {Good : List α → σ → Prop} {Q : β → Prop} (he : ∀ s, Good [] s → ∃ r, Evt (fun k => E k s) r ∧ Q r)
    (hs : ∀ i v suf s, i < xs.length → xs[i]? = some v → Good (v :: suf) s → (∀ s', Good suf s' → ∃ r, Evt (fun k => F k (IntKind.i64.wrap ((i : Nat) + 1)) s') r ∧ Q r) → ∃ r, Evt (fun k => G k ((i : Nat) : Int) v s) r ∧ Q r) :
    ∀ (suf pre : List α) s, xs = pre ++ suf → Good suf s → ∃ r, Evt (fun k => F k (pre.length : Int) s) r ∧ Q r := by
  intro suf
  induction suf with
  | nil =>
    intro pre s hx hg
    obtain ⟨r, h, hq⟩ := he s hg
    exact ⟨r, Evt.succ (fun k => hF k _ s) (Evt.neg (by simp [hx]) h), hq⟩
  | cons v suf ih =>
    intro pre s hx hg
    have hi : pre.length < xs.length := by rw [hx]; simp
    have hv : xs[pre.length]? = some v := by rw [hx]; simp
    obtain ⟨r, h, hq⟩ := hs pre.length v suf s hi hv hg fun s' hg' => by
      have := ih (pre ++ [v]) s' (by rw [hx]; simp) hg'
      rw [List.length_append] at this
      rw [wrap_nat (by omega)]
      exact this
    exact ⟨r, Evt.succ (fun k => hF k _ s) (Evt.pos (by simpa using hi) (Evt.some_bind (by rw [rd_nat]; exact hv) h)), hq⟩
theorem sortK_mem {V : Type} {m : List (ByteArray × V)} {n : ByteArray} (h : n ∈ sortK m) : ∃ e ∈ m, n = e.1 := by
  unfold sortK at h
  obtain ⟨l, hl, rfl⟩ := List.mem_map.mp h
  have h2 := (List.mergeSort_perm (strK m) _).mem_iff.mp hl
  obtain ⟨e, he, rfl⟩ := List.mem_map.mp h2
  exact ⟨e, he, rfl⟩
theorem sortK_len {V : Type} (m : List (ByteArray × V)) : (sortK m).length = m.length := by
  unfold sortK strK
  rw [List.length_map, List.length_mergeSort, List.length_map]
theorem Ok.cut {p : List Int} {B : Nat} {m : List (ByteArray × vdisk_file)} (h : Ok p B m) {n : ByteArray} (hn : n = ⟨#[97]⟩ ∨ n = ⟨#[98]⟩) {q : Int} (h1 : (fl n m).sure ≤ q) (h2 : q ≤ ((fl n m).b.length : Int)) : Ok p (B + 1) (mset n ⟨sub (fl n m).b 0 q, q⟩ m) := by
  have hs := h.sure n
  obtain ⟨t, rfl⟩ := Int.eq_ofNat_of_zero_le (by omega : 0 ≤ q)
  have hl := h.len n
  rw [sub_take]
  have htl : ((fl n m).b.take t).length = t := by rw [List.length_take]; omega
  refine h.set hn (by omega) ⟨by show (0 : Int) ≤ (t : Int); omega, by show (t : Int) ≤ _; rw [htl]; exact Int.le_refl _⟩ (by show ((fl n m).b.take t).length ≤ _; rw [htl]; omega) (by have := h.size; omega) fun hn' => ?_
  subst hn'
  have hp := h.pre
  have hf := h.far
  refine ⟨?_, by show (p.length : Int) ≤ (t : Int); omega⟩
  obtain ⟨r, hr⟩ := hp
  show p <+: (fl ⟨#[97]⟩ m).b.take t
  rw [← hr, List.take_append]
  rw [List.take_of_length_le (by omega)]
  exact List.prefix_append _ _
theorem crash_ev (D : vdisk_Disk) (keeps : List Int) (p : List Int) (B : Nat) (h : Ok p B D.files) (hB : B ≤ 1099511627776) (hk : keeps.length ≤ 1048576) :
    ∃ r : Int × vdisk_Disk, Evt (fun k => vdisk_Disk_Crash.f k D keeps) r ∧ (r.1 = 0 ∧ r.2.dead = false ∧ Ok p (B + B) r.2.files) := by
  have hsz := h.size
  have hok : okK D.files = true := by
    unfold okK
    rw [Bool.and_eq_true, decide_eq_true_eq, List.all_eq_true]
    refine ⟨by omega, fun e he => ?_⟩
    rcases h.keys e he with h1 | h1 <;> rw [h1] <;> decide
  have hnl := sortK_len D.files
  simp only [vdisk_Disk_Crash.f, vdisk_Disk_none.f, vdisk_Disk_Names.f]
  have key : ∃ r : Int × vdisk_Disk, Evt (fun k => vdisk_Disk_Crash.l0 k D.room D.used D.dead D.files 0 keeps (sortK D.files, D)) r ∧ (r.1 = 0 ∧ r.2.dead = false ∧ Ok p (B + B) r.2.files) := by
    refine loop_ex (xs := sortK D.files) (F := fun k i (s : Int × Int × Bool × List (ByteArray × vdisk_file)) => vdisk_Disk_Crash.l0 k s.1 s.2.1 s.2.2.1 s.2.2.2 i keeps (sortK D.files, D)) (E := fun _ s => some (0, (⟨s.2.2.2, s.1, s.2.1, (), false⟩ : vdisk_Disk)))
      (Good := fun suf s => (∀ n ∈ suf, n ∈ sortK D.files) ∧ suf.length ≤ B ∧ Ok p (B + (B - suf.length)) s.2.2.2) (Q := fun r => r.1 = 0 ∧ r.2.dead = false ∧ Ok p (B + B) r.2.files) (by omega) (fun k i s => by rw [vdisk_Disk_Crash.l0])
      (fun s hg => ⟨_, .pure _, rfl, rfl, hg.2.2.mono (by omega)⟩) ?_ _ [] (D.room, D.used, D.dead, D.files) rfl ⟨fun n hn => hn, (show (sortK D.files).length ≤ B by rw [hnl]; exact hsz), h.mono (by omega)⟩
    intro i v suf s hi hv hg ih
    obtain ⟨g1, g2, g3⟩ := hg
    simp only [List.length_cons] at g2 g3
    have hn : v = ⟨#[97]⟩ ∨ v = ⟨#[98]⟩ := by
      obtain ⟨e, he, rfl⟩ := sortK_mem (g1 v (by simp))
      exact h.keys e he
    have hsu := g3.sure v
    have hle := g3.len v
    have go : ∀ q : Int, (fl v s.2.2.2).sure ≤ q → q ≤ ((fl v s.2.2.2).b.length : Int) → ∃ r : Int × vdisk_Disk, Evt (fun k => (vdisk_Disk_set.f k (⟨s.2.2.2, s.1, s.2.1, (), s.2.2.1⟩ : vdisk_Disk) v (⟨sub (fl v s.2.2.2).b 0 q, q⟩ : vdisk_file)).bind fun r17 => vdisk_Disk_Crash.l0 k r17.room r17.used r17.dead r17.files (IntKind.i64.wrap ((i : Nat) + 1)) keeps (sortK D.files, D)) r ∧ (r.1 = 0 ∧ r.2.dead = false ∧ Ok p (B + B) r.2.files) := by
      intro q h1 h2
      obtain ⟨u, hu⟩ := set_ev (⟨s.2.2.2, s.1, s.2.1, (), s.2.2.1⟩ : vdisk_Disk) v (⟨sub (fl v s.2.2.2).b 0 q, q⟩ : vdisk_file)
      obtain ⟨r, hr, hq⟩ := ih (s.1, u, s.2.2.1, mset v ⟨sub (fl v s.2.2.2).b 0 q, q⟩ s.2.2.2) ⟨fun n hn => g1 n (by simp [hn]), by omega, (g3.cut hn h1 h2).mono (by omega)⟩
      exact ⟨r, Evt.bind hu hr, hq⟩
    by_cases hk1 : i < keeps.length
    · by_cases hk2 : keeps[i] > 0
      · have hw1 : IntKind.i64.wrap (((fl v s.2.2.2).b.length : Int) - (fl v s.2.2.2).sure) = ((fl v s.2.2.2).b.length : Int) - (fl v s.2.2.2).sure := wrap_i64 (by omega) (by omega)
        have hq : ∃ q : Int, IntKind.i64.wrap ((fl v s.2.2.2).sure + (if (IntKind.i64.wrap (((fl v s.2.2.2).b.length : Int) - (fl v s.2.2.2).sure)) < keeps[i] then (IntKind.i64.wrap (((fl v s.2.2.2).b.length : Int) - (fl v s.2.2.2).sure)) else keeps[i])) = q ∧ (fl v s.2.2.2).sure ≤ q ∧ q ≤ ((fl v s.2.2.2).b.length : Int) := by
          rw [hw1]
          split
          · exact ⟨_, rfl, by rw [wrap_i64 (by omega) (by omega)]; omega, by rw [wrap_i64 (by omega) (by omega)]; omega⟩
          · exact ⟨_, rfl, by rw [wrap_i64 (by omega) (by omega)]; omega, by rw [wrap_i64 (by omega) (by omega)]; omega⟩
        obtain ⟨q, e, h1, h2⟩ := hq
        obtain ⟨r, hr, hq⟩ := go q h1 h2
        refine ⟨r, Evt.pos (by simpa using hk1) (Evt.some_bind (rd_lt hk1) (Evt.pos (by simpa using hk2) (Evt.some_bind (rd_lt hk1) ?_))), hq⟩
        have e' := e
        unfold fl zf at e'
        rw [e']
        refine Evt.pos (by rw [decide_eq_true_eq]; exact ⟨by omega, h2⟩) ?_
        exact hr
      · obtain ⟨r, hr, hq⟩ := go _ (Int.le_refl _) hsu.2
        exact ⟨r, Evt.pos (by simpa using hk1) (Evt.some_bind (rd_lt hk1) (Evt.neg (by simpa using hk2) (Evt.pos (by rw [decide_eq_true_eq]; exact hsu) hr))), hq⟩
    · obtain ⟨r, hr, hq⟩ := go _ (Int.le_refl _) hsu.2
      exact ⟨r, Evt.neg (by simpa using hk1) (Evt.pos (by rw [decide_eq_true_eq]; exact hsu) hr), hq⟩
  obtain ⟨r, hr, hq⟩ := key
  exact ⟨r, Evt.bind (.pure _) (Evt.neg (by simp) (Evt.bind (Evt.bind (.pure _) (Evt.neg (by simp) (Evt.pos hok (.pure _)))) hr)), hq⟩
end Go.Abs.GenV
