import Derived.Test.YtdpakmmkponfmaaPlZE
set_option linter.unusedVariables false
set_option linter.unusedSimpArgs false
set_option maxRecDepth 100000
set_option maxHeartbeats 4000000
namespace Go.Abs.GenZ
open Go.Abs

/-! ### the names, in order -/
theorem names_eq {N : Nat} {D : VD} {Y : RD} (h : Rel N D Y) (hN : N ≤ 1000000000) : okK D.files = true ∧ sortK D.files = Y.L.map (·.Name) := by
 have hn1 : (strK D.files).Nodup := by
  have : strK D.files = (keys D.files).map key := by simp [strK, keys, key]
  rw [this]
  exact List.pairwise_map.mpr (List.Pairwise.imp (fun {a b} hab e => hab (key_inj e)) h.ag.1)
 have hn2 : (Y.L.map fun f => key f.Name).Nodup := by
  refine List.pairwise_map.mpr (List.Pairwise.imp (fun {a b} hab e => ?_) h.srt)
  exact kl_ne hab (key_inj e)
 have hmem : ∀ x, x ∈ strK D.files ↔ x ∈ Y.L.map fun f => key f.Name := by
  intro x
  have h1 : ∀ n : ByteArray, n ∈ keys D.files ↔ ∃ f ∈ Y.L, f.Name = n := by
   intro n
   rw [← mget_isSome, agree_some h.ag]
   constructor
   ·intro hs
    cases hq : fnd n Y.L with
    | none => rw [hq] at hs; cases hs
    | some f => exact ⟨f, fnd_mem hq⟩
   ·rintro ⟨f, hf, hfn⟩
    unfold fnd
    rw [List.find?_isSome]
    exact ⟨f, hf, by simpa using hfn⟩
  simp only [strK, List.mem_map]
  constructor
  ·rintro ⟨e, he, rfl⟩
   obtain ⟨f, hf, hfn⟩ := (h1 e.1).mp (List.mem_map.mpr ⟨e, he, rfl⟩)
   exact ⟨f, hf, by rw [hfn]⟩
  ·rintro ⟨f, hf, rfl⟩
   obtain ⟨e, he, hen⟩ := List.mem_map.mp ((h1 f.Name).mpr ⟨f, hf, rfl⟩)
   exact ⟨e, he, by rw [hen]⟩
 have hp : (strK D.files).Perm (Y.L.map fun f => key f.Name) := (List.perm_ext_iff_of_nodup hn1 hn2).mpr hmem
 have hlen : D.files.length = Y.L.length := by have := hp.length_eq; simpa [strK] using this
 constructor
 ·have hl := h.len
  unfold okK
  rw [Bool.and_eq_true, decide_eq_true_eq, List.all_eq_true]
  refine ⟨by omega, fun e he => ?_⟩
  have : e.1.data.toList ∈ Y.L.map fun f => key f.Name := (hmem _).mp (List.mem_map.mpr ⟨e, he, rfl⟩)
  obtain ⟨f, hf, hfe⟩ := List.mem_map.mp this
  have h3 := h.nm f hf
  have : f.Name = e.1 := key_inj hfe
  rw [← this, decide_eq_true_eq]
  have : maxLen = 9223372036854775807 := by decide
  omega
 ·have hs : ((strK D.files).mergeSort fun x y => decide (x ≤ y)) = Y.L.map fun f => key f.Name := by
   refine List.Perm.eq_of_pairwise (le := fun a b : List UInt8 => decide (a ≤ b) = true) (fun a b _ _ h1 h2 => List.le_antisymm (of_decide_eq_true h1) (of_decide_eq_true h2))
    (List.pairwise_mergeSort (fun a b c h1 h2 => by simp only [decide_eq_true_eq] at *; exact List.le_trans h1 h2) (fun a b => by simp only [Bool.or_eq_true, decide_eq_true_eq]; exact List.le_total a b) _) ?_ ((List.mergeSort_perm _ _).trans hp)
   refine List.pairwise_map.mpr (List.Pairwise.imp (fun {a b} hab => ?_) h.srt)
   exact decide_eq_true (List.not_lt.mp fun e => kl_irrefl _ (kl_trans hab e))
  unfold sortK
  rw [hs, List.map_map]
  refine List.map_congr_left fun f _ => ?_
  show (⟨(f.Name.data.toList).toArray⟩ : ByteArray) = f.Name
  simp

/-! ### a crash -/
theorem crs_app (keeps : List Int) : ∀ (a : List Fl) (k : Nat) (g : Fl), crs keeps k (a ++ [g]) = crs keeps k a ++ [crF keeps (k + a.length) g]
 | [], k, g => rfl
 | x :: a, k, g => by
  rw [List.cons_append, crs, crs, crs_app keeps a (k + 1) g, List.cons_append, List.length_cons, show k + 1 + a.length = k + (a.length + 1) by omega]
theorem crs_names (keeps : List Int) : ∀ (a : List Fl) (k : Nat), (crs keeps k a).map (·.Name) = a.map (·.Name)
 | [], k => rfl
 | x :: a, k => by rw [crs, List.map_cons, List.map_cons, crs_names keeps a (k + 1)]; rfl
theorem usum_app : ∀ a b : List Fl, usum (a ++ b) = usum a + usum b
 | [], b => by simp [usum]
 | x :: a, b => by rw [List.cons_append, usum, usum, usum_app a b]; omega
theorem crs_us (keeps : List Int) : ∀ (a : List Fl) (k : Nat), usum (crs keeps k a) ≤ usum a
 | [], k => Nat.le_refl _
 | x :: a, k => by
  have := crs_us keeps a (k + 1)
  rw [crs, usum, usum]
  have : (crF keeps k x).B.length ≤ x.B.length := by simp [crF]; omega
  omega
theorem crs_srt (keeps : List Int) (a : List Fl) (k : Nat) (h : Srt a) : Srt (crs keeps k a) := by
 have h1 : (a.map (·.Name)).Pairwise kl := List.pairwise_map.mpr h
 rw [← crs_names keeps a k] at h1
 exact List.pairwise_map.mp h1
theorem crs_mem (keeps : List Int) : ∀ (a : List Fl) (k : Nat), ∀ g ∈ crs keeps k a, ∃ f ∈ a, ∃ j, g = crF keeps j f
 | [], k, g, h => by simp [crs] at h
 | x :: a, k, g, h => by
  rw [crs] at h
  rcases List.mem_cons.mp h with h | h
  ·exact ⟨x, by simp, k, h⟩
  ·obtain ⟨f, hf, j, hj⟩ := crs_mem keeps a (k + 1) g h
   exact ⟨f, by simp [hf], j, hj⟩
theorem srt_mid {a b : List Fl} {g : Fl} (h : Srt (a ++ g :: b)) : ∀ f ∈ a, f.Name ≠ g.Name := by
 intro f hf
 have := List.pairwise_append.mp h
 exact kl_ne (this.2.2 f hf g (by simp))
structure CrS (Y : RD) (keeps : List Int) (m : List (ByteArray × vdisk_file)) (u : Int) (L : List Fl) : Prop where
 ag : Agree m L
 us : u = usum L
theorem cr_step {Y : RD} {keeps : List Int} {m : List (ByteArray × vdisk_file)} {u : Int} {pre t : List Fl} {g : Fl} (hY : Y.L = pre ++ g :: t) (hs : Srt Y.L) (hu : usum Y.L ≤ 4194304) (hq : CrS Y keeps m u (crs keeps 0 pre ++ g :: t)) (room : Int) (fz : Option Int) (dead : Bool) :
  lk g.Name m = vf g ∧ (setD ⟨m, room, u, fz, dead⟩ g.Name (vf (crF keeps pre.length g))).room = room ∧ (setD ⟨m, room, u, fz, dead⟩ g.Name (vf (crF keeps pre.length g))).dead = dead ∧
   CrS Y keeps (setD ⟨m, room, u, fz, dead⟩ g.Name (vf (crF keeps pre.length g))).files (setD ⟨m, room, u, fz, dead⟩ g.Name (vf (crF keeps pre.length g))).used (crs keeps 0 (pre ++ [g]) ++ t) := by
 have hne : ∀ f ∈ crs keeps 0 pre, f.Name ≠ g.Name := by
  intro f hf
  obtain ⟨f', hf', j, rfl⟩ := crs_mem keeps pre 0 f hf
  have := srt_mid (by rw [← hY]; exact hs) f' hf'
  exact this
 have hlk : lk g.Name m = vf g := by
  rw [agree_lk hq.ag, fnd_app, fnd_notin hne, fnd_cons, if_pos rfl]; rfl
 refine ⟨hlk, rfl, rfl, ?_, ?_⟩
 ·rw [crs_app, Nat.zero_add, List.append_assoc]
  exact agree_mid hq.ag (g' := crF keeps pre.length g) rfl hne
 ·show IntKind.i64.wrap (u + IntKind.i64.wrap (((crF keeps pre.length g).B.length : Int) - ((lk g.Name m).b.length : Int))) = _
  have h1 := crs_us keeps pre 0
  have h2 : usum Y.L = usum pre + (g.B.length + usum t) := by rw [hY, usum_app, usum]
  have h3 := hq.us
  rw [usum_app, usum] at h3
  have h4 : (crF keeps pre.length g).B.length ≤ g.B.length := by simp [crF]; omega
  have h5 : ((lk g.Name m).b.length : Int) = g.B.length := by rw [hlk]; rfl
  rw [h5, crs_app, Nat.zero_add, usum_app, usum_app, usum, usum, wrap_i64 (n := ((crF keeps pre.length g).B.length : Int) - _) (by omega) (by omega), wrap_i64 (by omega) (by omega)]
  omega
theorem crashP_suf {Y : RD} (keeps : List Int) (hk : keeps.length < 9223372036854775807) (hs : Srt Y.L) (hsu : Sur Y.L) (hu : usum Y.L ≤ 4194304) (hl : Y.L.length < 9223372036854775807) (room : Int) (fz : Option Int) (dead : Bool) : ∀ t pre m u, Y.L = pre ++ t → CrS Y keeps m u (crs keeps 0 pre ++ t) →
  ∃ m' u', Evt (fun k => vdisk_Disk_Crash.l0 k fz room u dead m (pre.length : Int) keeps (Y.L.map (·.Name))) (0, ⟨m', room, u', none, false⟩) ∧ CrS Y keeps m' u' (crs keeps 0 Y.L)
 | [], pre, m, u, hY, hq => by
  rw [List.append_nil] at hY hq
  refine ⟨m, u, Evt.succ (fun k => by rw [vdisk_Disk_Crash.l0]) (Evt.neg (by rw [hY]; simp) (.pure _)), by rw [hY]; exact hq⟩
 | g :: t, pre, m, u, hY, hq => by
  obtain ⟨h1, h2, h3, h4⟩ := cr_step hY hs hu hq room fz dead
  have hg : g ∈ Y.L := by rw [hY]; simp
  have hgb := mem_usum hg
  have hv : (Y.L.map (·.Name))[pre.length]? = some g.Name := by rw [hY]; simp
  have hlt : pre.length < Y.L.length := by rw [hY]; simp
  obtain ⟨s1, s2⟩ := hsu g hg
  obtain ⟨m1, m2⟩ := more_le keeps pre.length g ⟨s1, s2⟩
  obtain ⟨m', u', h5, h6⟩ := crashP_suf keeps hk hs hsu hu hl room fz dead t (pre ++ [g]) _ _ (by rw [hY]; simp) h4
  refine ⟨m', u', ?_, h6⟩
  rw [List.length_append] at h5
  have h1' : lk_vdisk_file g.Name m = vf g := h1
  have e1 : sub g.B 0 (g.Sure + more keeps pre.length g) = g.B.take (g.Sure + more keeps pre.length g).toNat := by simp [sub]
  have tail : ∀ nn : Int, nn = g.Sure + more keeps pre.length g → Evt (fun k => if (decide (0 ≤ nn ∧ nn ≤ ((vf g).b.length : Int))) = true then ((vdisk_Disk_set.f k (⟨m, room, u, fz, dead⟩ : VD) g.Name (⟨sub (vf g).b 0 nn, nn⟩ : vdisk_file)).bind fun r16 => vdisk_Disk_Crash.l0 k r16.fuse r16.room r16.used r16.dead r16.files (IntKind.i64.wrap ((pre.length : Int) + 1)) keeps (Y.L.map (·.Name))) else none) (0, ⟨m', room, u', none, false⟩) := by
   rintro nn rfl
   refine Evt.pos (by rw [decide_eq_true_eq]; show 0 ≤ _ ∧ _ ≤ (g.B.length : Int); omega) (Evt.bind (setP_ev _ _ _) ?_)
   rw [wrap_nat (by omega)]
   have e2 : (⟨sub (vf g).b 0 (g.Sure + more keeps pre.length g), g.Sure + more keeps pre.length g⟩ : vdisk_file) = vf (crF keeps pre.length g) := by
    show (⟨sub g.B 0 _, _⟩ : vdisk_file) = _
    rw [e1]; rfl
   rw [e2]
   exact h5
  refine Evt.succ (fun k => by rw [vdisk_Disk_Crash.l0]) ?_
  refine Evt.pos (by simpa using hlt) ?_
  refine Evt.some_bind (by rw [rd_nat]; exact hv) ?_
  rw [h1']
  by_cases hc : pre.length < keeps.length
  ·refine Evt.pos (by simpa using hc) (Evt.some_bind (rd_lt hc) ?_)
   have em : more keeps pre.length g = max 0 (min keeps[pre.length] ((g.B.length : Int) - g.Sure)) := by rw [more, List.getElem?_eq_getElem hc]
   by_cases hp : keeps[pre.length] > 0
   ·refine Evt.pos (by simpa using hp) (Evt.some_bind (rd_lt hc) (tail _ ?_))
    show IntKind.i64.wrap (g.Sure + (if IntKind.i64.wrap ((g.B.length : Int) - g.Sure) < keeps[pre.length] then IntKind.i64.wrap ((g.B.length : Int) - g.Sure) else keeps[pre.length])) = _
    rw [wrap_i64 (n := (g.B.length : Int) - g.Sure) (by omega) (by omega), wrap_i64 (by split <;> omega) (by split <;> omega)]
    omega
   ·refine Evt.neg (by simpa using hp) (tail _ ?_)
    show g.Sure = _
    omega
  ·refine Evt.neg (by simpa using hc) (tail _ ?_)
   show g.Sure = _
   have em : more keeps pre.length g = 0 := by rw [more, List.getElem?_eq_none (by omega)]
   omega
theorem crashP {N : Nat} {D : VD} {Y : RD} (h : Rel N D Y) (hN : N ≤ 1000000000) (keeps : List Int) (hk : keeps.length < 9223372036854775807) :
  ∃ D', Evt (fun k => vdisk_Disk_Crash.f k D keeps) (0, D') ∧ Rel N D' ⟨crs keeps 0 Y.L, Y.Most, -1, false⟩ := by
 obtain ⟨n1, n2⟩ := names_eq h hN
 have hl := h.len
 obtain ⟨m', u', h1, h2⟩ := crashP_suf keeps hk h.srt h.sur h.us (by omega) D.room D.fuse D.dead Y.L [] D.files D.used rfl ⟨h.ag, h.used⟩
 refine ⟨⟨m', D.room, u', none, false⟩, ?_, ?_⟩
 ·simp only [vdisk_Disk_Crash.f, vdisk_Disk_none.f, vdisk_Disk_Names.f, Option.bind_some]
  refine Evt.bind (Evt.pos n1 (.pure _)) ?_
  rw [n2]; exact h1
 ·have hc := crs_us keeps Y.L 0
  have hus := h.us
  refine ⟨crs_srt _ _ _ h.srt, h2.ag, h2.us, by show usum (crs keeps 0 Y.L) ≤ _; omega, ?_, h.room, h.most, rfl, rfl, ?_, ?_⟩
  ·have := congrArg List.length (crs_names keeps Y.L 0)
   simp only [List.length_map] at this
   show (crs keeps 0 Y.L).length ≤ N
   omega
  ·intro g hg
   obtain ⟨f, hf, j, rfl⟩ := crs_mem keeps Y.L 0 g hg
   have hs := h.sur f hf
   obtain ⟨m1, m2⟩ := more_le keeps j f hs
   show 0 ≤ f.Sure + more keeps j f ∧ f.Sure + more keeps j f ≤ ((f.B.take (f.Sure + more keeps j f).toNat).length : Int)
   rw [List.length_take]; omega
  ·intro g hg
   obtain ⟨f, hf, j, rfl⟩ := crs_mem keeps Y.L 0 g hg
   exact h.nm f hf
end Go.Abs.GenZ
