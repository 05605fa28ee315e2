import Derived.Test.YtgeieafnnlmfdaaPlKF
set_option linter.unusedVariables false
set_option linter.unusedSimpArgs false
set_option maxRecDepth 100000
set_option maxHeartbeats 4000000
namespace Go.Abs.GenK
open Go.Abs
/-! ### the disk turned off and on -/
theorem okK1 (f : vdisk_file) : okK [(nm, f)] = true := by rfl
theorem okK2 (f g : vdisk_file) : okK [(nm, f), (nn, g)] = true := by rfl
theorem sortK1 (f : vdisk_file) : sortK [(nm, f)] = [nm] := by
 show ([nm.data.toList].mergeSort fun x y => decide (x ≤ y)).map (fun l => (⟨l.toArray⟩ : ByteArray)) = [nm]
 rw [List.mergeSort_of_pairwise (List.pairwise_singleton _ _)]
 rfl
theorem sortK2 (f g : vdisk_file) : sortK [(nm, f), (nn, g)] = [nm, nn] := by
 show ([nm.data.toList, nn.data.toList].mergeSort fun x y => decide (x ≤ y)).map (fun l => (⟨l.toArray⟩ : ByteArray)) = [nm, nn]
 have h : decide (nm.data.toList ≤ nn.data.toList) = true := by decide
 rw [List.mergeSort_of_pairwise (by
  refine List.pairwise_cons.mpr ⟨fun x hx => ?_, List.pairwise_singleton _ _⟩
  rw [List.mem_singleton] at hx
  subst hx
  exact h)]
 rfl
theorem crash_step {D : VD} {keeps : List Int} {names : List ByteArray} {q : Int} {i : Nat} {n : ByteArray} (hi : names[i]? = some n) (hil : i < 1000)
  (hs : 0 ≤ (lk n D.files).sure ∧ (lk n D.files).sure ≤ ((lk n D.files).b.length : Int)) (hb : (lk n D.files).b.length ≤ 4194304) :
  ∃ m : Nat, (lk n D.files).sure ≤ m ∧ m ≤ (lk n D.files).b.length ∧ ∀ r, Evt (fun k => vdisk_Disk_Crash_16.l0 k (setD D n ⟨(lk n D.files).b.take m, (m : Int)⟩).room (setD D n ⟨(lk n D.files).b.take m, (m : Int)⟩).used (setD D n ⟨(lk n D.files).b.take m, (m : Int)⟩).dead (setD D n ⟨(lk n D.files).b.take m, (m : Int)⟩).files ((i + 1 : Nat) : Int) q keeps names) r →
   Evt (fun k => vdisk_Disk_Crash_16.l0 k D.room D.used D.dead D.files (i : Int) q keeps names) r := by
 have hlt : i < names.length := by
  rcases Nat.lt_or_ge i names.length with h | h
  ·exact h
  ·rw [List.getElem?_eq_none h] at hi; cases hi
 have fin : ∀ (m : Nat) (z : Int), z = (m : Int) → m ≤ (lk n D.files).b.length → ∀ r, Evt (fun k => vdisk_Disk_Crash_16.l0 k (setD D n ⟨(lk n D.files).b.take m, (m : Int)⟩).room (setD D n ⟨(lk n D.files).b.take m, (m : Int)⟩).used (setD D n ⟨(lk n D.files).b.take m, (m : Int)⟩).dead (setD D n ⟨(lk n D.files).b.take m, (m : Int)⟩).files ((i + 1 : Nat) : Int) q keeps names) r →
   Evt (fun k => if (decide (0 ≤ z ∧ z ≤ ((lk n D.files).b.length : Int))) = true then ((vdisk_Disk_set_36.f k (⟨D.files, D.room, D.used, (), D.dead⟩ : vdisk_Disk) n (⟨sub (lk n D.files).b 0 z, z⟩ : vdisk_file) q).bind fun r16 => vdisk_Disk_Crash_16.l0 k r16.room r16.used r16.dead r16.files (IntKind.i64.wrap ((i : Int) + 1)) q keeps names) else none) r := by
  rintro m z rfl hm r hr
  refine Evt.pos (by rw [decide_eq_true_eq]; omega) (Evt.bind (setP1 _ _ _ _) ?_)
  rw [sub_take, wrap_nat (by omega)]; exact hr
 have rdn : rd names (i : Int) = some n := by rw [rd_nat]; exact hi
 by_cases hk : i < keeps.length
 ·by_cases hv : keeps[i] > 0
  ·refine ⟨((lk n D.files).sure + (if ((lk n D.files).b.length : Int) - (lk n D.files).sure < keeps[i] then ((lk n D.files).b.length : Int) - (lk n D.files).sure else keeps[i])).toNat, by split <;> omega, by split <;> omega, fun r hr => ?_⟩
   refine Evt.succ (fun k => by rw [vdisk_Disk_Crash_16.l0]) (Evt.pos (by simpa using hlt) (Evt.some_bind rdn ?_))
   refine Evt.pos (by simpa using hk) (Evt.some_bind (rd_lt hk) (Evt.pos (by simpa using hv) (Evt.some_bind (rd_lt hk) ?_)))
   refine fin _ _ ?_ (by split <;> omega) r hr
   show IntKind.i64.wrap ((lk n D.files).sure + (if IntKind.i64.wrap (((lk n D.files).b.length : Int) - (lk n D.files).sure) < keeps[i] then IntKind.i64.wrap (((lk n D.files).b.length : Int) - (lk n D.files).sure) else keeps[i])) = _
   rw [wrap_i64 (n := ((lk n D.files).b.length : Int) - (lk n D.files).sure) (by omega) (by omega)]
   split
   ·rw [wrap_i64] <;> omega
   ·rw [wrap_i64] <;> omega
  ·refine ⟨(lk n D.files).sure.toNat, by omega, by omega, fun r hr => ?_⟩
   refine Evt.succ (fun k => by rw [vdisk_Disk_Crash_16.l0]) (Evt.pos (by simpa using hlt) (Evt.some_bind rdn ?_))
   refine Evt.pos (by simpa using hk) (Evt.some_bind (rd_lt hk) (Evt.neg (by simpa using hv) ?_))
   exact fin _ (lk n D.files).sure (by omega) (by omega) r hr
 ·refine ⟨(lk n D.files).sure.toNat, by omega, by omega, fun r hr => ?_⟩
  refine Evt.succ (fun k => by rw [vdisk_Disk_Crash_16.l0]) (Evt.pos (by simpa using hlt) (Evt.some_bind rdn ?_))
  refine Evt.neg (by simpa using hk) ?_
  exact fin _ (lk n D.files).sure (by omega) (by omega) r hr
theorem set1 {R : Int} {c : List Int} {s : Int} {x : Bool} {m : Nat} (hm : m ≤ c.length) (hc : c.length ≤ 4194304) : setD (d1 R c s x) nm ⟨c.take m, (m : Int)⟩ = d1 R (c.take m) ((c.take m).length : Int) x := by
 have hl : (c.take m).length = m := by rw [List.length_take]; omega
 simp only [setD, d1, lk, lk_vdisk_file, mget, mset, b11, if_true, Option.getD_some, hl]
 congr 1
 rw [wrap_i64 (n := (m : Int) - (c.length : Int)) (by omega) (by omega), wrap_i64] <;> omega
theorem set2a {R : Int} {c g : List Int} {s q : Int} {x : Bool} {m : Nat} (hm : m ≤ c.length) (hc : c.length + g.length ≤ 4194304) : setD (d2 R c s g q x) nm ⟨c.take m, (m : Int)⟩ = d2 R (c.take m) ((c.take m).length : Int) g q x := by
 have hl : (c.take m).length = m := by rw [List.length_take]; omega
 simp only [setD, d2, lk, lk_vdisk_file, mget, mset, b11, if_true, Option.getD_some, hl]
 congr 1
 rw [wrap_i64 (n := (m : Int) - (c.length : Int)) (by omega) (by omega), wrap_i64] <;> omega
theorem set2b {R : Int} {c g : List Int} {s q : Int} {x : Bool} {m : Nat} (hm : m ≤ g.length) (hc : c.length + g.length ≤ 4194304) : setD (d2 R c s g q x) nn ⟨g.take m, (m : Int)⟩ = d2 R c s (g.take m) ((g.take m).length : Int) x := by
 have hl : (g.take m).length = m := by rw [List.length_take]; omega
 simp only [setD, d2, lk, lk_vdisk_file, mget, mset, b21, b22, if_true, if_false, Bool.false_eq_true, Option.getD_some, hl]
 congr 1
 rw [wrap_i64 (n := (m : Int) - (g.length : Int)) (by omega) (by omega), wrap_i64] <;> omega
theorem lk_d2 (R : Int) (c : List Int) (s : Int) (g : List Int) (q : Int) (x : Bool) : lk nm (d2 R c s g q x).files = ⟨c, s⟩ := by simp only [d2, lk, lk_vdisk_file, mget, b11, if_true, Option.getD_some]
theorem lk_d2n (R : Int) (c : List Int) (s : Int) (g : List Int) (q : Int) (x : Bool) : lk nn (d2 R c s g q x).files = ⟨g, q⟩ := by simp only [d2, lk, lk_vdisk_file, mget, b21, b22, if_true, if_false, Bool.false_eq_true, Option.getD_some]
theorem crash1 {R : Int} {c : List Int} {s : Int} {x : Bool} (keeps : List Int) (p : Int) (hs : 0 ≤ s ∧ s ≤ (c.length : Int)) (hc : c.length ≤ 4194304) :
  ∃ n : Nat, s ≤ n ∧ n ≤ c.length ∧ Evt (fun k => vdisk_Disk_Crash_16.f k (d1 R c s x) p keeps) (0, d1 R (c.take n) ((c.take n).length : Int) false) := by
 obtain ⟨m, m1, m2, h⟩ := crash_step (D := d1 R c s x) (keeps := keeps) (names := [nm]) (q := p) (i := 0) (n := nm) rfl (by omega) (by rw [lk_d1]; exact hs) (by rw [lk_d1]; exact hc)
 rw [lk_d1] at m1 m2 h
 replace m1 : s ≤ (m : Int) := m1
 replace m2 : m ≤ c.length := m2
 rw [set1 m2 hc] at h
 refine ⟨m, m1, m2, ?_⟩
 simp only [vdisk_Disk_Crash_16.f, vdisk_Disk_none_34.f, vdisk_Disk_Names.f, Option.bind_some]
 refine Evt.bind (Evt.pos (okK1 _) (.pure _)) ?_
 rw [show sortK (d1 R c s x).files = [nm] from sortK1 _]
 refine h _ ?_
 refine Evt.succ (fun k => by rw [vdisk_Disk_Crash_16.l0]) (Evt.neg (by decide) ?_)
 exact .pure _
theorem crash2 {R : Int} {c g : List Int} {s q : Int} {x : Bool} (keeps : List Int) (p : Int) (hs : 0 ≤ s ∧ s ≤ (c.length : Int)) (hq : 0 ≤ q ∧ q ≤ (g.length : Int)) (hc : c.length + g.length ≤ 4194304) :
  ∃ n m : Nat, (s ≤ n ∧ n ≤ c.length) ∧ (q ≤ m ∧ m ≤ g.length) ∧ Evt (fun k => vdisk_Disk_Crash_16.f k (d2 R c s g q x) p keeps) (0, d2 R (c.take n) ((c.take n).length : Int) (g.take m) ((g.take m).length : Int) false) := by
 obtain ⟨n, n1, n2, h⟩ := crash_step (D := d2 R c s g q x) (keeps := keeps) (names := [nm, nn]) (q := p) (i := 0) (n := nm) rfl (by omega) (by rw [lk_d2]; exact hs) (by rw [lk_d2]; show c.length ≤ _; omega)
 rw [lk_d2] at n1 n2 h
 replace n1 : s ≤ (n : Int) := n1
 replace n2 : n ≤ c.length := n2
 rw [set2a n2 hc] at h
 have hl : (c.take n).length ≤ c.length := by rw [List.length_take]; omega
 obtain ⟨m, m1, m2, h'⟩ := crash_step (D := d2 R (c.take n) ((c.take n).length : Int) g q x) (keeps := keeps) (names := [nm, nn]) (q := p) (i := 1) (n := nn) rfl (by omega) (by rw [lk_d2n]; exact hq) (by rw [lk_d2n]; show g.length ≤ _; omega)
 rw [lk_d2n] at m1 m2 h'
 replace m1 : q ≤ (m : Int) := m1
 replace m2 : m ≤ g.length := m2
 rw [set2b m2 (by omega)] at h'
 refine ⟨n, m, ⟨n1, n2⟩, ⟨m1, m2⟩, ?_⟩
 simp only [vdisk_Disk_Crash_16.f, vdisk_Disk_none_34.f, vdisk_Disk_Names.f, Option.bind_some]
 refine Evt.bind (Evt.pos (okK2 _ _) (.pure _)) ?_
 rw [show sortK (d2 R c s g q x).files = [nm, nn] from sortK2 _ _]
 refine h _ (h' _ ?_)
 refine Evt.succ (fun k => by rw [vdisk_Disk_Crash_16.l0]) (Evt.neg (by decide) ?_)
 exact .pure _
end Go.Abs.GenK
