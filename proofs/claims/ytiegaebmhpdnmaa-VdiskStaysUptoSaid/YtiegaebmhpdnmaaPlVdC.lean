import Derived.Test.YtiegaebmhpdnmaaPlVdB
set_option linter.unusedVariables false
set_option linter.unusedSimpArgs false
set_option maxRecDepth 100000
set_option maxHeartbeats 4000000
namespace Go.Abs.GenV
open Go.Abs

theorem read_ev (D : vdisk_Disk) (n : ByteArray) (h1 : D.dead = false) (h2 : (mget n D.files).isSome = true) (h3 : (fl n D.files).b.length ≤ 100000000000000) : Evt (fun k => vdisk_Disk_Read.f k D n) ((fl n D.files).b, 0, D) := by
  simp only [vdisk_Disk_Read.f, vdisk_Disk_none.f, slices_Clone_byte_byte.f]
  refine Evt.bind (.pure _) (Evt.neg (by simp) (Evt.neg (by simp [h1]) (Evt.pos h2 (Evt.bind (Evt.pos ?_ (.pure _)) (.pure _)))))
  have : (fl n D.files).b.length ≤ 140737488355328 := by omega
  unfold fl zf at this
  simpa using this
theorem prefix_ev (x p : List Int) (h : p <+: x) : Evt (fun k => bytes_HasPrefix.f k x p) true := by
  obtain ⟨r, rfl⟩ := h
  simp only [bytes_HasPrefix.f, bytes_Equal.f]
  refine Evt.pos (by simp; omega) (Evt.pos (by simp; omega) (Evt.bind (a := true) ?_ (.pure _)))
  rw [sub_take]
  simpa using Evt.pure true

/-! ### awake -/
theorem sort1 {V : Type} (k : ByteArray) (x : V) : sortK [(k, x)] = [k] := by
  unfold sortK strK
  simp
theorem append_first (D : vdisk_Disk) (n : ByteArray) (x : List Int) (hn : Evt (fun k => vdisk_named.f k n) true) (hd : D.dead = false) (hm : D.files = []) (hu : D.used = 0) (hr : (x.length : Int) ≤ D.room) (hl : x.length ≤ 1048576) (hr2 : D.room ≤ 1048576) :
    ∃ u, Evt (fun k => vdisk_Disk_Append.f k D n x) (0, ⟨[(n, ⟨x, 0⟩)], D.room, u, (), false⟩) := by
  have hc : Evt (fun k => vdisk_Disk_change.f k D true n true (x.length : Int)) (0, D) := by
    simp only [vdisk_Disk_change.f, vdisk_Disk_none.f]
    refine Evt.bind (.pure _) (Evt.neg (by simp) (Evt.pos (by simp) (Evt.neg (by simp [hd]) (Evt.neg (by simp [hm, mget]) (Evt.pos (by simp) ?_)))))
    by_cases h0 : (x.length : Int) > 0
    · refine Evt.pos (by simpa using h0) (Evt.neg ?_ (.pure _))
      show ¬ decide ((x.length : Int) > IntKind.i64.wrap (D.room - D.used)) = true
      rw [hu, wrap_i64 (by omega) (by omega)]
      simp; omega
    · exact Evt.neg (by simpa using h0) (.pure _)
  obtain ⟨u, hs⟩ := set_ev D n (⟨[] ++ x, 0⟩ : vdisk_file)
  rw [hm, hd] at hs
  simp only [vdisk_Disk_Append.f]
  refine ⟨u, Evt.bind hn (Evt.bind hc (Evt.pos rfl (Evt.bind (a := [] ++ x) ?_ (Evt.bind (a := (⟨mset n ⟨[] ++ x, 0⟩ [], D.room, u, (), false⟩ : vdisk_Disk)) ?_ (.pure _)))))⟩
  · rw [hm]; exact concat_ev [] x (by simp) (by omega)
  · rw [hm]; exact hs
theorem named_a : Evt (fun k => vdisk_named.f k (⟨#[97]⟩ : ByteArray)) true := by
  simp only [vdisk_named.f]
  refine Evt.neg (by rw [toList_beq]; decide) (.pure _)
theorem awake_ev : Evt (fun k => dossierlaw03_awake.f k) true := by
  simp only [dossierlaw03_awake.f, vdisk_New_8x.f]
  refine Evt.bind (.pure _) (Evt.neg (by simp) ?_)
  obtain ⟨u, ha⟩ := append_first (⟨[], 9, 0, (), false⟩ : vdisk_Disk) (⟨#[97]⟩ : ByteArray) [97, 98, 99] named_a rfl rfl rfl (by decide) (by decide) (by decide)
  refine Evt.bind ha (Evt.neg (by simp) ?_)
  have hf : ∀ f : vdisk_file, fl (⟨#[97]⟩ : ByteArray) [((⟨#[97]⟩ : ByteArray), f)] = f := fun f => by
    simp [fl, mget]
  have hcr : ∃ u', Evt (fun k => vdisk_Disk_Crash.f k (⟨[((⟨#[97]⟩ : ByteArray), ⟨[97, 98, 99], 0⟩)], 9, u, (), false⟩ : vdisk_Disk) ([2] : List Int)) (0, (⟨[((⟨#[97]⟩ : ByteArray), ⟨[97, 98], 2⟩)], 9, u', (), false⟩ : vdisk_Disk)) := by
    obtain ⟨u', hs⟩ := set_ev (⟨[((⟨#[97]⟩ : ByteArray), ⟨[97, 98, 99], 0⟩)], 9, u, (), false⟩ : vdisk_Disk) (⟨#[97]⟩ : ByteArray) (⟨[97, 98], 2⟩ : vdisk_file)
    refine ⟨u', ?_⟩
    simp only [vdisk_Disk_Crash.f, vdisk_Disk_none.f, vdisk_Disk_Names.f]
    refine Evt.bind (.pure _) (Evt.neg (by simp) (Evt.bind (a := ([(⟨#[97]⟩ : ByteArray)], _)) (Evt.bind (.pure _) (Evt.neg (by simp) (Evt.pos rfl (by rw [sort1]; exact .pure _)))) ?_))
    refine Evt.succ (fun k => by rw [vdisk_Disk_Crash.l0]) ?_
    refine Evt.pos rfl ?_
    refine Evt.some_bind (a := (⟨#[97]⟩ : ByteArray)) rfl ?_
    refine Evt.pos rfl ?_
    refine Evt.some_bind (a := 2) rfl ?_
    refine Evt.pos rfl ?_
    refine Evt.some_bind (a := 2) rfl ?_
    have e1 := hf ⟨[97, 98, 99], 0⟩
    unfold fl zf at e1
    rw [e1]
    refine Evt.pos (by decide) ?_
    refine Evt.bind hs ?_
    refine Evt.succ (fun k => by rw [vdisk_Disk_Crash.l0]) ?_
    refine Evt.neg (by rw [show IntKind.i64.wrap (0 + 1) = 1 from by decide]; simp) ?_
    have e2 : mset (⟨#[97]⟩ : ByteArray) (⟨[97, 98], 2⟩ : vdisk_file) [((⟨#[97]⟩ : ByteArray), ⟨[97, 98, 99], 0⟩)] = [((⟨#[97]⟩ : ByteArray), ⟨[97, 98], 2⟩)] := by simp [mset]
    rw [e2]
    exact .pure _
  obtain ⟨u', hc⟩ := hcr
  refine Evt.bind hc (Evt.neg (by simp) ?_)
  have hr := read_ev (⟨[((⟨#[97]⟩ : ByteArray), ⟨[97, 98], 2⟩)], 9, u', (), false⟩ : vdisk_Disk) (⟨#[97]⟩ : ByteArray) rfl (by simp [mget]) (by rw [hf]; decide)
  rw [hf] at hr
  refine Evt.bind hr (Evt.pos rfl ?_)
  have e : ((ofNums [97, 98]).toList == (⟨#[97, 98]⟩ : ByteArray).toList) = true := by rw [toList_beq]; decide
  rw [e]; exact .pure _

theorem stays_ev (a0 : List Int) (a1 : List (List Int)) (a2 : List Int) (h1 : a1.length ≤ 1048576) (h2 : a2.length ≤ 1048576) : Evt (fun k => dossierlaw03_VdiskStays.f k a0 a1 a2) true := by
  have hmin : ∀ l : List Int, ∃ t : Nat, (if 300 < (l.length : Int) then 300 else (l.length : Int)) = (t : Int) ∧ t ≤ l.length ∧ t ≤ 300 := by
    intro l
    by_cases h : 300 < (l.length : Int)
    · exact ⟨300, by rw [if_pos h]; rfl, by omega, by omega⟩
    · exact ⟨l.length, by rw [if_neg h], by omega, by omega⟩
  obtain ⟨t, ht, ht1, ht2⟩ := hmin a0
  simp only [dossierlaw03_VdiskStays.f, vdisk_New_8.f]
  rw [ht, sub_take]
  have hpl : (a0.take t).length = t := by rw [List.length_take]; omega
  refine Evt.pos (by rw [decide_eq_true_eq]; omega) (Evt.bind (.pure _) (Evt.neg (by simp) ?_))
  obtain ⟨u, ha⟩ := append_first (⟨[], 10000, 0, (), false⟩ : vdisk_Disk) (⟨#[97]⟩ : ByteArray) (a0.take t) named_a rfl rfl rfl (by rw [hpl]; show (t : Int) ≤ 10000; omega) (by omega) (by show (10000 : Int) ≤ _; decide)
  refine Evt.bind ha (Evt.neg (by simp) ?_)
  have hf : ∀ f : vdisk_file, fl (⟨#[97]⟩ : ByteArray) [((⟨#[97]⟩ : ByteArray), f)] = f := fun f => by simp [fl, mget]
  have hsync : ∃ u', Evt (fun k => vdisk_Disk_Sync.f k (⟨[((⟨#[97]⟩ : ByteArray), ⟨a0.take t, 0⟩)], 10000, u, (), false⟩ : vdisk_Disk) (⟨#[97]⟩ : ByteArray)) (0, (⟨[((⟨#[97]⟩ : ByteArray), ⟨a0.take t, (t : Int)⟩)], 10000, u', (), false⟩ : vdisk_Disk)) := by
    obtain ⟨u', hs⟩ := set_ev (⟨[((⟨#[97]⟩ : ByteArray), ⟨a0.take t, 0⟩)], 10000, u, (), false⟩ : vdisk_Disk) (⟨#[97]⟩ : ByteArray) (⟨a0.take t, (t : Int)⟩ : vdisk_file)
    have e2 : mset (⟨#[97]⟩ : ByteArray) (⟨a0.take t, (t : Int)⟩ : vdisk_file) [((⟨#[97]⟩ : ByteArray), ⟨a0.take t, 0⟩)] = [((⟨#[97]⟩ : ByteArray), ⟨a0.take t, (t : Int)⟩)] := by simp [mset]
    simp only [e2] at hs
    have hc : Evt (fun k => vdisk_Disk_change.f k (⟨[((⟨#[97]⟩ : ByteArray), ⟨a0.take t, 0⟩)], 10000, u, (), false⟩ : vdisk_Disk) true (⟨#[97]⟩ : ByteArray) false 0) (0, (⟨[((⟨#[97]⟩ : ByteArray), ⟨a0.take t, 0⟩)], 10000, u, (), false⟩ : vdisk_Disk)) := by
      simp only [vdisk_Disk_change.f, vdisk_Disk_none.f]
      exact Evt.bind (.pure _) (Evt.neg (by simp) (Evt.pos (by simp) (Evt.neg (by simp) (Evt.pos (by simp [mget]) (Evt.neg (by decide) (.pure _))))))
    refine ⟨u', ?_⟩
    simp only [vdisk_Disk_Sync.f]
    refine Evt.bind hc (Evt.pos rfl ?_)
    have e1 := hf ⟨a0.take t, 0⟩
    unfold fl zf at e1
    simp only [e1, hpl]
    exact Evt.bind hs (.pure _)
  obtain ⟨u', hsy⟩ := hsync
  refine Evt.bind hsy (Evt.neg (by simp) ?_)
  have hok0 : Ok (a0.take t) 300 [((⟨#[97]⟩ : ByteArray), (⟨a0.take t, (t : Int)⟩ : vdisk_file))] := by
    have hk : ∀ k, fl k [((⟨#[97]⟩ : ByteArray), (⟨a0.take t, (t : Int)⟩ : vdisk_file))] = ⟨a0.take t, (t : Int)⟩ ∨ fl k [((⟨#[97]⟩ : ByteArray), (⟨a0.take t, (t : Int)⟩ : vdisk_file))] = zf := by
      intro k
      unfold fl mget
      split
      · exact .inl rfl
      · exact .inr rfl
    refine ⟨fun k => ?_, fun k => ?_, by simp [mget], by rw [hf]; exact List.prefix_refl _, by rw [hf, hpl]; exact Int.le_refl _, fun e he => ?_, by simp⟩
    · rcases hk k with h | h <;> rw [h]
      · exact ⟨by show (0 : Int) ≤ (t : Int); omega, by show (t : Int) ≤ ((a0.take t).length : Int); rw [hpl]; exact Int.le_refl _⟩
      · exact ⟨by decide, by decide⟩
    · rcases hk k with h | h <;> rw [h]
      · show (a0.take t).length ≤ 300; omega
      · decide
    · rw [List.mem_singleton] at he; rw [he]; exact .inl rfl
  have key : ∃ r : Bool, Evt (fun k => dossierlaw03_VdiskStays.l0 k 10000 u' false [((⟨#[97]⟩ : ByteArray), (⟨a0.take t, (t : Int)⟩ : vdisk_file))] 0 a0 a1 a2) r ∧ r = true := by
    refine loop_ex (xs := a1) (F := fun k i (s : Int × Int × Bool × List (ByteArray × vdisk_file)) => dossierlaw03_VdiskStays.l0 k s.1 s.2.1 s.2.2.1 s.2.2.2 i a0 a1 a2)
      (E := fun k s => (vdisk_Disk_Crash.f k (⟨s.2.2.2, s.1, s.2.1, (), s.2.2.1⟩ : vdisk_Disk) a2).bind fun r19 => if (r19.1 != 0) = true then (some false) else ((vdisk_Disk_Read.f k r19.2 (⟨#[97]⟩ : ByteArray)).bind fun r21 => if (r21.2.1 == 0) = true then ((bytes_HasPrefix.f k r21.1 (sub a0 0 (if 300 < (a0.length : Int) then 300 else (a0.length : Int)))).bind fun r23 => if r23 = true then ((dossierlaw03_awake.f k).bind fun r25 => some r25) else (some false)) else (some false)))
      (Good := fun suf s => suf.length ≤ a1.length ∧ Ok (a0.take t) (300 + 1000 * (a1.length - suf.length)) s.2.2.2) (Q := fun r => r = true) (by omega) (fun k i s => by rw [dossierlaw03_VdiskStays.l0]) ?_ ?_ _ [] (10000, u', false, _) rfl ⟨Nat.le_refl _, hok0.mono (by omega)⟩
    · intro s hg
      obtain ⟨r, hr, q1, q2, q3⟩ := crash_ev (⟨s.2.2.2, s.1, s.2.1, (), s.2.2.1⟩ : vdisk_Disk) a2 (a0.take t) _ hg.2 (by simp only [List.length_nil]; omega) h2
      refine ⟨true, Evt.bind hr (Evt.neg (by simp [q1]) (Evt.bind (read_ev _ _ q2 q3.has (Nat.le_trans (q3.len _) (by simp only [List.length_nil]; omega))) (Evt.pos rfl ?_))), rfl⟩
      rw [ht, sub_take]
      exact Evt.bind (prefix_ev _ _ q3.pre) (Evt.pos rfl awake_ev.map)
    · intro i v suf s hi hv hg ih
      obtain ⟨g1, g2⟩ := hg
      simp only [List.length_cons] at g1 g2
      by_cases h10 : (i : Int) < 10
      · obtain ⟨y, hy, hy1, hy2⟩ := hmin v
        have hyl : (v.take y).length = y := by rw [List.length_take]; omega
        have step : ∀ (D : vdisk_Disk) (n : ByteArray) (B : Nat), (n = ⟨#[97]⟩ ∨ n = ⟨#[98]⟩) → Ok (a0.take t) B D.files → B ≤ 1099511627776 → ∃ (e : Int) (D' : vdisk_Disk), Evt (fun k => vdisk_Disk_Append.f k D n (v.take y)) (e, D') ∧ Ok (a0.take t) (B + 300) D'.files := by
          intro D n B hn hok hB
          obtain ⟨e, D', he, hd⟩ := append_ev D n (v.take y) (Nat.le_trans (hok.len n) hB) (by omega)
          refine ⟨e, D', he, ?_⟩
          rcases hd with rfl | ⟨u, rfl⟩
          · exact hok.mono (by omega)
          · have hs := hok.sure n
            have hl := hok.len n
            refine hok.set hn (by omega) ⟨hs.1, by show (fl n D.files).sure ≤ (((fl n D.files).b ++ v.take y).length : Int); rw [List.length_append]; omega⟩ (by show ((fl n D.files).b ++ v.take y).length ≤ _; rw [List.length_append]; omega) (by have := hok.size; omega) fun hn' => ?_
            subst hn'
            exact ⟨hok.pre.trans (List.prefix_append _ _), hok.far⟩
        obtain ⟨e1, D1, hD1, hk1⟩ := step (⟨s.2.2.2, s.1, s.2.1, (), s.2.2.1⟩ : vdisk_Disk) ⟨#[97]⟩ _ (.inl rfl) g2 (by omega)
        obtain ⟨e2, D2, hD2, hk2⟩ := step D1 ⟨#[98]⟩ _ (.inr rfl) hk1 (by omega)
        obtain ⟨r, hr, hq⟩ := ih (D2.room, D2.used, D2.dead, D2.files) ⟨by omega, hk2.mono (by omega)⟩
        refine ⟨r, Evt.pos (by simpa using h10) ?_, hq⟩
        rw [hy, sub_take]
        exact Evt.pos (by rw [decide_eq_true_eq]; omega) (Evt.bind hD1 (Evt.bind hD2 hr))
      · obtain ⟨r, hr, hq⟩ := ih s ⟨by omega, g2.mono (by omega)⟩
        exact ⟨r, Evt.neg (by simpa using h10) hr, hq⟩
  obtain ⟨r, hr, rfl⟩ := key
  exact hr
theorem stays_true (a0 : List Int) (a1 : List (List Int)) (a2 : List Int) (h1 : a1.length ≤ 1048576) (h2 : a2.length ≤ 1048576) : ∃ k, dossierlaw03_VdiskStays.f k a0 a1 a2 = some true := (stays_ev a0 a1 a2 h1 h2).get
end Go.Abs.GenV
