import Derived.Test.YtgeieafnnlmfdaaPlKH
set_option linter.unusedVariables false
set_option linter.unusedSimpArgs false
set_option maxRecDepth 100000
set_option maxHeartbeats 4000000
namespace Go.Abs.GenK
open Go.Abs
/-! ### what stands behind the second opening -/
def tl (k : Nat) (D : VD) (q : Int) (x30 : List (List Int)) (x33 : Int) (x34 a6 : List Int) (r18 : (List (List Int)) × journal_Journal) (r19 : (List Int) × journal_Journal) : Option Bool := (vdisk_Disk_Crash_16.f k D q a6).bind fun r40 => (journal_Open_12.f k r40.2 ([] : List Int)).bind fun r41 => optE r41.1 (if (r41.2.1 != 0) = true then (some false) else ((journal_Journal_Snapshot_nil0.f k).bind fun r45 => (bytes_Equal.f k r45 r19.1).bind fun r46 => if r46 = true then ((journal_Journal_Records_nil0.f k).bind fun r48 => (dossierplain_SameTexts.f k r48 r18.1).bind fun r49 => (journal_Journal_Snapshot_nil0.f k).bind fun r50 => (bytes_Equal.f k r50 x34).bind fun r51 => if r51 = true then ((journal_Journal_Records_nil0.f k).bind fun r53 => (dossierplain_SameTexts.f k r53 x30).bind fun r54 => if (x33 == 0) = true then (if r54 = true then ((dossierlaw04_awake.f k).bind fun r57 => some r57) else (some false)) else (if (x33 == 70) = true then (if r49 = true then ((dossierlaw04_awake.f k).bind fun r60 => some r60) else (if r54 = true then ((dossierlaw04_awake.f k).bind fun r62 => some r62) else (some false))) else (if r49 = true then ((dossierlaw04_awake.f k).bind fun r64 => some r64) else (some false)))) else (if (x33 == 0) = true then (some false) else (if (x33 == 70) = true then (if r49 = true then ((dossierlaw04_awake.f k).bind fun r68 => some r68) else (some false)) else (if r49 = true then ((dossierlaw04_awake.f k).bind fun r70 => some r70) else (some false))))) else ((journal_Journal_Snapshot_nil0.f k).bind fun r71 => (bytes_Equal.f k r71 x34).bind fun r72 => if r72 = true then ((journal_Journal_Records_nil0.f k).bind fun r74 => (dossierplain_SameTexts.f k r74 x30).bind fun r75 => if (x33 == 0) = true then (if r75 = true then ((dossierlaw04_awake.f k).bind fun r78 => some r78) else (some false)) else (if (x33 == 70) = true then (if r75 = true then ((dossierlaw04_awake.f k).bind fun r81 => some r81) else (some false)) else (some false))) else (if (x33 == 0) = true then (some false) else (if (x33 == 70) = true then (some false) else (some false)))))) (fun y43 => if (r41.2.1 != 0) = true then (some false) else ((journal_Journal_Snapshot.f k (⟨(), y43.snap, y43.l, y43.stopped⟩ : journal_Journal) r41.2.2).bind fun r85 => (bytes_Equal.f k r85.1 r19.1).bind fun r86 => if r86 = true then ((journal_Journal_Records.f k (⟨(), r85.2.snap, r85.2.l, r85.2.stopped⟩ : journal_Journal) r41.2.2).bind fun r88 => (dossierplain_SameTexts.f k r88.1 r18.1).bind fun r89 => (journal_Journal_Snapshot.f k (⟨(), r88.2.snap, r88.2.l, r88.2.stopped⟩ : journal_Journal) r41.2.2).bind fun r90 => (bytes_Equal.f k r90.1 x34).bind fun r91 => if r91 = true then ((journal_Journal_Records.f k (⟨(), r90.2.snap, r90.2.l, r90.2.stopped⟩ : journal_Journal) r41.2.2).bind fun r93 => (dossierplain_SameTexts.f k r93.1 x30).bind fun r94 => if (x33 == 0) = true then (if r94 = true then ((dossierlaw04_awake.f k).bind fun r97 => some r97) else (some false)) else (if (x33 == 70) = true then (if r89 = true then ((dossierlaw04_awake.f k).bind fun r100 => some r100) else (if r94 = true then ((dossierlaw04_awake.f k).bind fun r102 => some r102) else (some false))) else (if r89 = true then ((dossierlaw04_awake.f k).bind fun r104 => some r104) else (some false)))) else (if (x33 == 0) = true then (some false) else (if (x33 == 70) = true then (if r89 = true then ((dossierlaw04_awake.f k).bind fun r108 => some r108) else (some false)) else (if r89 = true then ((dossierlaw04_awake.f k).bind fun r110 => some r110) else (some false))))) else ((journal_Journal_Snapshot.f k (⟨(), r85.2.snap, r85.2.l, r85.2.stopped⟩ : journal_Journal) r41.2.2).bind fun r111 => (bytes_Equal.f k r111.1 x34).bind fun r112 => if r112 = true then ((journal_Journal_Records.f k (⟨(), r111.2.snap, r111.2.l, r111.2.stopped⟩ : journal_Journal) r41.2.2).bind fun r114 => (dossierplain_SameTexts.f k r114.1 x30).bind fun r115 => if (x33 == 0) = true then (if r115 = true then ((dossierlaw04_awake.f k).bind fun r118 => some r118) else (some false)) else (if (x33 == 70) = true then (if r115 = true then ((dossierlaw04_awake.f k).bind fun r121 => some r121) else (some false)) else (some false))) else (if (x33 == 0) = true then (some false) else (if (x33 == 70) = true then (some false) else (some false))))))
theorem j1_eq (k : Nat) (x27 x28 : Int) (x29 : Bool) (x30 : List (List Int)) (x31 : List (ByteArray × vdisk_file)) (x32 x33 : Int) (x34 a4 : List Int) (a5 : Int) (a6 : List Int) (r18 : (List (List Int)) × journal_Journal) (r19 : (List Int) × journal_Journal) :
  dossierlaw04_JournalCrashes.j1 (k + 1) x27 x28 x29 x30 x31 x32 x33 x34 a4 a5 a6 r18 r19 = (vdisk_Disk_Crash_16.f k (⟨x31, x27, x28, (), x29⟩ : vdisk_Disk) x32 a4).bind fun r35 => (vdisk_Disk_Fuse.f k r35.2 (IntKind.i64.wrap (Int.tmod (IntKind.u64.wrap a5) 4))).bind fun r36 => (journal_Open.f k r36.2.1 ([] : List Int) r36.2.2).bind fun r37 => optE r37.1 (tl k r37.2.2.1 r37.2.2.2 x30 x33 x34 a6 r18 r19) (fun _ => tl k r37.2.2.1 r37.2.2.2 x30 x33 x34 a6 r18 r19) := by
 rw [dossierlaw04_JournalCrashes.j1]
 rfl
/-! ### what is compared -/
theorem beq_dec {a b : List Int} (ha : U8s a) (hb : U8s b) : ((ofNums a).toList == (ofNums b).toList) = decide (a = b) := by
 have := ofNums_beq ha hb
 exact this
theorem bEq_ev {a b : List Int} (ha : U8s a) (hb : U8s b) : Evt (fun k => bytes_Equal.f k a b) (decide (a = b)) := by
 simp only [bytes_Equal.f]
 rw [beq_dec ha hb]; exact .pure _
theorem eqF_suf {x y : List (List Int)} (hx : ∀ a ∈ x, U8s a) (hy : ∀ a ∈ y, U8s a) (hl : x.length = y.length) (hn : x.length < 9223372036854775807) : ∀ n i, x.length - i = n → i ≤ x.length → Evt (fun k => slices_EqualFunc_byte__byte__byte__byte.l0 k (i : Int) x y) (decide (x.drop i = y.drop i))
 | 0, i, h, hi => by
  have hz : i = x.length := by omega
  subst hz
  refine Evt.succ (fun k => by rw [slices_EqualFunc_byte__byte__byte__byte.l0]) (Evt.neg (by simp) ?_)
  rw [List.drop_length, hl, List.drop_length]
  exact .pure _
 | n + 1, i, h, hi => by
  have h1 : i < x.length := by omega
  have h2 : i < y.length := by omega
  have hux : U8s x[i] := hx _ (List.getElem_mem h1)
  have huy : U8s y[i] := hy _ (List.getElem_mem h2)
  refine Evt.succ (fun k => by rw [slices_EqualFunc_byte__byte__byte__byte.l0]) (Evt.pos (by simpa using h1) (Evt.some_bind (rd_lt h1) (Evt.some_bind (rd_lt h2) ?_)))
  refine Evt.bind (bEq_ev hux huy) ?_
  rw [List.drop_eq_getElem_cons h1, List.drop_eq_getElem_cons h2]
  by_cases he : x[i] = y[i]
  ·refine Evt.pos (by simp [he]) ?_
   rw [wrap_nat (by omega)]
   have e : decide (x[i] :: x.drop (i + 1) = y[i] :: y.drop (i + 1)) = decide (x.drop (i + 1) = y.drop (i + 1)) := decide_eq_decide.mpr ⟨fun h => (List.cons.inj h).2, fun h => by rw [he, h]⟩
   rw [e]
   exact eqF_suf hx hy hl hn n (i + 1) (by omega) (by omega)
  ·refine Evt.neg (by simp [he]) ?_
   have e : decide (x[i] :: x.drop (i + 1) = y[i] :: y.drop (i + 1)) = false := decide_eq_false fun h => he (List.cons.inj h).1
   rw [e]; exact .pure _
theorem sT_ev {x y : List (List Int)} (hx : ∀ a ∈ x, U8s a) (hy : ∀ a ∈ y, U8s a) (hn : x.length < 9223372036854775807) : Evt (fun k => dossierplain_SameTexts.f k x y) (decide (x = y)) := by
 simp only [dossierplain_SameTexts.f, slices_EqualFunc_byte__byte__byte__byte.f]
 refine Evt.bind (a := decide (x = y)) ?_ (.pure _)
 by_cases hl : x.length = y.length
 ·refine Evt.neg (by simp [hl]) ?_
  have := eqF_suf hx hy hl hn x.length 0 (by omega) (by omega)
  simpa using this
 ·refine Evt.pos (by simp; omega) ?_
  rw [decide_eq_false (fun h => hl (by rw [h]))]; exact .pure _
end Go.Abs.GenK
