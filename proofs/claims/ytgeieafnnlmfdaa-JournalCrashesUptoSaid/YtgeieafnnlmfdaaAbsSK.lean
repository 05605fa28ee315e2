import Derived.Test.YtgeieafnnlmfdaaAbsSG
import Derived.Shelf.SlIter.Nil
import Derived.Shelf.SortM.Plain
import Derived.Shelf.SortM.SortNone
import Derived.Ground.GgzProg
import Derived.Ground.SlgmProg
import Derived.Test.YtgeieafnnlmfdaaProg
namespace Go.Proofs
open Go.Shelf
def Try.keys62_ren : Go.Shelf.Ren := ⟨fun | 7 => 62 | 10 => 82 | n => n, fun | 23 => 34 | 26 => 9 | 3 => 79 | 28 => 104 | 0 => 0 | 27 => 103 | 33 => 94 | 4 => 4 | n => n, fun | n => n⟩
theorem Try.keys62 : Go.Proofs.SlLaysZ.n7 Try.prog Try.keys62_ren := {
 mixed := by kernel_rfl
 f7 := ⟨Try.f62.name, by decide, Try.func62.trans (congrArg some (by kernel_rfl))⟩
 f10 := ⟨Try.f82.name, by decide, Try.func82.trans (congrArg some (by kernel_rfl))⟩
 t0 := Try.underlying0
 a0 := Try.isAgg0
 z0 := Try.sizeOf0
 v0 := Try.zeroValue0
 t4 := Try.underlying4
 a4 := Try.isAgg4
 z4 := Try.sizeOf4
 v4 := Try.zeroValue4
 t23 := Try.underlying34
 a23 := Try.isAgg34
 z23 := Try.sizeOf34
 v23 := Try.zeroValue34
 t26 := Try.underlying9
 a26 := Try.isAgg9
 z26 := Try.sizeOf9
 v26 := Try.zeroValue9
 t27 := Try.underlying103
 a27 := Try.isAgg103
 z27 := Try.sizeOf103
 v27 := Try.zeroValue103
 t28 := Try.underlying104
 a28 := Try.isAgg104
 z28 := Try.sizeOf104
 v28 := Try.zeroValue104
 t33 := Try.underlying94
 a33 := Try.isAgg94
 z33 := Try.sizeOf94
 v33 := Try.zeroValue94 }
def Try.sorted61_ren : Go.Shelf.Ren := ⟨fun | 6 => 61 | 8 => 80 | 9 => 81 | 11 => 85 | 13 => 87 | 12 => 86 | 23 => 97 | 24 => 98 | 14 => 88 | 15 => 89 | 16 => 90 | 17 => 91 | 18 => 92 | 19 => 93 | 20 => 94 | 21 => 95 | 22 => 96 | 25 => 99 | 26 => 100 | 27 => 101 | 28 => 102 | 29 => 103 | 30 => 104 | 31 => 105 | n => n, fun | 26 => 9 | 28 => 104 | 24 => 76 | 0 => 0 | 3 => 3 | 37 => 46 | 48 => 120 | 50 => 136 | 4 => 4 | 40 => 128 | 39 => 127 | 45 => 110 | 5 => 5 | 9 => 9 | 51 => 137 | 55 => 35 | 57 => 142 | 58 => 143 | 33 => 94 | n => n, fun | n => n⟩
theorem Try.sorted61 : Go.Proofs.SlLaysZ.n6 Try.prog Try.sorted61_ren := {
 mixed := by kernel_rfl
 f6 := ⟨Try.f61.name, by decide, Try.func61.trans (congrArg some (by kernel_rfl))⟩
 f8 := ⟨Try.f80.name, by decide, Try.func80.trans (congrArg some (by kernel_rfl))⟩
 f11 := ⟨Try.f85.name, by decide, Try.func85.trans (congrArg some (by kernel_rfl))⟩
 t0 := Try.underlying0
 a0 := Try.isAgg0
 z0 := Try.sizeOf0
 v0 := Try.zeroValue0
 t24 := Try.underlying76
 a24 := Try.isAgg76
 z24 := Try.sizeOf76
 v24 := Try.zeroValue76
 t26 := Try.underlying9
 a26 := Try.isAgg9
 z26 := Try.sizeOf9
 v26 := Try.zeroValue9
 t28 := Try.underlying104
 a28 := Try.isAgg104
 z28 := Try.sizeOf104
 v28 := Try.zeroValue104
 i26 := by kernel_rfl }
def Try.sort81_ren : Go.Shelf.Ren := ⟨fun | 6 => 81 | 8 => 87 | 9 => 86 | 19 => 97 | 20 => 98 | 21 => 88 | 22 => 89 | 23 => 90 | 24 => 91 | 25 => 92 | 26 => 93 | 27 => 94 | 28 => 95 | 29 => 96 | 36 => 99 | 31 => 100 | 32 => 101 | 37 => 102 | 38 => 103 | 39 => 104 | 41 => 105 | n => n, fun | 27 => 76 | 29 => 9 | 3 => 3 | 32 => 46 | 26 => 76 | 0 => 0 | 44 => 120 | 46 => 136 | 4 => 4 | 36 => 128 | 35 => 127 | 41 => 110 | 5 => 5 | 9 => 9 | 53 => 137 | 57 => 35 | 63 => 142 | 64 => 143 | n => n, fun | n => n⟩
theorem Try.sort81 : Go.Proofs.SlLaysM.n6 Try.prog Try.sort81_ren := {
 mixed := by kernel_rfl
 f6 := ⟨Try.f81.name, by decide, Try.func81.trans (congrArg some (by kernel_rfl))⟩
 f8 := Try.func87.trans (congrArg some (by kernel_rfl))
 f9 := ⟨Try.f86.name, by decide, Try.func86.trans (congrArg some (by kernel_rfl))⟩
 f19 := Try.func97.trans (congrArg some (by kernel_rfl))
 f20 := Try.func98.trans (congrArg some (by kernel_rfl))
 f21 := ⟨Try.f88.name, by decide, Try.func88.trans (congrArg some (by kernel_rfl))⟩
 f22 := ⟨Try.f89.name, by decide, Try.func89.trans (congrArg some (by kernel_rfl))⟩
 f23 := ⟨Try.f90.name, by decide, Try.func90.trans (congrArg some (by kernel_rfl))⟩
 f24 := ⟨Try.f91.name, by decide, Try.func91.trans (congrArg some (by kernel_rfl))⟩
 f25 := ⟨Try.f92.name, by decide, Try.func92.trans (congrArg some (by kernel_rfl))⟩
 f26 := ⟨Try.f93.name, by decide, Try.func93.trans (congrArg some (by kernel_rfl))⟩
 f27 := ⟨Try.f94.name, by decide, Try.func94.trans (congrArg some (by kernel_rfl))⟩
 f28 := ⟨Try.f95.name, by decide, Try.func95.trans (congrArg some (by kernel_rfl))⟩
 f29 := ⟨Try.f96.name, by decide, Try.func96.trans (congrArg some (by kernel_rfl))⟩
 f31 := Try.func100.trans (congrArg some (by kernel_rfl))
 f32 := Try.func101.trans (congrArg some (by kernel_rfl))
 f36 := ⟨Try.f99.name, by decide, Try.func99.trans (congrArg some (by kernel_rfl))⟩
 f37 := ⟨Try.f102.name, by decide, Try.func102.trans (congrArg some (by kernel_rfl))⟩
 f38 := ⟨Try.f103.name, by decide, Try.func103.trans (congrArg some (by kernel_rfl))⟩
 f39 := ⟨Try.f104.name, by decide, Try.func104.trans (congrArg some (by kernel_rfl))⟩
 f41 := ⟨Try.f105.name, by decide, Try.func105.trans (congrArg some (by kernel_rfl))⟩
 t0 := Try.underlying0
 a0 := Try.isAgg0
 z0 := Try.sizeOf0
 v0 := Try.zeroValue0
 t3 := Try.underlying3
 a3 := Try.isAgg3
 z3 := Try.sizeOf3
 v3 := Try.zeroValue3
 t4 := Try.underlying4
 a4 := Try.isAgg4
 z4 := Try.sizeOf4
 v4 := Try.zeroValue4
 t5 := Try.underlying5
 a5 := Try.isAgg5
 z5 := Try.sizeOf5
 v5 := Try.zeroValue5
 t9 := Try.underlying9
 a9 := Try.isAgg9
 z9 := Try.sizeOf9
 v9 := Try.zeroValue9
 t26 := Try.underlying76
 a26 := Try.isAgg76
 z26 := Try.sizeOf76
 v26 := Try.zeroValue76
 t27 := Try.underlying76
 a27 := Try.isAgg76
 z27 := Try.sizeOf76
 v27 := Try.zeroValue76
 t29 := Try.underlying9
 a29 := Try.isAgg9
 z29 := Try.sizeOf9
 v29 := Try.zeroValue9
 t32 := Try.underlying46
 a32 := Try.isAgg46
 z32 := Try.sizeOf46
 v32 := Try.zeroValue46
 t35 := Try.underlying127
 a35 := Try.isAgg127
 z35 := Try.sizeOf127
 v35 := Try.zeroValue127
 t36 := Try.underlying128
 a36 := Try.isAgg128
 z36 := Try.sizeOf128
 v36 := Try.zeroValue128
 t41 := Try.underlying110
 a41 := Try.isAgg110
 z41 := Try.sizeOf110
 v41 := Try.zeroValue110
 t44 := Try.underlying120
 a44 := Try.isAgg120
 z44 := Try.sizeOf120
 v44 := Try.zeroValue120
 t46 := Try.underlying136
 a46 := Try.isAgg136
 z46 := Try.sizeOf136
 v46 := Try.zeroValue136
 t53 := Try.underlying137
 a53 := Try.isAgg137
 z53 := Try.sizeOf137
 v53 := Try.zeroValue137
 t57 := Try.underlying35
 a57 := Try.isAgg35
 z57 := Try.sizeOf35
 v57 := Try.zeroValue35
 t63 := Try.underlying142
 a63 := Try.isAgg142
 z63 := Try.sizeOf142
 v63 := Try.zeroValue142
 t64 := Try.underlying143
 a64 := Try.isAgg143
 z64 := Try.sizeOf143
 v64 := Try.zeroValue143 }
end Go.Proofs

namespace Go.Abs.SK
open Go.Proofs Go.RowKit Go.Maps Go.Sort Go.Shelf
theorem sorts (m : Nat) : AnyZ.SortsIn Try.prog Try.sorted61_ren Fence.wide m :=
 ⟨fun blk off cap ss W hH hblk hsz => callsIn_wide.2 (AnyM.slices_Sort_string Try.sort81 blk off cap ss W hH hblk hsz),
  fun p cap W => callsIn_wide.2 (AnyM.slices_Sort_string_none Try.sort81 p cap W)⟩
theorem hK (mb : Option Nat) (W : World) : Calls Try.prog 62 #[.map mb] W fun e w' => e = .returned (.func (.func 82) #[] #[.pointer (some ⟨W.heap.size, 0, none⟩)]) ∧ w' = W.alloc (.cells #[.map mb] 34) :=
 (callsIn_wide (n := 5)).1 (AnyZ.keys_in Try.keys62 Fence.wide 5 trivial rfl mb W)
set_option maxHeartbeats 1000000 in
theorem hS (Bm b nn : Nat) (D0 : DataW Unit) (R : Value → Option (DataW Unit × List MemPlace)) (w : World) (h1 : Bm < w.heap.size) (h2 : w.cell? ⟨Bm, 0, none⟩ = some (.map (some b))) (hown : w.ownsMap Try.prog 9 R b nn D0) (hmax : Maps.size D0 ≤ maxLen) (hbytes : Maps.size D0 * 16 ≤ 140737488355328) :
  Calls Try.prog 61 #[.func (.func 82) #[] #[.pointer (some ⟨Bm, 0, none⟩)]] w fun e w' => ∃ (v : Value) (ss : List (List UInt8)), e = .returned v ∧ ss.Perm (strKeys D0) ∧
   w'.ownsRow w.heap.size 9 1 v ss.length ((ss.mergeSort fun x y => decide (x ≤ y)).map encStr) ∧ (v = .slice none 0 0 ↔ ss = []) ∧ Below w.heap.size w w' := by
 have hseq : SeqGives Fence.wide 2 Try.prog 82 #[.pointer (some ⟨Bm, 0, none⟩)] encStr (fun ss => ss.Perm (strKeys D0)) (Maps.size D0) w :=
  AnyZ.keys_gives (ρ := Try.keys62_ren) { Try.keys62 with } Fence.wide _ trivial rfl (by omega) Bm b nn D0 w h1 h2 hown
 have h := AnyZ.sorted_in Try.sorted61 Fence.wide 5 trivial trivial trivial trivial rfl (by omega) (sorts _) (enters_of Try.func81 (by kernel_rfl) rfl) 82 #[.pointer (some ⟨Bm, 0, none⟩)] trivial (enters_of Try.func82 (by kernel_rfl) rfl) _ _ hmax hbytes w hseq
 exact (callsIn_wide (n := 5)).1 h
theorem keys (es : List (Value × Bool × List P)) : Meets Try.prog 62 [.one (.mp 0)] [some (.map false es)] (.one (.clo 82 [.ref 1 0])) [some (.map false es), some (.cells true [.mp 0])] := meets_keys hK es
theorem sorted {V : Type} {f : V → List P} {b : Bool} {m : List (ByteArray × V)} (h : okK m = true) :
  Meets Try.prog 61 [.one (.clo 82 [.ref 0 0])] [some (.cells false [.mp 1]), some (.map false (mapE b f m))] (.one (.own 2 0 (sortK m).length 1)) [some (.cells false [.mp 1]), some (.map false (mapE b f m)), some (.cells true (rowC e_str (sortK m)))] := meets_sorted Try.underlying9 hS h
end Go.Abs.SK
