import Derived.Test.YtdpakmmkponfmaaAbsSG
import Derived.Shelf.SlIter.Nil
import Derived.Shelf.SortM.Plain
import Derived.Shelf.SortM.SortNone
import Derived.Ground.GgzProg
import Derived.Ground.SlgmProg
import Derived.Test.YtdpakmmkponfmaaProg
namespace Go.Proofs
open Go.Shelf
def Try.keys76_ren : Go.Shelf.Ren := ⟨fun | 7 => 76 | 10 => 81 | n => n, fun | 23 => 46 | 26 => 9 | 3 => 95 | 28 => 113 | 0 => 0 | 27 => 112 | 33 => 103 | 4 => 4 | n => n, fun | n => n⟩
theorem Try.keys76 : Go.Proofs.SlLaysZ.n7 Try.prog Try.keys76_ren := {
 mixed := by kernel_rfl
 f7 := ⟨Try.f76.name, by decide, Try.func76.trans (congrArg some (by kernel_rfl))⟩
 f10 := ⟨Try.f81.name, by decide, Try.func81.trans (congrArg some (by kernel_rfl))⟩
 t0 := Try.underlying0
 a0 := Try.isAgg0
 z0 := Try.sizeOf0
 v0 := Try.zeroValue0
 t4 := Try.underlying4
 a4 := Try.isAgg4
 z4 := Try.sizeOf4
 v4 := Try.zeroValue4
 t23 := Try.underlying46
 a23 := Try.isAgg46
 z23 := Try.sizeOf46
 v23 := Try.zeroValue46
 t26 := Try.underlying9
 a26 := Try.isAgg9
 z26 := Try.sizeOf9
 v26 := Try.zeroValue9
 t27 := Try.underlying112
 a27 := Try.isAgg112
 z27 := Try.sizeOf112
 v27 := Try.zeroValue112
 t28 := Try.underlying113
 a28 := Try.isAgg113
 z28 := Try.sizeOf113
 v28 := Try.zeroValue113
 t33 := Try.underlying103
 a33 := Try.isAgg103
 z33 := Try.sizeOf103
 v33 := Try.zeroValue103 }
def Try.sorted75_ren : Go.Shelf.Ren := ⟨fun | 6 => 75 | 8 => 79 | 9 => 80 | 11 => 82 | 13 => 84 | 12 => 83 | 23 => 94 | 24 => 95 | 14 => 85 | 15 => 86 | 16 => 87 | 17 => 88 | 18 => 89 | 19 => 90 | 20 => 91 | 21 => 92 | 22 => 93 | 25 => 96 | 26 => 97 | 27 => 98 | 28 => 99 | 29 => 100 | 30 => 101 | 31 => 102 | n => n, fun | 26 => 9 | 28 => 113 | 24 => 86 | 0 => 0 | 3 => 3 | 37 => 24 | 48 => 116 | 50 => 131 | 4 => 4 | 40 => 123 | 39 => 122 | 45 => 106 | 5 => 5 | 9 => 9 | 51 => 132 | 55 => 47 | 57 => 137 | 58 => 138 | 33 => 103 | n => n, fun | n => n⟩
theorem Try.sorted75 : Go.Proofs.SlLaysZ.n6 Try.prog Try.sorted75_ren := {
 mixed := by kernel_rfl
 f6 := ⟨Try.f75.name, by decide, Try.func75.trans (congrArg some (by kernel_rfl))⟩
 f8 := ⟨Try.f79.name, by decide, Try.func79.trans (congrArg some (by kernel_rfl))⟩
 f11 := ⟨Try.f82.name, by decide, Try.func82.trans (congrArg some (by kernel_rfl))⟩
 t0 := Try.underlying0
 a0 := Try.isAgg0
 z0 := Try.sizeOf0
 v0 := Try.zeroValue0
 t24 := Try.underlying86
 a24 := Try.isAgg86
 z24 := Try.sizeOf86
 v24 := Try.zeroValue86
 t26 := Try.underlying9
 a26 := Try.isAgg9
 z26 := Try.sizeOf9
 v26 := Try.zeroValue9
 t28 := Try.underlying113
 a28 := Try.isAgg113
 z28 := Try.sizeOf113
 v28 := Try.zeroValue113
 i26 := by kernel_rfl }
def Try.sort80_ren : Go.Shelf.Ren := ⟨fun | 6 => 80 | 8 => 84 | 9 => 83 | 19 => 94 | 20 => 95 | 21 => 85 | 22 => 86 | 23 => 87 | 24 => 88 | 25 => 89 | 26 => 90 | 27 => 91 | 28 => 92 | 29 => 93 | 36 => 96 | 31 => 97 | 32 => 98 | 37 => 99 | 38 => 100 | 39 => 101 | 41 => 102 | n => n, fun | 27 => 86 | 29 => 9 | 3 => 3 | 32 => 24 | 26 => 86 | 0 => 0 | 44 => 116 | 46 => 131 | 4 => 4 | 36 => 123 | 35 => 122 | 41 => 106 | 5 => 5 | 9 => 9 | 53 => 132 | 57 => 47 | 63 => 137 | 64 => 138 | n => n, fun | n => n⟩
theorem Try.sort80 : Go.Proofs.SlLaysM.n6 Try.prog Try.sort80_ren := {
 mixed := by kernel_rfl
 f6 := ⟨Try.f80.name, by decide, Try.func80.trans (congrArg some (by kernel_rfl))⟩
 f8 := Try.func84.trans (congrArg some (by kernel_rfl))
 f9 := ⟨Try.f83.name, by decide, Try.func83.trans (congrArg some (by kernel_rfl))⟩
 f19 := Try.func94.trans (congrArg some (by kernel_rfl))
 f20 := Try.func95.trans (congrArg some (by kernel_rfl))
 f21 := ⟨Try.f85.name, by decide, Try.func85.trans (congrArg some (by kernel_rfl))⟩
 f22 := ⟨Try.f86.name, by decide, Try.func86.trans (congrArg some (by kernel_rfl))⟩
 f23 := ⟨Try.f87.name, by decide, Try.func87.trans (congrArg some (by kernel_rfl))⟩
 f24 := ⟨Try.f88.name, by decide, Try.func88.trans (congrArg some (by kernel_rfl))⟩
 f25 := ⟨Try.f89.name, by decide, Try.func89.trans (congrArg some (by kernel_rfl))⟩
 f26 := ⟨Try.f90.name, by decide, Try.func90.trans (congrArg some (by kernel_rfl))⟩
 f27 := ⟨Try.f91.name, by decide, Try.func91.trans (congrArg some (by kernel_rfl))⟩
 f28 := ⟨Try.f92.name, by decide, Try.func92.trans (congrArg some (by kernel_rfl))⟩
 f29 := ⟨Try.f93.name, by decide, Try.func93.trans (congrArg some (by kernel_rfl))⟩
 f31 := Try.func97.trans (congrArg some (by kernel_rfl))
 f32 := Try.func98.trans (congrArg some (by kernel_rfl))
 f36 := ⟨Try.f96.name, by decide, Try.func96.trans (congrArg some (by kernel_rfl))⟩
 f37 := ⟨Try.f99.name, by decide, Try.func99.trans (congrArg some (by kernel_rfl))⟩
 f38 := ⟨Try.f100.name, by decide, Try.func100.trans (congrArg some (by kernel_rfl))⟩
 f39 := ⟨Try.f101.name, by decide, Try.func101.trans (congrArg some (by kernel_rfl))⟩
 f41 := ⟨Try.f102.name, by decide, Try.func102.trans (congrArg some (by kernel_rfl))⟩
 t0 := Try.underlying0
 a0 := Try.isAgg0
 z0 := Try.sizeOf0
 v0 := Try.zeroValue0
 t3 := Try.underlying3
 a3 := Try.isAgg3
 z3 := Try.sizeOf3
 v3 := Try.zeroValue3
 t4 := Try.underlying4
 a4 := Try.isAgg4
 z4 := Try.sizeOf4
 v4 := Try.zeroValue4
 t5 := Try.underlying5
 a5 := Try.isAgg5
 z5 := Try.sizeOf5
 v5 := Try.zeroValue5
 t9 := Try.underlying9
 a9 := Try.isAgg9
 z9 := Try.sizeOf9
 v9 := Try.zeroValue9
 t26 := Try.underlying86
 a26 := Try.isAgg86
 z26 := Try.sizeOf86
 v26 := Try.zeroValue86
 t27 := Try.underlying86
 a27 := Try.isAgg86
 z27 := Try.sizeOf86
 v27 := Try.zeroValue86
 t29 := Try.underlying9
 a29 := Try.isAgg9
 z29 := Try.sizeOf9
 v29 := Try.zeroValue9
 t32 := Try.underlying24
 a32 := Try.isAgg24
 z32 := Try.sizeOf24
 v32 := Try.zeroValue24
 t35 := Try.underlying122
 a35 := Try.isAgg122
 z35 := Try.sizeOf122
 v35 := Try.zeroValue122
 t36 := Try.underlying123
 a36 := Try.isAgg123
 z36 := Try.sizeOf123
 v36 := Try.zeroValue123
 t41 := Try.underlying106
 a41 := Try.isAgg106
 z41 := Try.sizeOf106
 v41 := Try.zeroValue106
 t44 := Try.underlying116
 a44 := Try.isAgg116
 z44 := Try.sizeOf116
 v44 := Try.zeroValue116
 t46 := Try.underlying131
 a46 := Try.isAgg131
 z46 := Try.sizeOf131
 v46 := Try.zeroValue131
 t53 := Try.underlying132
 a53 := Try.isAgg132
 z53 := Try.sizeOf132
 v53 := Try.zeroValue132
 t57 := Try.underlying47
 a57 := Try.isAgg47
 z57 := Try.sizeOf47
 v57 := Try.zeroValue47
 t63 := Try.underlying137
 a63 := Try.isAgg137
 z63 := Try.sizeOf137
 v63 := Try.zeroValue137
 t64 := Try.underlying138
 a64 := Try.isAgg138
 z64 := Try.sizeOf138
 v64 := Try.zeroValue138 }
end Go.Proofs

namespace Go.Abs.SK
open Go.Proofs Go.RowKit Go.Maps Go.Sort Go.Shelf
theorem sorts (m : Nat) : AnyZ.SortsIn Try.prog Try.sorted75_ren Fence.wide m :=
 ⟨fun blk off cap ss W hH hblk hsz => callsIn_wide.2 (AnyM.slices_Sort_string Try.sort80 blk off cap ss W hH hblk hsz),
  fun p cap W => callsIn_wide.2 (AnyM.slices_Sort_string_none Try.sort80 p cap W)⟩
theorem hK (mb : Option Nat) (W : World) : Calls Try.prog 76 #[.map mb] W fun e w' => e = .returned (.func (.func 81) #[] #[.pointer (some ⟨W.heap.size, 0, none⟩)]) ∧ w' = W.alloc (.cells #[.map mb] 46) :=
 (callsIn_wide (n := 5)).1 (AnyZ.keys_in Try.keys76 Fence.wide 5 trivial rfl mb W)
set_option maxHeartbeats 1000000 in
theorem hS (Bm b nn : Nat) (D0 : DataW Unit) (R : Value → Option (DataW Unit × List MemPlace)) (w : World) (h1 : Bm < w.heap.size) (h2 : w.cell? ⟨Bm, 0, none⟩ = some (.map (some b))) (hown : w.ownsMap Try.prog 9 R b nn D0) (hmax : Maps.size D0 ≤ maxLen) (hbytes : Maps.size D0 * 16 ≤ 140737488355328) :
  Calls Try.prog 75 #[.func (.func 81) #[] #[.pointer (some ⟨Bm, 0, none⟩)]] w fun e w' => ∃ (v : Value) (ss : List (List UInt8)), e = .returned v ∧ ss.Perm (strKeys D0) ∧
   w'.ownsRow w.heap.size 9 1 v ss.length ((ss.mergeSort fun x y => decide (x ≤ y)).map encStr) ∧ (v = .slice none 0 0 ↔ ss = []) ∧ Below w.heap.size w w' := by
 have hseq : SeqGives Fence.wide 2 Try.prog 81 #[.pointer (some ⟨Bm, 0, none⟩)] encStr (fun ss => ss.Perm (strKeys D0)) (Maps.size D0) w :=
  AnyZ.keys_gives (ρ := Try.keys76_ren) { Try.keys76 with } Fence.wide _ trivial rfl (by omega) Bm b nn D0 w h1 h2 hown
 have h := AnyZ.sorted_in Try.sorted75 Fence.wide 5 trivial trivial trivial trivial rfl (by omega) (sorts _) (enters_of Try.func80 (by kernel_rfl) rfl) 81 #[.pointer (some ⟨Bm, 0, none⟩)] trivial (enters_of Try.func81 (by kernel_rfl) rfl) _ _ hmax hbytes w hseq
 exact (callsIn_wide (n := 5)).1 h
theorem keys (es : List (Value × Bool × List P)) : Meets Try.prog 76 [.one (.mp 0)] [some (.map false es)] (.one (.clo 81 [.ref 1 0])) [some (.map false es), some (.cells true [.mp 0])] := meets_keys hK es
theorem sorted {V : Type} {f : V → List P} {b : Bool} {m : List (ByteArray × V)} (h : okK m = true) :
  Meets Try.prog 75 [.one (.clo 81 [.ref 0 0])] [some (.cells false [.mp 1]), some (.map false (mapE b f m))] (.one (.own 2 0 (sortK m).length 1)) [some (.cells false [.mp 1]), some (.map false (mapE b f m)), some (.cells true (rowC e_str (sortK m)))] := meets_sorted Try.underlying9 hS h
end Go.Abs.SK
