import Derived.Test.YtiegaebmhpdnmaaAbsSG
import Derived.Shelf.SlIter.Nil
import Derived.Shelf.SortM.Plain
import Derived.Shelf.SortM.SortNone
import Derived.Ground.GgzProg
import Derived.Ground.SlgmProg
import Derived.Test.YtiegaebmhpdnmaaProg
namespace Go.Proofs
open Go.Shelf
def Try.keys48_ren : Go.Shelf.Ren := ⟨fun | 7 => 48 | 10 => 62 | n => n, fun | 23 => 47 | 26 => 9 | 3 => 65 | 28 => 77 | 0 => 0 | 27 => 76 | 33 => 63 | 4 => 4 | n => n, fun | n => n⟩
theorem Try.keys48 : Go.Proofs.SlLaysZ.n7 Try.prog Try.keys48_ren := {
 mixed := by kernel_rfl
 f7 := ⟨Try.f48.name, by decide, Try.func48.trans (congrArg some (by kernel_rfl))⟩
 f10 := ⟨Try.f62.name, by decide, Try.func62.trans (congrArg some (by kernel_rfl))⟩
 t0 := Try.underlying0
 a0 := Try.isAgg0
 z0 := Try.sizeOf0
 v0 := Try.zeroValue0
 t4 := Try.underlying4
 a4 := Try.isAgg4
 z4 := Try.sizeOf4
 v4 := Try.zeroValue4
 t23 := Try.underlying47
 a23 := Try.isAgg47
 z23 := Try.sizeOf47
 v23 := Try.zeroValue47
 t26 := Try.underlying9
 a26 := Try.isAgg9
 z26 := Try.sizeOf9
 v26 := Try.zeroValue9
 t27 := Try.underlying76
 a27 := Try.isAgg76
 z27 := Try.sizeOf76
 v27 := Try.zeroValue76
 t28 := Try.underlying77
 a28 := Try.isAgg77
 z28 := Try.sizeOf77
 v28 := Try.zeroValue77
 t33 := Try.underlying63
 a33 := Try.isAgg63
 z33 := Try.sizeOf63
 v33 := Try.zeroValue63 }
def Try.sorted47_ren : Go.Shelf.Ren := ⟨fun | 6 => 47 | 8 => 60 | 9 => 61 | 11 => 64 | 13 => 66 | 12 => 65 | 23 => 76 | 24 => 77 | 14 => 67 | 15 => 68 | 16 => 69 | 17 => 70 | 18 => 71 | 19 => 72 | 20 => 73 | 21 => 74 | 22 => 75 | 25 => 78 | 26 => 79 | 27 => 80 | 28 => 81 | 29 => 82 | 30 => 83 | 31 => 84 | n => n, fun | 26 => 9 | 28 => 77 | 24 => 55 | 0 => 0 | 3 => 3 | 37 => 38 | 48 => 104 | 50 => 106 | 4 => 4 | 40 => 97 | 39 => 96 | 45 => 87 | 5 => 5 | 9 => 9 | 51 => 107 | 55 => 48 | 57 => 112 | 58 => 113 | 33 => 63 | n => n, fun | n => n⟩
theorem Try.sorted47 : Go.Proofs.SlLaysZ.n6 Try.prog Try.sorted47_ren := {
 mixed := by kernel_rfl
 f6 := ⟨Try.f47.name, by decide, Try.func47.trans (congrArg some (by kernel_rfl))⟩
 f8 := ⟨Try.f60.name, by decide, Try.func60.trans (congrArg some (by kernel_rfl))⟩
 f11 := ⟨Try.f64.name, by decide, Try.func64.trans (congrArg some (by kernel_rfl))⟩
 t0 := Try.underlying0
 a0 := Try.isAgg0
 z0 := Try.sizeOf0
 v0 := Try.zeroValue0
 t24 := Try.underlying55
 a24 := Try.isAgg55
 z24 := Try.sizeOf55
 v24 := Try.zeroValue55
 t26 := Try.underlying9
 a26 := Try.isAgg9
 z26 := Try.sizeOf9
 v26 := Try.zeroValue9
 t28 := Try.underlying77
 a28 := Try.isAgg77
 z28 := Try.sizeOf77
 v28 := Try.zeroValue77
 i26 := by kernel_rfl }
def Try.sort61_ren : Go.Shelf.Ren := ⟨fun | 6 => 61 | 8 => 66 | 9 => 65 | 19 => 76 | 20 => 77 | 21 => 67 | 22 => 68 | 23 => 69 | 24 => 70 | 25 => 71 | 26 => 72 | 27 => 73 | 28 => 74 | 29 => 75 | 36 => 78 | 31 => 79 | 32 => 80 | 37 => 81 | 38 => 82 | 39 => 83 | 41 => 84 | n => n, fun | 27 => 55 | 29 => 9 | 3 => 3 | 32 => 38 | 26 => 55 | 0 => 0 | 44 => 104 | 46 => 106 | 4 => 4 | 36 => 97 | 35 => 96 | 41 => 87 | 5 => 5 | 9 => 9 | 53 => 107 | 57 => 48 | 63 => 112 | 64 => 113 | n => n, fun | n => n⟩
theorem Try.sort61 : Go.Proofs.SlLaysM.n6 Try.prog Try.sort61_ren := {
 mixed := by kernel_rfl
 f6 := ⟨Try.f61.name, by decide, Try.func61.trans (congrArg some (by kernel_rfl))⟩
 f8 := Try.func66.trans (congrArg some (by kernel_rfl))
 f9 := ⟨Try.f65.name, by decide, Try.func65.trans (congrArg some (by kernel_rfl))⟩
 f19 := Try.func76.trans (congrArg some (by kernel_rfl))
 f20 := Try.func77.trans (congrArg some (by kernel_rfl))
 f21 := ⟨Try.f67.name, by decide, Try.func67.trans (congrArg some (by kernel_rfl))⟩
 f22 := ⟨Try.f68.name, by decide, Try.func68.trans (congrArg some (by kernel_rfl))⟩
 f23 := ⟨Try.f69.name, by decide, Try.func69.trans (congrArg some (by kernel_rfl))⟩
 f24 := ⟨Try.f70.name, by decide, Try.func70.trans (congrArg some (by kernel_rfl))⟩
 f25 := ⟨Try.f71.name, by decide, Try.func71.trans (congrArg some (by kernel_rfl))⟩
 f26 := ⟨Try.f72.name, by decide, Try.func72.trans (congrArg some (by kernel_rfl))⟩
 f27 := ⟨Try.f73.name, by decide, Try.func73.trans (congrArg some (by kernel_rfl))⟩
 f28 := ⟨Try.f74.name, by decide, Try.func74.trans (congrArg some (by kernel_rfl))⟩
 f29 := ⟨Try.f75.name, by decide, Try.func75.trans (congrArg some (by kernel_rfl))⟩
 f31 := Try.func79.trans (congrArg some (by kernel_rfl))
 f32 := Try.func80.trans (congrArg some (by kernel_rfl))
 f36 := ⟨Try.f78.name, by decide, Try.func78.trans (congrArg some (by kernel_rfl))⟩
 f37 := ⟨Try.f81.name, by decide, Try.func81.trans (congrArg some (by kernel_rfl))⟩
 f38 := ⟨Try.f82.name, by decide, Try.func82.trans (congrArg some (by kernel_rfl))⟩
 f39 := ⟨Try.f83.name, by decide, Try.func83.trans (congrArg some (by kernel_rfl))⟩
 f41 := ⟨Try.f84.name, by decide, Try.func84.trans (congrArg some (by kernel_rfl))⟩
 t0 := Try.underlying0
 a0 := Try.isAgg0
 z0 := Try.sizeOf0
 v0 := Try.zeroValue0
 t3 := Try.underlying3
 a3 := Try.isAgg3
 z3 := Try.sizeOf3
 v3 := Try.zeroValue3
 t4 := Try.underlying4
 a4 := Try.isAgg4
 z4 := Try.sizeOf4
 v4 := Try.zeroValue4
 t5 := Try.underlying5
 a5 := Try.isAgg5
 z5 := Try.sizeOf5
 v5 := Try.zeroValue5
 t9 := Try.underlying9
 a9 := Try.isAgg9
 z9 := Try.sizeOf9
 v9 := Try.zeroValue9
 t26 := Try.underlying55
 a26 := Try.isAgg55
 z26 := Try.sizeOf55
 v26 := Try.zeroValue55
 t27 := Try.underlying55
 a27 := Try.isAgg55
 z27 := Try.sizeOf55
 v27 := Try.zeroValue55
 t29 := Try.underlying9
 a29 := Try.isAgg9
 z29 := Try.sizeOf9
 v29 := Try.zeroValue9
 t32 := Try.underlying38
 a32 := Try.isAgg38
 z32 := Try.sizeOf38
 v32 := Try.zeroValue38
 t35 := Try.underlying96
 a35 := Try.isAgg96
 z35 := Try.sizeOf96
 v35 := Try.zeroValue96
 t36 := Try.underlying97
 a36 := Try.isAgg97
 z36 := Try.sizeOf97
 v36 := Try.zeroValue97
 t41 := Try.underlying87
 a41 := Try.isAgg87
 z41 := Try.sizeOf87
 v41 := Try.zeroValue87
 t44 := Try.underlying104
 a44 := Try.isAgg104
 z44 := Try.sizeOf104
 v44 := Try.zeroValue104
 t46 := Try.underlying106
 a46 := Try.isAgg106
 z46 := Try.sizeOf106
 v46 := Try.zeroValue106
 t53 := Try.underlying107
 a53 := Try.isAgg107
 z53 := Try.sizeOf107
 v53 := Try.zeroValue107
 t57 := Try.underlying48
 a57 := Try.isAgg48
 z57 := Try.sizeOf48
 v57 := Try.zeroValue48
 t63 := Try.underlying112
 a63 := Try.isAgg112
 z63 := Try.sizeOf112
 v63 := Try.zeroValue112
 t64 := Try.underlying113
 a64 := Try.isAgg113
 z64 := Try.sizeOf113
 v64 := Try.zeroValue113 }
end Go.Proofs

namespace Go.Abs.SK
open Go.Proofs Go.RowKit Go.Maps Go.Sort Go.Shelf
theorem sorts (m : Nat) : AnyZ.SortsIn Try.prog Try.sorted47_ren Fence.wide m :=
 ⟨fun blk off cap ss W hH hblk hsz => callsIn_wide.2 (AnyM.slices_Sort_string Try.sort61 blk off cap ss W hH hblk hsz),
  fun p cap W => callsIn_wide.2 (AnyM.slices_Sort_string_none Try.sort61 p cap W)⟩
theorem hK (mb : Option Nat) (W : World) : Calls Try.prog 48 #[.map mb] W fun e w' => e = .returned (.func (.func 62) #[] #[.pointer (some ⟨W.heap.size, 0, none⟩)]) ∧ w' = W.alloc (.cells #[.map mb] 47) :=
 (callsIn_wide (n := 5)).1 (AnyZ.keys_in Try.keys48 Fence.wide 5 trivial rfl mb W)
set_option maxHeartbeats 1000000 in
theorem hS (Bm b nn : Nat) (D0 : DataW Unit) (R : Value → Option (DataW Unit × List MemPlace)) (w : World) (h1 : Bm < w.heap.size) (h2 : w.cell? ⟨Bm, 0, none⟩ = some (.map (some b))) (hown : w.ownsMap Try.prog 9 R b nn D0) (hmax : Maps.size D0 ≤ maxLen) (hbytes : Maps.size D0 * 16 ≤ 140737488355328) :
  Calls Try.prog 47 #[.func (.func 62) #[] #[.pointer (some ⟨Bm, 0, none⟩)]] w fun e w' => ∃ (v : Value) (ss : List (List UInt8)), e = .returned v ∧ ss.Perm (strKeys D0) ∧
   w'.ownsRow w.heap.size 9 1 v ss.length ((ss.mergeSort fun x y => decide (x ≤ y)).map encStr) ∧ (v = .slice none 0 0 ↔ ss = []) ∧ Below w.heap.size w w' := by
 have hseq : SeqGives Fence.wide 2 Try.prog 62 #[.pointer (some ⟨Bm, 0, none⟩)] encStr (fun ss => ss.Perm (strKeys D0)) (Maps.size D0) w :=
  AnyZ.keys_gives (ρ := Try.keys48_ren) { Try.keys48 with } Fence.wide _ trivial rfl (by omega) Bm b nn D0 w h1 h2 hown
 have h := AnyZ.sorted_in Try.sorted47 Fence.wide 5 trivial trivial trivial trivial rfl (by omega) (sorts _) (enters_of Try.func61 (by kernel_rfl) rfl) 62 #[.pointer (some ⟨Bm, 0, none⟩)] trivial (enters_of Try.func62 (by kernel_rfl) rfl) _ _ hmax hbytes w hseq
 exact (callsIn_wide (n := 5)).1 h
theorem keys (es : List (Value × Bool × List P)) : Meets Try.prog 48 [.one (.mp 0)] [some (.map false es)] (.one (.clo 62 [.ref 1 0])) [some (.map false es), some (.cells true [.mp 0])] := meets_keys hK es
theorem sorted {V : Type} {f : V → List P} {b : Bool} {m : List (ByteArray × V)} (h : okK m = true) :
  Meets Try.prog 47 [.one (.clo 62 [.ref 0 0])] [some (.cells false [.mp 1]), some (.map false (mapE b f m))] (.one (.own 2 0 (sortK m).length 1)) [some (.cells false [.mp 1]), some (.map false (mapE b f m)), some (.cells true (rowC e_str (sortK m)))] := meets_sorted Try.underlying9 hS h
end Go.Abs.SK
