import Derived.Test.YtiegaebmhpdnmaaAbsSK
import Derived.Shelf.SlMaps.Clone
namespace Go.Proofs
open Go.Shelf
def Try.clone49_ren : Go.Shelf.Ren := ⟨fun | 5 => 49 | 7 => 63 | n => n, fun | 4 => 4 | 20 => 20 | 23 => 47 | 25 => 9 | 3 => 65 | n => n, fun | n => n⟩
theorem Try.clone49 : Go.Proofs.SlLaysW.n5 Try.prog Try.clone49_ren := {
 mixed := by kernel_rfl
 f5 := ⟨Try.f49.name, by decide, Try.func49.trans (congrArg some (by kernel_rfl))⟩
 f7 := Try.func63.trans (congrArg some (by kernel_rfl))
 t4 := Try.underlying4
 a4 := Try.isAgg4
 z4 := Try.sizeOf4
 v4 := Try.zeroValue4
 t20 := Try.underlying20
 a20 := Try.isAgg20
 z20 := Try.sizeOf20
 v20 := Try.zeroValue20
 t23 := Try.underlying47
 a23 := Try.isAgg47
 z23 := Try.sizeOf47
 v23 := Try.zeroValue47 }
end Go.Proofs
namespace Go.Abs.SK
open Go.Proofs
theorem clone (es : List (Value × Bool × List P)) : Meets Try.prog 49 [.one (.mp 0)] [some (.map false es)] (.one (.mp 1)) [some (.map false es), some (.map false es)] :=
 meets_clone (fun b arr clock w hb => AnyW.maps_Clone Try.clone49 b arr clock w hb) es
end Go.Abs.SK
