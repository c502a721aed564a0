/- slices.ContainsFunc, slices.IndexFunc at items: the kit's contracts laid at this translation (printed by wip/tools/laytext.py). -/
import Derived.Test.YtpcmbnbdppembaaGreatDoorProg
import Derived.Shelf.SlLaysH0
namespace Go.Proofs
open Go.Shelf
def Tryz.cfIt_ren : Go.Shelf.Ren := ⟨fun | 8 => 159 | 6 => 199 | n => n, fun | 22 => 22 | 23 => 73 | 25 => 202 | 4 => 4 | 3 => 3 | 0 => 0 | n => n, fun | n => n⟩
theorem Tryz.cfIt : Go.Proofs.SlLaysH0.n8 Tryz.prog Tryz.cfIt_ren := {
  mixed := by kernel_rfl
  f6 := ⟨"slices.IndexFunc[[]rosary/api.Item,rosary/api.Item]", by decide, Tryz.func199.trans (congrArg some (by kernel_rfl))⟩
  f8 := ⟨"slices.ContainsFunc[[]rosary/api.Item,rosary/api.Item]", by decide, Tryz.func159.trans (congrArg some (by kernel_rfl))⟩
  t0 := Tryz.underlying0
  a0 := Tryz.isAgg0
  z0 := Tryz.sizeOf0
  v0 := Tryz.zeroValue0
  t3 := Tryz.underlying3
  a3 := Tryz.isAgg3
  z3 := Tryz.sizeOf3
  v3 := Tryz.zeroValue3
  t4 := Tryz.underlying4
  a4 := Tryz.isAgg4
  z4 := Tryz.sizeOf4
  v4 := Tryz.zeroValue4
  t22 := Tryz.underlying22
  a22 := Tryz.isAgg22
  z22 := Tryz.sizeOf22
  v22 := Tryz.zeroValue22
  t25 := Tryz.underlying202
  a25 := Tryz.isAgg202
  z25 := Tryz.sizeOf202
  v25 := Tryz.zeroValue202 }
end Go.Proofs
