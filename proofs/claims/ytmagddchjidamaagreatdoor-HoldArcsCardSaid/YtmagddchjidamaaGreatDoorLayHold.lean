/- slices.ContainsFunc, slices.IndexFunc at owned arcs: the kit's contracts laid at this translation (printed by wip/tools/laytext.py). -/
import Derived.Test.YtmagddchjidamaaGreatDoorProg
import Derived.Shelf.SlLaysH0
namespace Go.Proofs
open Go.Shelf
def Tryz.cfOw_ren : Go.Shelf.Ren := ⟨fun | 8 => 64 | 6 => 77 | n => n, fun | 22 => 63 | 23 => 66 | 25 => 106 | 4 => 4 | 3 => 3 | 0 => 0 | n => n, fun | n => n⟩
theorem Tryz.cfOw : Go.Proofs.SlLaysH0.n8 Tryz.prog Tryz.cfOw_ren := {
  mixed := by kernel_rfl
  f6 := ⟨"slices.IndexFunc[[]rosary/api.Owned,rosary/api.Owned]", by decide, Tryz.func77.trans (congrArg some (by kernel_rfl))⟩
  f8 := ⟨"slices.ContainsFunc[[]rosary/api.Owned,rosary/api.Owned]", by decide, Tryz.func64.trans (congrArg some (by kernel_rfl))⟩
  t0 := Tryz.underlying0
  a0 := Tryz.isAgg0
  z0 := Tryz.sizeOf0
  v0 := Tryz.zeroValue0
  t3 := Tryz.underlying3
  a3 := Tryz.isAgg3
  z3 := Tryz.sizeOf3
  v3 := Tryz.zeroValue3
  t4 := Tryz.underlying4
  a4 := Tryz.isAgg4
  z4 := Tryz.sizeOf4
  v4 := Tryz.zeroValue4
  t22 := Tryz.underlying63
  a22 := Tryz.isAgg63
  z22 := Tryz.sizeOf63
  v22 := Tryz.zeroValue63
  t25 := Tryz.underlying106
  a25 := Tryz.isAgg106
  z25 := Tryz.sizeOf106
  v25 := Tryz.zeroValue106 }
def Tryz.ifOw_ren : Go.Shelf.Ren := ⟨fun | 6 => 77 | n => n, fun | 22 => 63 | 23 => 66 | 25 => 106 | 3 => 3 | 0 => 0 | 4 => 4 | n => n, fun | n => n⟩
theorem Tryz.ifOw : Go.Proofs.SlLaysH0.n6 Tryz.prog Tryz.ifOw_ren := {
  mixed := by kernel_rfl
  f6 := ⟨"slices.IndexFunc[[]rosary/api.Owned,rosary/api.Owned]", by decide, Tryz.func77.trans (congrArg some (by kernel_rfl))⟩
  t0 := Tryz.underlying0
  a0 := Tryz.isAgg0
  z0 := Tryz.sizeOf0
  v0 := Tryz.zeroValue0
  t3 := Tryz.underlying3
  a3 := Tryz.isAgg3
  z3 := Tryz.sizeOf3
  v3 := Tryz.zeroValue3
  t4 := Tryz.underlying4
  a4 := Tryz.isAgg4
  z4 := Tryz.sizeOf4
  v4 := Tryz.zeroValue4
  t22 := Tryz.underlying63
  a22 := Tryz.isAgg63
  z22 := Tryz.sizeOf63
  v22 := Tryz.zeroValue63
  t25 := Tryz.underlying106
  a25 := Tryz.isAgg106
  z25 := Tryz.sizeOf106
  v25 := Tryz.zeroValue106 }
end Go.Proofs
