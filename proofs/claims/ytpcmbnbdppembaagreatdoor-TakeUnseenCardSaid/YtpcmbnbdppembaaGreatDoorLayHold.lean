/- slices.ContainsFunc, slices.IndexFunc at owned arcs: the kit's contracts laid at this translation (printed by wip/tools/laytext.py). -/
import Derived.Test.YtpcmbnbdppembaaGreatDoorProg
import Derived.Shelf.SlLaysH0
namespace Go.Proofs
open Go.Shelf
def Tryz.cfOw_ren : Go.Shelf.Ren := ⟨fun | 8 => 71 | 6 => 155 | n => n, fun | 22 => 32 | 23 => 128 | 25 => 139 | 4 => 4 | 3 => 3 | 0 => 0 | n => n, fun | n => n⟩
theorem Tryz.cfOw : Go.Proofs.SlLaysH0.n8 Tryz.prog Tryz.cfOw_ren := {
  mixed := by kernel_rfl
  f6 := ⟨"slices.IndexFunc[[]rosary/api.Owned,rosary/api.Owned]", by decide, Tryz.func155.trans (congrArg some (by kernel_rfl))⟩
  f8 := ⟨"slices.ContainsFunc[[]rosary/api.Owned,rosary/api.Owned]", by decide, Tryz.func71.trans (congrArg some (by kernel_rfl))⟩
  t0 := Tryz.underlying0
  a0 := Tryz.isAgg0
  z0 := Tryz.sizeOf0
  v0 := Tryz.zeroValue0
  t3 := Tryz.underlying3
  a3 := Tryz.isAgg3
  z3 := Tryz.sizeOf3
  v3 := Tryz.zeroValue3
  t4 := Tryz.underlying4
  a4 := Tryz.isAgg4
  z4 := Tryz.sizeOf4
  v4 := Tryz.zeroValue4
  t22 := Tryz.underlying32
  a22 := Tryz.isAgg32
  z22 := Tryz.sizeOf32
  v22 := Tryz.zeroValue32
  t25 := Tryz.underlying139
  a25 := Tryz.isAgg139
  z25 := Tryz.sizeOf139
  v25 := Tryz.zeroValue139 }
def Tryz.ifOw_ren : Go.Shelf.Ren := ⟨fun | 6 => 155 | n => n, fun | 22 => 32 | 23 => 128 | 25 => 139 | 3 => 3 | 0 => 0 | 4 => 4 | n => n, fun | n => n⟩
theorem Tryz.ifOw : Go.Proofs.SlLaysH0.n6 Tryz.prog Tryz.ifOw_ren := {
  mixed := by kernel_rfl
  f6 := ⟨"slices.IndexFunc[[]rosary/api.Owned,rosary/api.Owned]", by decide, Tryz.func155.trans (congrArg some (by kernel_rfl))⟩
  t0 := Tryz.underlying0
  a0 := Tryz.isAgg0
  z0 := Tryz.sizeOf0
  v0 := Tryz.zeroValue0
  t3 := Tryz.underlying3
  a3 := Tryz.isAgg3
  z3 := Tryz.sizeOf3
  v3 := Tryz.zeroValue3
  t4 := Tryz.underlying4
  a4 := Tryz.isAgg4
  z4 := Tryz.sizeOf4
  v4 := Tryz.zeroValue4
  t22 := Tryz.underlying32
  a22 := Tryz.isAgg32
  z22 := Tryz.sizeOf32
  v22 := Tryz.zeroValue32
  t25 := Tryz.underlying139
  a25 := Tryz.isAgg139
  z25 := Tryz.sizeOf139
  v25 := Tryz.zeroValue139 }
end Go.Proofs
