/- stringslite.Clone: the kit's contracts laid at this translation (printed by wip/tools/laytext.py). -/
import Derived.Test.YtpcmbnbdppembaaGreatDoorProg
import Derived.Shelf.LaysM
namespace Go.Proofs
open Go.Shelf
def Tryz.clone_ren : Go.Shelf.Ren := ⟨fun | 316 => 208 | n => n, fun | 9 => 9 | 3 => 3 | 4 => 4 | 37 => 244 | 0 => 0 | 127 => 269 | 5 => 5 | n => n, fun | n => n⟩
theorem Tryz.clone : Go.Proofs.LaysM.n316 Tryz.prog Tryz.clone_ren := {
  mixed := by kernel_rfl
  f316 := Tryz.func208.trans (congrArg some (by kernel_rfl))
  t0 := Tryz.underlying0
  a0 := Tryz.isAgg0
  z0 := Tryz.sizeOf0
  v0 := Tryz.zeroValue0
  t3 := Tryz.underlying3
  a3 := Tryz.isAgg3
  z3 := Tryz.sizeOf3
  v3 := Tryz.zeroValue3
  t4 := Tryz.underlying4
  a4 := Tryz.isAgg4
  z4 := Tryz.sizeOf4
  v4 := Tryz.zeroValue4
  t9 := Tryz.underlying9
  a9 := Tryz.isAgg9
  z9 := Tryz.sizeOf9
  v9 := Tryz.zeroValue9
  t37 := Tryz.underlying244
  a37 := Tryz.isAgg244
  z37 := Tryz.sizeOf244
  v37 := Tryz.zeroValue244
  t127 := Tryz.underlying269
  a127 := Tryz.isAgg269
  z127 := Tryz.sizeOf269
  v127 := Tryz.zeroValue269
  t5 := Tryz.underlying5
  a5 := Tryz.isAgg5
  z5 := Tryz.sizeOf5
  v5 := Tryz.zeroValue5
  i0 := by kernel_rfl
  i3 := by kernel_rfl
  i4 := by kernel_rfl
  i5 := by kernel_rfl
  i9 := by kernel_rfl
  i37 := by kernel_rfl
  i127 := by kernel_rfl }
end Go.Proofs
