/- What a program bears of slices' stable sort at parts; and that this one bears it. -/
import Derived.Shelf.SlSortCmp.KitK
import Derived.Shelf.SlLaysF0
import Derived.Test.YtbmajajndckfoaaSymPlain
import Derived.Test.YtbmajajndckfoaaPartRow
namespace Go.Proofs.Ytbmajajndckfoaa
open Go.Shelf Go.RowKit Go.Lib Go.Sort
def insRen : Ren := ⟨fun | 20 => 48 | n => n, fun | 0 => 0 | 3 => 3 | 4 => 4 | 22 => 37 | 24 => 41 | 25 => 71 | n => n, fun | n => n⟩
structure StL (P : Program) (k : Nat) : Prop where
  mixed : P.follows .mixedOrders = true
  t0 : P.underlying 0 = some (TypeDesc.tuple #[])
  a0 : ∀ w, (isAgg 0).run P w = .ok false w
  z0 : ∀ w, (Go.sizeOf 0).run P w = .ok 1 w
  v0 : ∀ w, (zeroValue 0).run P w = .ok (Value.tuple #[]) w
  t3 : P.underlying 3 = some (TypeDesc.int IntKind.i64)
  a3 : ∀ w, (isAgg 3).run P w = .ok false w
  z3 : ∀ w, (Go.sizeOf 3).run P w = .ok 1 w
  v3 : ∀ w, (zeroValue 3).run P w = .ok (Value.int IntKind.i64 0) w
  t4 : P.underlying 4 = some (TypeDesc.bool)
  a4 : ∀ w, (isAgg 4).run P w = .ok false w
  z4 : ∀ w, (Go.sizeOf 4).run P w = .ok 1 w
  v4 : ∀ w, (zeroValue 4).run P w = .ok (Value.bool false) w
  t22 : P.underlying 37 = some (TypeDesc.slice 41)
  a22 : ∀ w, (isAgg 37).run P w = .ok false w
  z22 : ∀ w, (Go.sizeOf 37).run P w = .ok 1 w
  v22 : ∀ w, (zeroValue 37).run P w = .ok (Value.slice none 0 0) w
  t25 : P.underlying 71 = some (TypeDesc.func #[41, 41] #[3] false)
  a25 : ∀ w, (isAgg 71).run P w = .ok false w
  z25 : ∀ w, (Go.sizeOf 71).run P w = .ok 1 w
  v25 : ∀ w, (zeroValue 71).run P w = .ok (Value.nilFunc) w
  t39 : P.underlying 90 = some (TypeDesc.int IntKind.u64)
  a39 : ∀ w, (isAgg 90).run P w = .ok false w
  z39 : ∀ w, (Go.sizeOf 90).run P w = .ok 1 w
  v39 : ∀ w, (zeroValue 90).run P w = .ok (Value.int IntKind.u64 0) w
  aE : ∀ w, (isAgg 41).run P w = .ok true w
  zE : ∀ w, (Go.sizeOf 41).run P w = .ok k w
  fS : P.funcs[51]? = some Try.f51
  fR : P.funcs[50]? = some Try.f50
  fM : P.funcs[49]? = some Try.f49
  fT : P.funcs[47]? = some Try.f47
  ins : SlLaysF0.n20 P insRen
theorem insLay : SlLaysF0.n20 Try.prog insRen := {
  mixed := by kernel_rfl
  f20 := ⟨Try.f48.name, by decide, Try.func48.trans (congrArg some (by kernel_rfl))⟩
  t0 := Try.underlying0
  a0 := Try.isAgg0
  z0 := Try.sizeOf0
  v0 := Try.zeroValue0
  t3 := Try.underlying3
  a3 := Try.isAgg3
  z3 := Try.sizeOf3
  v3 := Try.zeroValue3
  t4 := Try.underlying4
  a4 := Try.isAgg4
  z4 := Try.sizeOf4
  v4 := Try.zeroValue4
  t22 := Try.underlying37
  a22 := Try.isAgg37
  z22 := Try.sizeOf37
  v22 := Try.zeroValue37
  t25 := Try.underlying71
  a25 := Try.isAgg71
  z25 := Try.sizeOf71
  v25 := Try.zeroValue71 }
theorem stL : StL Try.prog 3 := {
  mixed := by kernel_rfl
  t0 := Try.underlying0
  a0 := Try.isAgg0
  z0 := Try.sizeOf0
  v0 := Try.zeroValue0
  t3 := Try.underlying3
  a3 := Try.isAgg3
  z3 := Try.sizeOf3
  v3 := Try.zeroValue3
  t4 := Try.underlying4
  a4 := Try.isAgg4
  z4 := Try.sizeOf4
  v4 := Try.zeroValue4
  t22 := Try.underlying37
  a22 := Try.isAgg37
  z22 := Try.sizeOf37
  v22 := Try.zeroValue37
  t25 := Try.underlying71
  a25 := Try.isAgg71
  z25 := Try.sizeOf71
  v25 := Try.zeroValue71
  t39 := Try.underlying90
  a39 := Try.isAgg90
  z39 := Try.sizeOf90
  v39 := Try.zeroValue90
  aE := Try.isAgg41
  zE := Try.sizeOf41
  fS := Try.func51
  fR := Try.func50
  fM := Try.func49
  fT := Try.func47
  ins := insLay }
end Go.Proofs.Ytbmajajndckfoaa
