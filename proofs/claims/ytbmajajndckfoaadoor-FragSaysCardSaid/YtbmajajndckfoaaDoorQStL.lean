/- What a program bears of slices' stable sort at parts; and that this one bears it. -/
import Derived.Shelf.SlSortCmp.KitK
import Derived.Shelf.SlLaysF0
import Derived.Test.YtbmajajndckfoaaDoorSymPlain
import Derived.Test.YtbmajajndckfoaaDoorPartRow
namespace Go.Proofs.YtbmajajndckfoaaDoor
open Go.Shelf Go.RowKit Go.Lib Go.Sort
def insRen : Ren := ⟨fun | 20 => 63 | n => n, fun | 0 => 0 | 3 => 3 | 4 => 4 | 22 => 23 | 24 => 50 | 25 => 76 | n => n, fun | n => n⟩
structure StL (P : Program) (k : Nat) : Prop where
  mixed : P.follows .mixedOrders = true
  t0 : P.underlying 0 = some (TypeDesc.tuple #[])
  a0 : ∀ w, (isAgg 0).run P w = .ok false w
  z0 : ∀ w, (Go.sizeOf 0).run P w = .ok 1 w
  v0 : ∀ w, (zeroValue 0).run P w = .ok (Value.tuple #[]) w
  t3 : P.underlying 3 = some (TypeDesc.int IntKind.i64)
  a3 : ∀ w, (isAgg 3).run P w = .ok false w
  z3 : ∀ w, (Go.sizeOf 3).run P w = .ok 1 w
  v3 : ∀ w, (zeroValue 3).run P w = .ok (Value.int IntKind.i64 0) w
  t4 : P.underlying 4 = some (TypeDesc.bool)
  a4 : ∀ w, (isAgg 4).run P w = .ok false w
  z4 : ∀ w, (Go.sizeOf 4).run P w = .ok 1 w
  v4 : ∀ w, (zeroValue 4).run P w = .ok (Value.bool false) w
  t22 : P.underlying 23 = some (TypeDesc.slice 50)
  a22 : ∀ w, (isAgg 23).run P w = .ok false w
  z22 : ∀ w, (Go.sizeOf 23).run P w = .ok 1 w
  v22 : ∀ w, (zeroValue 23).run P w = .ok (Value.slice none 0 0) w
  t25 : P.underlying 76 = some (TypeDesc.func #[50, 50] #[3] false)
  a25 : ∀ w, (isAgg 76).run P w = .ok false w
  z25 : ∀ w, (Go.sizeOf 76).run P w = .ok 1 w
  v25 : ∀ w, (zeroValue 76).run P w = .ok (Value.nilFunc) w
  t39 : P.underlying 112 = some (TypeDesc.int IntKind.u64)
  a39 : ∀ w, (isAgg 112).run P w = .ok false w
  z39 : ∀ w, (Go.sizeOf 112).run P w = .ok 1 w
  v39 : ∀ w, (zeroValue 112).run P w = .ok (Value.int IntKind.u64 0) w
  aE : ∀ w, (isAgg 50).run P w = .ok true w
  zE : ∀ w, (Go.sizeOf 50).run P w = .ok k w
  fS : P.funcs[66]? = some Tryd.f66
  fR : P.funcs[65]? = some Tryd.f65
  fM : P.funcs[64]? = some Tryd.f64
  fT : P.funcs[59]? = some Tryd.f59
  ins : SlLaysF0.n20 P insRen
theorem insLay : SlLaysF0.n20 Tryd.prog insRen := {
  mixed := by kernel_rfl
  f20 := ⟨Tryd.f63.name, by decide, Tryd.func63.trans (congrArg some (by kernel_rfl))⟩
  t0 := Tryd.underlying0
  a0 := Tryd.isAgg0
  z0 := Tryd.sizeOf0
  v0 := Tryd.zeroValue0
  t3 := Tryd.underlying3
  a3 := Tryd.isAgg3
  z3 := Tryd.sizeOf3
  v3 := Tryd.zeroValue3
  t4 := Tryd.underlying4
  a4 := Tryd.isAgg4
  z4 := Tryd.sizeOf4
  v4 := Tryd.zeroValue4
  t22 := Tryd.underlying23
  a22 := Tryd.isAgg23
  z22 := Tryd.sizeOf23
  v22 := Tryd.zeroValue23
  t25 := Tryd.underlying76
  a25 := Tryd.isAgg76
  z25 := Tryd.sizeOf76
  v25 := Tryd.zeroValue76 }
theorem stL : StL Tryd.prog 3 := {
  mixed := by kernel_rfl
  t0 := Tryd.underlying0
  a0 := Tryd.isAgg0
  z0 := Tryd.sizeOf0
  v0 := Tryd.zeroValue0
  t3 := Tryd.underlying3
  a3 := Tryd.isAgg3
  z3 := Tryd.sizeOf3
  v3 := Tryd.zeroValue3
  t4 := Tryd.underlying4
  a4 := Tryd.isAgg4
  z4 := Tryd.sizeOf4
  v4 := Tryd.zeroValue4
  t22 := Tryd.underlying23
  a22 := Tryd.isAgg23
  z22 := Tryd.sizeOf23
  v22 := Tryd.zeroValue23
  t25 := Tryd.underlying76
  a25 := Tryd.isAgg76
  z25 := Tryd.sizeOf76
  v25 := Tryd.zeroValue76
  t39 := Tryd.underlying112
  a39 := Tryd.isAgg112
  z39 := Tryd.sizeOf112
  v39 := Tryd.zeroValue112
  aE := Tryd.isAgg50
  zE := Tryd.sizeOf50
  fS := Tryd.func66
  fR := Tryd.func65
  fM := Tryd.func64
  fT := Tryd.func59
  ins := insLay }
end Go.Proofs.YtbmajajndckfoaaDoor
