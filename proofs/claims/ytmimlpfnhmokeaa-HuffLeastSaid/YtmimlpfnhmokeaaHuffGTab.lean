/-
  Printed by a program of mine (gen.py): the types that the functions of this seat look at, and the functions that have bodies.
-/
import Derived.Test.YtmimlpfnhmokeaaProg
import Derived.Test.YtmimlpfnhmokeaaShP
import Derived.KernelRfl
namespace Go.Proofs
open Go.Sh
def Try.i0 : TI := ⟨.tuple [], 1, 0, Value.tuple #[]⟩
theorem Try.tok0 : TIok Try.prog 0 Try.i0 := ⟨by kernel_rfl, by kernel_rfl⟩
def Try.i3 : TI := ⟨.int .i64, 1, 8, Value.int .i64 0⟩
theorem Try.tok3 : TIok Try.prog 3 Try.i3 := ⟨by kernel_rfl, by kernel_rfl⟩
def Try.i4 : TI := ⟨.bool, 1, 1, Value.bool false⟩
theorem Try.tok4 : TIok Try.prog 4 Try.i4 := ⟨by kernel_rfl, by kernel_rfl⟩
def Try.i22 : TI := ⟨.sl 3, 1, 24, Value.slice none 0 0⟩
theorem Try.tok22 : TIok Try.prog 22 Try.i22 := ⟨by kernel_rfl, by kernel_rfl⟩
def Try.i24 : TI := ⟨.tuple [22, 4], 1, 0, Value.tuple #[Value.slice none 0 0, Value.bool false]⟩
theorem Try.tok24 : TIok Try.prog 24 Try.i24 := ⟨by kernel_rfl, by kernel_rfl⟩
def Try.i26 : TI := ⟨.tuple [3, 4], 1, 0, Value.tuple #[Value.int .i64 0, Value.bool false]⟩
theorem Try.tok26 : TIok Try.prog 26 Try.i26 := ⟨by kernel_rfl, by kernel_rfl⟩
def Try.i33 : TI := ⟨.ptr 55, 1, 8, Value.pointer none⟩
theorem Try.tok33 : TIok Try.prog 33 Try.i33 := ⟨by kernel_rfl, by kernel_rfl⟩
def Try.i34 : TI := ⟨.tuple [33, 4], 1, 0, Value.tuple #[Value.pointer none, Value.bool false]⟩
theorem Try.tok34 : TIok Try.prog 34 Try.i34 := ⟨by kernel_rfl, by kernel_rfl⟩
def Try.i36 : TI := ⟨.tuple [3, 3], 1, 0, Value.tuple #[Value.int .i64 0, Value.int .i64 0]⟩
theorem Try.tok36 : TIok Try.prog 36 Try.i36 := ⟨by kernel_rfl, by kernel_rfl⟩
def Try.i42 : TI := ⟨.sl 44, 1, 24, Value.slice none 0 0⟩
theorem Try.tok42 : TIok Try.prog 42 Try.i42 := ⟨by kernel_rfl, by kernel_rfl⟩
def Try.i44 : TI := ⟨.struct [(0, 3), (1, 22)], 2, 32, Value.agg #[Value.int .i64 0, Value.slice none 0 0]⟩
theorem Try.tok44 : TIok Try.prog 44 Try.i44 := ⟨by kernel_rfl, by kernel_rfl⟩
def Try.i46 : TI := ⟨.fn, 1, 8, Value.nilFunc⟩
theorem Try.tok46 : TIok Try.prog 46 Try.i46 := ⟨by kernel_rfl, by kernel_rfl⟩
def Try.i49 : TI := ⟨.sl 22, 1, 24, Value.slice none 0 0⟩
theorem Try.tok49 : TIok Try.prog 49 Try.i49 := ⟨by kernel_rfl, by kernel_rfl⟩
def Try.i51 : TI := ⟨.arr 3 3, 3, 24, Value.agg #[Value.int .i64 0, Value.int .i64 0, Value.int .i64 0]⟩
theorem Try.tok51 : TIok Try.prog 51 Try.i51 := ⟨by kernel_rfl, by kernel_rfl⟩
def Try.i52 : TI := ⟨.int .u64, 1, 8, Value.int .u64 0⟩
theorem Try.tok52 : TIok Try.prog 52 Try.i52 := ⟨by kernel_rfl, by kernel_rfl⟩
def Try.i53 : TI := ⟨.sl 56, 1, 24, Value.slice none 0 0⟩
theorem Try.tok53 : TIok Try.prog 53 Try.i53 := ⟨by kernel_rfl, by kernel_rfl⟩
def Try.i55 : TI := ⟨.struct [(0, 53)], 1, 24, Value.agg #[Value.slice none 0 0]⟩
theorem Try.tok55 : TIok Try.prog 55 Try.i55 := ⟨by kernel_rfl, by kernel_rfl⟩
def Try.i56 : TI := ⟨.arr 2 3, 2, 16, Value.agg #[Value.int .i64 0, Value.int .i64 0]⟩
theorem Try.tok56 : TIok Try.prog 56 Try.i56 := ⟨by kernel_rfl, by kernel_rfl⟩
def Try.i62 : TI := ⟨.sl 42, 1, 24, Value.slice none 0 0⟩
theorem Try.tok62 : TIok Try.prog 62 Try.i62 := ⟨by kernel_rfl, by kernel_rfl⟩
def Try.tab : Tab := [(0, Try.i0), (3, Try.i3), (4, Try.i4), (22, Try.i22), (24, Try.i24), (26, Try.i26), (33, Try.i33), (34, Try.i34), (36, Try.i36), (42, Try.i42), (44, Try.i44), (46, Try.i46), (49, Try.i49), (51, Try.i51), (52, Try.i52), (53, Try.i53), (55, Try.i55), (56, Try.i56), (62, Try.i62)]
theorem Try.tab_ok : TabOk Try.prog Try.tab := by
  unfold TabOk Try.tab
  simp only [List.forall_mem_cons]
  exact ⟨Try.tok0, Try.tok3, Try.tok4, Try.tok22, Try.tok24, Try.tok26, Try.tok33, Try.tok34, Try.tok36, Try.tok42, Try.tok44, Try.tok46, Try.tok49, Try.tok51, Try.tok52, Try.tok53, Try.tok55, Try.tok56, Try.tok62, fun _ h => by cases h⟩
theorem Try.mixed : Try.prog.follows .mixedOrders = true := by kernel_rfl
theorem Try.cal3 : callable Try.prog 3 := ⟨Try.f3, Try.func3, by kernel_rfl, by kernel_rfl⟩
theorem Try.cal4 : callable Try.prog 4 := ⟨Try.f4, Try.func4, by kernel_rfl, by kernel_rfl⟩
theorem Try.cal5 : callable Try.prog 5 := ⟨Try.f5, Try.func5, by kernel_rfl, by kernel_rfl⟩
theorem Try.cal6 : callable Try.prog 6 := ⟨Try.f6, Try.func6, by kernel_rfl, by kernel_rfl⟩
theorem Try.cal7 : callable Try.prog 7 := ⟨Try.f7, Try.func7, by kernel_rfl, by kernel_rfl⟩
theorem Try.cal8 : callable Try.prog 8 := ⟨Try.f8, Try.func8, by kernel_rfl, by kernel_rfl⟩
theorem Try.cal9 : callable Try.prog 9 := ⟨Try.f9, Try.func9, by kernel_rfl, by kernel_rfl⟩
theorem Try.cal10 : callable Try.prog 10 := ⟨Try.f10, Try.func10, by kernel_rfl, by kernel_rfl⟩
theorem Try.cal11 : callable Try.prog 11 := ⟨Try.f11, Try.func11, by kernel_rfl, by kernel_rfl⟩
theorem Try.cal12 : callable Try.prog 12 := ⟨Try.f12, Try.func12, by kernel_rfl, by kernel_rfl⟩
theorem Try.cal13 : callable Try.prog 13 := ⟨Try.f13, Try.func13, by kernel_rfl, by kernel_rfl⟩
theorem Try.cal14 : callable Try.prog 14 := ⟨Try.f14, Try.func14, by kernel_rfl, by kernel_rfl⟩
theorem Try.cal15 : callable Try.prog 15 := ⟨Try.f15, Try.func15, by kernel_rfl, by kernel_rfl⟩
theorem Try.cal16 : callable Try.prog 16 := ⟨Try.f16, Try.func16, by kernel_rfl, by kernel_rfl⟩
theorem Try.cal17 : callable Try.prog 17 := ⟨Try.f17, Try.func17, by kernel_rfl, by kernel_rfl⟩
theorem Try.cal18 : callable Try.prog 18 := ⟨Try.f18, Try.func18, by kernel_rfl, by kernel_rfl⟩
theorem Try.cal19 : callable Try.prog 19 := ⟨Try.f19, Try.func19, by kernel_rfl, by kernel_rfl⟩
theorem Try.cal20 : callable Try.prog 20 := ⟨Try.f20, Try.func20, by kernel_rfl, by kernel_rfl⟩
theorem Try.cal21 : callable Try.prog 21 := ⟨Try.f21, Try.func21, by kernel_rfl, by kernel_rfl⟩
theorem Try.cal22 : callable Try.prog 22 := ⟨Try.f22, Try.func22, by kernel_rfl, by kernel_rfl⟩
theorem Try.cal23 : callable Try.prog 23 := ⟨Try.f23, Try.func23, by kernel_rfl, by kernel_rfl⟩
theorem Try.cal24 : callable Try.prog 24 := ⟨Try.f24, Try.func24, by kernel_rfl, by kernel_rfl⟩
theorem Try.cal25 : callable Try.prog 25 := ⟨Try.f25, Try.func25, by kernel_rfl, by kernel_rfl⟩
theorem Try.cal26 : callable Try.prog 26 := ⟨Try.f26, Try.func26, by kernel_rfl, by kernel_rfl⟩
theorem Try.cal27 : callable Try.prog 27 := ⟨Try.f27, Try.func27, by kernel_rfl, by kernel_rfl⟩
theorem Try.cal28 : callable Try.prog 28 := ⟨Try.f28, Try.func28, by kernel_rfl, by kernel_rfl⟩
theorem Try.cal29 : callable Try.prog 29 := ⟨Try.f29, Try.func29, by kernel_rfl, by kernel_rfl⟩
theorem Try.cal30 : callable Try.prog 30 := ⟨Try.f30, Try.func30, by kernel_rfl, by kernel_rfl⟩
theorem Try.cal31 : callable Try.prog 31 := ⟨Try.f31, Try.func31, by kernel_rfl, by kernel_rfl⟩
theorem Try.cal32 : callable Try.prog 32 := ⟨Try.f32, Try.func32, by kernel_rfl, by kernel_rfl⟩
theorem Try.cal33 : callable Try.prog 33 := ⟨Try.f33, Try.func33, by kernel_rfl, by kernel_rfl⟩
theorem Try.cal34 : callable Try.prog 34 := ⟨Try.f34, Try.func34, by kernel_rfl, by kernel_rfl⟩
theorem Try.cal35 : callable Try.prog 35 := ⟨Try.f35, Try.func35, by kernel_rfl, by kernel_rfl⟩
theorem Try.cal36 : callable Try.prog 36 := ⟨Try.f36, Try.func36, by kernel_rfl, by kernel_rfl⟩
end Go.Proofs
