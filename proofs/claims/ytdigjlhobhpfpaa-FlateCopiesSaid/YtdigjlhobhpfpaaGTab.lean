/-
  Printed by a program of mine (gen.py): the types that the functions of this seat look at, and the functions that have bodies.
-/
import Derived.Test.YtdigjlhobhpfpaaProg
import Derived.Test.YtdigjlhobhpfpaaShP
import Derived.KernelRfl
namespace Go.Proofs
open Go.Sh
def Try.i0 : TI := ⟨.tuple [], 1, 0, Value.tuple #[]⟩
theorem Try.tok0 : TIok Try.prog 0 Try.i0 := ⟨by kernel_rfl, by kernel_rfl⟩
def Try.i3 : TI := ⟨.int .i64, 1, 8, Value.int .i64 0⟩
theorem Try.tok3 : TIok Try.prog 3 Try.i3 := ⟨by kernel_rfl, by kernel_rfl⟩
def Try.i4 : TI := ⟨.bool, 1, 1, Value.bool false⟩
theorem Try.tok4 : TIok Try.prog 4 Try.i4 := ⟨by kernel_rfl, by kernel_rfl⟩
def Try.i5 : TI := ⟨.int .u8, 1, 1, Value.int .u8 0⟩
theorem Try.tok5 : TIok Try.prog 5 Try.i5 := ⟨by kernel_rfl, by kernel_rfl⟩
def Try.i9 : TI := ⟨.str, 1, 16, Value.string ByteArray.empty⟩
theorem Try.tok9 : TIok Try.prog 9 Try.i9 := ⟨by kernel_rfl, by kernel_rfl⟩
def Try.i23 : TI := ⟨.ptr 47, 1, 8, Value.pointer none⟩
theorem Try.tok23 : TIok Try.prog 23 Try.i23 := ⟨by kernel_rfl, by kernel_rfl⟩
def Try.i25 : TI := ⟨.sl 3, 1, 24, Value.slice none 0 0⟩
theorem Try.tok25 : TIok Try.prog 25 Try.i25 := ⟨by kernel_rfl, by kernel_rfl⟩
def Try.i27 : TI := ⟨.struct [(0, 25), (1, 25), (2, 3), (3, 4)], 4, 64, Value.agg #[Value.slice none 0 0, Value.slice none 0 0, Value.int .i64 0, Value.bool false]⟩
theorem Try.tok27 : TIok Try.prog 27 Try.i27 := ⟨by kernel_rfl, by kernel_rfl⟩
def Try.i28 : TI := ⟨.tuple [27, 27], 1, 0, Value.tuple #[Value.agg #[Value.slice none 0 0, Value.slice none 0 0, Value.int .i64 0, Value.bool false], Value.agg #[Value.slice none 0 0, Value.slice none 0 0, Value.int .i64 0, Value.bool false]]⟩
theorem Try.tok28 : TIok Try.prog 28 Try.i28 := ⟨by kernel_rfl, by kernel_rfl⟩
def Try.i32 : TI := ⟨.sl 5, 1, 24, Value.slice none 0 0⟩
theorem Try.tok32 : TIok Try.prog 32 Try.i32 := ⟨by kernel_rfl, by kernel_rfl⟩
def Try.i33 : TI := ⟨.tuple [3, 3], 1, 0, Value.tuple #[Value.int .i64 0, Value.int .i64 0]⟩
theorem Try.tok33 : TIok Try.prog 33 Try.i33 := ⟨by kernel_rfl, by kernel_rfl⟩
def Try.i35 : TI := ⟨.int .i64, 1, 8, Value.int .i64 0⟩
theorem Try.tok35 : TIok Try.prog 35 Try.i35 := ⟨by kernel_rfl, by kernel_rfl⟩
def Try.i36 : TI := ⟨.tuple [32, 3, 35], 1, 0, Value.tuple #[Value.slice none 0 0, Value.int .i64 0, Value.int .i64 0]⟩
theorem Try.tok36 : TIok Try.prog 36 Try.i36 := ⟨by kernel_rfl, by kernel_rfl⟩
def Try.i41 : TI := ⟨.sl 32, 1, 24, Value.slice none 0 0⟩
theorem Try.tok41 : TIok Try.prog 41 Try.i41 := ⟨by kernel_rfl, by kernel_rfl⟩
def Try.i44 : TI := ⟨.tuple [32, 35], 1, 0, Value.tuple #[Value.slice none 0 0, Value.int .i64 0]⟩
theorem Try.tok44 : TIok Try.prog 44 Try.i44 := ⟨by kernel_rfl, by kernel_rfl⟩
def Try.i47 : TI := ⟨.struct [(0, 32), (1, 3), (2, 4)], 3, 40, Value.agg #[Value.slice none 0 0, Value.int .i64 0, Value.bool false]⟩
theorem Try.tok47 : TIok Try.prog 47 Try.i47 := ⟨by kernel_rfl, by kernel_rfl⟩
def Try.i50 : TI := ⟨.ptr 54, 1, 8, Value.pointer none⟩
theorem Try.tok50 : TIok Try.prog 50 Try.i50 := ⟨by kernel_rfl, by kernel_rfl⟩
def Try.i51 : TI := ⟨.ptr 74, 1, 8, Value.pointer none⟩
theorem Try.tok51 : TIok Try.prog 51 Try.i51 := ⟨by kernel_rfl, by kernel_rfl⟩
def Try.i54 : TI := ⟨.struct [(0, 51), (1, 32), (2, 3), (3, 35)], 4, 48, Value.agg #[Value.pointer none, Value.slice none 0 0, Value.int .i64 0, Value.int .i64 0]⟩
theorem Try.tok54 : TIok Try.prog 54 Try.i54 := ⟨by kernel_rfl, by kernel_rfl⟩
def Try.i55 : TI := ⟨.tuple [25, 25], 1, 0, Value.tuple #[Value.slice none 0 0, Value.slice none 0 0]⟩
theorem Try.tok55 : TIok Try.prog 55 Try.i55 := ⟨by kernel_rfl, by kernel_rfl⟩
def Try.i57 : TI := ⟨.ptr 78, 1, 8, Value.pointer none⟩
theorem Try.tok57 : TIok Try.prog 57 Try.i57 := ⟨by kernel_rfl, by kernel_rfl⟩
def Try.i58 : TI := ⟨.tuple [57, 4], 1, 0, Value.tuple #[Value.pointer none, Value.bool false]⟩
theorem Try.tok58 : TIok Try.prog 58 Try.i58 := ⟨by kernel_rfl, by kernel_rfl⟩
def Try.i61 : TI := ⟨.tuple [57, 57], 1, 0, Value.tuple #[Value.pointer none, Value.pointer none]⟩
theorem Try.tok61 : TIok Try.prog 61 Try.i61 := ⟨by kernel_rfl, by kernel_rfl⟩
def Try.i68 : TI := ⟨.tuple [3, 4], 1, 0, Value.tuple #[Value.int .i64 0, Value.bool false]⟩
theorem Try.tok68 : TIok Try.prog 68 Try.i68 := ⟨by kernel_rfl, by kernel_rfl⟩
def Try.i70 : TI := ⟨.tuple [25, 4], 1, 0, Value.tuple #[Value.slice none 0 0, Value.bool false]⟩
theorem Try.tok70 : TIok Try.prog 70 Try.i70 := ⟨by kernel_rfl, by kernel_rfl⟩
def Try.i74 : TI := ⟨.struct [(0, 32), (1, 3), (2, 4)], 3, 40, Value.agg #[Value.slice none 0 0, Value.int .i64 0, Value.bool false]⟩
theorem Try.tok74 : TIok Try.prog 74 Try.i74 := ⟨by kernel_rfl, by kernel_rfl⟩
def Try.i76 : TI := ⟨.sl 79, 1, 24, Value.slice none 0 0⟩
theorem Try.tok76 : TIok Try.prog 76 Try.i76 := ⟨by kernel_rfl, by kernel_rfl⟩
def Try.i78 : TI := ⟨.struct [(0, 76)], 1, 24, Value.agg #[Value.slice none 0 0]⟩
theorem Try.tok78 : TIok Try.prog 78 Try.i78 := ⟨by kernel_rfl, by kernel_rfl⟩
def Try.i79 : TI := ⟨.arr 2 3, 2, 16, Value.agg #[Value.int .i64 0, Value.int .i64 0]⟩
theorem Try.tok79 : TIok Try.prog 79 Try.i79 := ⟨by kernel_rfl, by kernel_rfl⟩
def Try.tab : Tab := [(0, Try.i0), (3, Try.i3), (4, Try.i4), (5, Try.i5), (9, Try.i9), (23, Try.i23), (25, Try.i25), (27, Try.i27), (28, Try.i28), (32, Try.i32), (33, Try.i33), (35, Try.i35), (36, Try.i36), (41, Try.i41), (44, Try.i44), (47, Try.i47), (50, Try.i50), (51, Try.i51), (54, Try.i54), (55, Try.i55), (57, Try.i57), (58, Try.i58), (61, Try.i61), (68, Try.i68), (70, Try.i70), (74, Try.i74), (76, Try.i76), (78, Try.i78), (79, Try.i79)]
theorem Try.tab_ok : TabOk Try.prog Try.tab := by
  unfold TabOk Try.tab
  simp only [List.forall_mem_cons]
  exact ⟨Try.tok0, Try.tok3, Try.tok4, Try.tok5, Try.tok9, Try.tok23, Try.tok25, Try.tok27, Try.tok28, Try.tok32, Try.tok33, Try.tok35, Try.tok36, Try.tok41, Try.tok44, Try.tok47, Try.tok50, Try.tok51, Try.tok54, Try.tok55, Try.tok57, Try.tok58, Try.tok61, Try.tok68, Try.tok70, Try.tok74, Try.tok76, Try.tok78, Try.tok79, fun _ h => by cases h⟩
theorem Try.mixed : Try.prog.follows .mixedOrders = true := by kernel_rfl
theorem Try.cal3 : callable Try.prog 3 := ⟨Try.f3, Try.func3, by kernel_rfl, by kernel_rfl⟩
theorem Try.cal4 : callable Try.prog 4 := ⟨Try.f4, Try.func4, by kernel_rfl, by kernel_rfl⟩
theorem Try.cal5 : callable Try.prog 5 := ⟨Try.f5, Try.func5, by kernel_rfl, by kernel_rfl⟩
theorem Try.cal6 : callable Try.prog 6 := ⟨Try.f6, Try.func6, by kernel_rfl, by kernel_rfl⟩
theorem Try.cal7 : callable Try.prog 7 := ⟨Try.f7, Try.func7, by kernel_rfl, by kernel_rfl⟩
theorem Try.cal8 : callable Try.prog 8 := ⟨Try.f8, Try.func8, by kernel_rfl, by kernel_rfl⟩
theorem Try.cal9 : callable Try.prog 9 := ⟨Try.f9, Try.func9, by kernel_rfl, by kernel_rfl⟩
theorem Try.cal10 : callable Try.prog 10 := ⟨Try.f10, Try.func10, by kernel_rfl, by kernel_rfl⟩
theorem Try.cal11 : callable Try.prog 11 := ⟨Try.f11, Try.func11, by kernel_rfl, by kernel_rfl⟩
theorem Try.cal12 : callable Try.prog 12 := ⟨Try.f12, Try.func12, by kernel_rfl, by kernel_rfl⟩
theorem Try.cal13 : callable Try.prog 13 := ⟨Try.f13, Try.func13, by kernel_rfl, by kernel_rfl⟩
theorem Try.cal14 : callable Try.prog 14 := ⟨Try.f14, Try.func14, by kernel_rfl, by kernel_rfl⟩
theorem Try.cal15 : callable Try.prog 15 := ⟨Try.f15, Try.func15, by kernel_rfl, by kernel_rfl⟩
theorem Try.cal16 : callable Try.prog 16 := ⟨Try.f16, Try.func16, by kernel_rfl, by kernel_rfl⟩
theorem Try.cal17 : callable Try.prog 17 := ⟨Try.f17, Try.func17, by kernel_rfl, by kernel_rfl⟩
theorem Try.cal18 : callable Try.prog 18 := ⟨Try.f18, Try.func18, by kernel_rfl, by kernel_rfl⟩
theorem Try.cal19 : callable Try.prog 19 := ⟨Try.f19, Try.func19, by kernel_rfl, by kernel_rfl⟩
theorem Try.cal20 : callable Try.prog 20 := ⟨Try.f20, Try.func20, by kernel_rfl, by kernel_rfl⟩
theorem Try.cal21 : callable Try.prog 21 := ⟨Try.f21, Try.func21, by kernel_rfl, by kernel_rfl⟩
theorem Try.cal22 : callable Try.prog 22 := ⟨Try.f22, Try.func22, by kernel_rfl, by kernel_rfl⟩
theorem Try.cal23 : callable Try.prog 23 := ⟨Try.f23, Try.func23, by kernel_rfl, by kernel_rfl⟩
theorem Try.cal24 : callable Try.prog 24 := ⟨Try.f24, Try.func24, by kernel_rfl, by kernel_rfl⟩
theorem Try.cal25 : callable Try.prog 25 := ⟨Try.f25, Try.func25, by kernel_rfl, by kernel_rfl⟩
theorem Try.cal26 : callable Try.prog 26 := ⟨Try.f26, Try.func26, by kernel_rfl, by kernel_rfl⟩
theorem Try.cal27 : callable Try.prog 27 := ⟨Try.f27, Try.func27, by kernel_rfl, by kernel_rfl⟩
theorem Try.cal28 : callable Try.prog 28 := ⟨Try.f28, Try.func28, by kernel_rfl, by kernel_rfl⟩
theorem Try.cal29 : callable Try.prog 29 := ⟨Try.f29, Try.func29, by kernel_rfl, by kernel_rfl⟩
theorem Try.cal30 : callable Try.prog 30 := ⟨Try.f30, Try.func30, by kernel_rfl, by kernel_rfl⟩
theorem Try.cal31 : callable Try.prog 31 := ⟨Try.f31, Try.func31, by kernel_rfl, by kernel_rfl⟩
theorem Try.cal32 : callable Try.prog 32 := ⟨Try.f32, Try.func32, by kernel_rfl, by kernel_rfl⟩
theorem Try.cal33 : callable Try.prog 33 := ⟨Try.f33, Try.func33, by kernel_rfl, by kernel_rfl⟩
theorem Try.cal34 : callable Try.prog 34 := ⟨Try.f34, Try.func34, by kernel_rfl, by kernel_rfl⟩
theorem Try.cal35 : callable Try.prog 35 := ⟨Try.f35, Try.func35, by kernel_rfl, by kernel_rfl⟩
theorem Try.cal36 : callable Try.prog 36 := ⟨Try.f36, Try.func36, by kernel_rfl, by kernel_rfl⟩
theorem Try.cal37 : callable Try.prog 37 := ⟨Try.f37, Try.func37, by kernel_rfl, by kernel_rfl⟩
theorem Try.cal38 : callable Try.prog 38 := ⟨Try.f38, Try.func38, by kernel_rfl, by kernel_rfl⟩
theorem Try.cal39 : callable Try.prog 39 := ⟨Try.f39, Try.func39, by kernel_rfl, by kernel_rfl⟩
theorem Try.cal40 : callable Try.prog 40 := ⟨Try.f40, Try.func40, by kernel_rfl, by kernel_rfl⟩
theorem Try.cal41 : callable Try.prog 41 := ⟨Try.f41, Try.func41, by kernel_rfl, by kernel_rfl⟩
theorem Try.cal42 : callable Try.prog 42 := ⟨Try.f42, Try.func42, by kernel_rfl, by kernel_rfl⟩
theorem Try.cal43 : callable Try.prog 43 := ⟨Try.f43, Try.func43, by kernel_rfl, by kernel_rfl⟩
theorem Try.cal44 : callable Try.prog 44 := ⟨Try.f44, Try.func44, by kernel_rfl, by kernel_rfl⟩
theorem Try.cal45 : callable Try.prog 45 := ⟨Try.f45, Try.func45, by kernel_rfl, by kernel_rfl⟩
theorem Try.cal46 : callable Try.prog 46 := ⟨Try.f46, Try.func46, by kernel_rfl, by kernel_rfl⟩
theorem Try.cal47 : callable Try.prog 47 := ⟨Try.f47, Try.func47, by kernel_rfl, by kernel_rfl⟩
theorem Try.cal48 : callable Try.prog 48 := ⟨Try.f48, Try.func48, by kernel_rfl, by kernel_rfl⟩
end Go.Proofs
