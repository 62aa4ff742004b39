import Derived.Test.YtipgdmaagiijmaaProg
import Derived.Test.YtipgdmaagiijmaaXm
import Derived.KernelRfl
set_option maxRecDepth 100000
namespace Go.SX
open Go.Proofs
/-- the types of the seat: a table, each row a closed fact -/
def TB : TT := [
  (1, ⟨1, 8, .nilFunc, .func #[] #[] false⟩),
  (2, ⟨1, 8, .int .i64 0, .int .i64⟩),
  (3, ⟨1, 8, .int .i64 0, .int .i64⟩),
  (4, ⟨1, 1, .bool false, .bool⟩),
  (5, ⟨1, 1, .int .u8 0, .int .u8⟩),
  (9, ⟨1, 16, .string ByteArray.empty, .string⟩),
  (12, ⟨1, 8, .int .u64 0, .int .u64⟩),
  (21, ⟨1, 4, .int .i32 0, .int .i32⟩),
  (22, ⟨1, 24, .slice none 0 0, .slice 5⟩),
  (23, ⟨1, 4, .float .f32 0, .float .f32⟩),
  (24, ⟨1, 24, .slice none 0 0, .slice 69⟩),
  (25, ⟨1, 24, .slice none 0 0, .slice 31⟩),
  (26, ⟨6, 72, .agg #[.int .i64 0, .int .i64 0, .float .f32 0, .float .f32 0, .slice none 0 0, .slice none 0 0], .struct #[⟨"Length", 3, 0, false, "", "", 0⟩, ⟨"Voices", 3, 1, false, "", "", 8⟩, ⟨"Ceiling", 23, 2, false, "", "", 16⟩, ⟨"Release", 23, 3, false, "", "", 20⟩, ⟨"Bodies", 24, 4, false, "", "", 24⟩, ⟨"Events", 25, 5, false, "", "", 48⟩]⟩),
  (27, ⟨6, 72, .agg #[.int .i64 0, .int .i64 0, .float .f32 0, .float .f32 0, .slice none 0 0, .slice none 0 0], .struct #[⟨"Length", 3, 0, false, "", "", 0⟩, ⟨"Voices", 3, 1, false, "", "", 8⟩, ⟨"Ceiling", 23, 2, false, "", "", 16⟩, ⟨"Release", 23, 3, false, "", "", 20⟩, ⟨"Bodies", 24, 4, false, "", "", 24⟩, ⟨"Events", 25, 5, false, "", "", 48⟩]⟩),
  (28, ⟨1, 8, .nilFunc, .func #[22, 3] #[27] false⟩),
  (29, ⟨1, 8, .nilFunc, .func #[27] #[25] false⟩),
  (30, ⟨6, 48, .agg #[.int .i64 0, .int .i64 0, .int .i64 0, .int .i64 0, .int .i64 0, .float .f32 0], .struct #[⟨"At", 3, 0, false, "", "", 0⟩, ⟨"Kind", 3, 1, false, "", "", 8⟩, ⟨"Body", 3, 2, false, "", "", 16⟩, ⟨"Shape", 3, 3, false, "", "", 24⟩, ⟨"Count", 3, 4, false, "", "", 32⟩, ⟨"Force", 23, 5, false, "", "", 40⟩]⟩),
  (31, ⟨6, 48, .agg #[.int .i64 0, .int .i64 0, .int .i64 0, .int .i64 0, .int .i64 0, .float .f32 0], .struct #[⟨"At", 3, 0, false, "", "", 0⟩, ⟨"Kind", 3, 1, false, "", "", 8⟩, ⟨"Body", 3, 2, false, "", "", 16⟩, ⟨"Shape", 3, 3, false, "", "", 24⟩, ⟨"Count", 3, 4, false, "", "", 32⟩, ⟨"Force", 23, 5, false, "", "", 40⟩]⟩),
  (32, ⟨1, 8, .nilFunc, .func #[22] #[4] false⟩),
  (33, ⟨1, 24, .slice none 0 0, .slice 23⟩),
  (35, ⟨1, 8, .nilFunc, .func #[27] #[33, 4] false⟩),
  (36, ⟨1, 8, .nilFunc, .func #[33, 33] #[4] false⟩),
  (37, ⟨1, 24, .slice none 0 0, .slice 3⟩),
  (39, ⟨1, 8, .nilFunc, .func #[27, 3] #[37, 4] false⟩),
  (40, ⟨1, 24, .slice none 0 0, .slice 33⟩),
  (42, ⟨1, 8, .nilFunc, .func #[27] #[40, 4] false⟩),
  (43, ⟨1, 8, .nilFunc, .func #[22, 3] #[3] false⟩),
  (45, ⟨1, 8, .nilFunc, .func #[27, 3] #[27, 4] false⟩),
  (46, ⟨1, 8, .nilFunc, .func #[27, 3, 3] #[3] false⟩),
  (47, ⟨1, 8, .nilFunc, .func #[48, 3] #[27] false⟩),
  (48, ⟨1, 8, .pointer none, .pointer 73⟩),
  (49, ⟨1, 8, .nilFunc, .func #[22] #[48] false⟩),
  (50, ⟨1, 8, .nilFunc, .func #[27] #[4] false⟩),
  (51, ⟨1, 8, .pointer none, .pointer 59⟩),
  (53, ⟨1, 8, .nilFunc, .func #[27, 3] #[51, 23, 33] false⟩),
  (54, ⟨1, 8, .nilFunc, .func #[33, 33] #[3] false⟩),
  (55, ⟨1, 8, .nilFunc, .func #[27] #[51] false⟩),
  (56, ⟨1, 8, .nilFunc, .func #[] #[33] false⟩),
  (57, ⟨1, 24, .slice none 0 0, .slice 63⟩),
  (58, ⟨12, 168, .agg #[.int .i64 0, .int .i64 0, .float .f32 0, .float .f32 0, .slice none 0 0, .slice none 0 0, .slice none 0 0, .int .i64 0, .int .i64 0, .slice none 0 0, .slice none 0 0, .int .i64 0], .struct #[⟨"s", 27, 0, false, "", "loop.example/g03222/impl", 0⟩, ⟨"events", 25, 6, false, "", "loop.example/g03222/impl", 72⟩, ⟨"done", 3, 7, false, "", "loop.example/g03222/impl", 96⟩, ⟨"now", 3, 8, false, "", "loop.example/g03222/impl", 104⟩, ⟨"voices", 57, 9, false, "", "loop.example/g03222/impl", 112⟩, ⟨"tracks", 37, 10, false, "", "loop.example/g03222/impl", 136⟩, ⟨"begun", 3, 11, false, "", "loop.example/g03222/impl", 160⟩]⟩),
  (59, ⟨12, 168, .agg #[.int .i64 0, .int .i64 0, .float .f32 0, .float .f32 0, .slice none 0 0, .slice none 0 0, .slice none 0 0, .int .i64 0, .int .i64 0, .slice none 0 0, .slice none 0 0, .int .i64 0], .struct #[⟨"s", 27, 0, false, "", "loop.example/g03222/impl", 0⟩, ⟨"events", 25, 6, false, "", "loop.example/g03222/impl", 72⟩, ⟨"done", 3, 7, false, "", "loop.example/g03222/impl", 96⟩, ⟨"now", 3, 8, false, "", "loop.example/g03222/impl", 104⟩, ⟨"voices", 57, 9, false, "", "loop.example/g03222/impl", 112⟩, ⟨"tracks", 37, 10, false, "", "loop.example/g03222/impl", 136⟩, ⟨"begun", 3, 11, false, "", "loop.example/g03222/impl", 160⟩]⟩),
  (60, ⟨1, 24, .slice none 0 0, .slice 98⟩),
  (61, ⟨1, 24, .slice none 0 0, .slice 96⟩),
  (62, ⟨4, 80, .agg #[.int .i64 0, .slice none 0 0, .slice none 0 0, .slice none 0 0], .struct #[⟨"Body", 3, 0, false, "", "", 0⟩, ⟨"Modes", 60, 1, false, "", "", 8⟩, ⟨"States", 61, 2, false, "", "", 32⟩, ⟨"Input", 33, 3, false, "", "", 56⟩]⟩),
  (63, ⟨4, 80, .agg #[.int .i64 0, .slice none 0 0, .slice none 0 0, .slice none 0 0], .struct #[⟨"Body", 3, 0, false, "", "", 0⟩, ⟨"Modes", 60, 1, false, "", "", 8⟩, ⟨"States", 61, 2, false, "", "", 32⟩, ⟨"Input", 33, 3, false, "", "", 56⟩]⟩),
  (64, ⟨1, 8, .nilFunc, .func #[27] #[27] false⟩),
  (65, ⟨1, 8, .nilFunc, .func #[25] #[25] false⟩),
  (66, ⟨1, 8, .nilFunc, .func #[48, 3] #[3] false⟩),
  (67, ⟨1, 8, .nilFunc, .func #[48, 37] #[3] false⟩),
  (68, ⟨1, 24, .agg #[.slice none 0 0], .struct #[⟨"Modes", 60, 0, false, "", "", 0⟩]⟩),
  (69, ⟨1, 24, .agg #[.slice none 0 0], .struct #[⟨"Modes", 60, 0, false, "", "", 0⟩]⟩),
  (70, ⟨1, 8, .nilFunc, .func #[48, 3] #[69] false⟩),
  (71, ⟨1, 8, .nilFunc, .func #[48, 3, 3] #[31] false⟩),
  (72, ⟨3, 40, .agg #[.slice none 0 0, .int .i64 0, .int .i64 0], .struct #[⟨"b", 22, 0, false, "", "loop.example/g03222/spec", 0⟩, ⟨"i", 3, 1, false, "", "loop.example/g03222/spec", 24⟩, ⟨"h", 3, 2, false, "", "loop.example/g03222/spec", 32⟩]⟩),
  (73, ⟨3, 40, .agg #[.slice none 0 0, .int .i64 0, .int .i64 0], .struct #[⟨"b", 22, 0, false, "", "loop.example/g03222/spec", 0⟩, ⟨"i", 3, 1, false, "", "loop.example/g03222/spec", 24⟩, ⟨"h", 3, 2, false, "", "loop.example/g03222/spec", 32⟩]⟩),
  (74, ⟨1, 8, .nilFunc, .func #[3] #[4] false⟩),
  (75, ⟨1, 8, .nilFunc, .func #[23, 23] #[4] false⟩),
  (76, ⟨1, 8, .nilFunc, .func #[24, 77] #[4] false⟩),
  (77, ⟨1, 8, .nilFunc, .func #[69] #[4] false⟩),
  (78, ⟨1, 8, .nilFunc, .func #[25, 80] #[4] false⟩),
  (79, ⟨1, 8, .nilFunc, .func #[31, 3] #[4] false⟩),
  (80, ⟨1, 8, .nilFunc, .func #[31] #[4] false⟩),
  (81, ⟨1, 8, .nilFunc, .func #[25, 82] #[] false⟩),
  (82, ⟨1, 8, .nilFunc, .func #[31, 31] #[3] false⟩),
  (84, ⟨1, 8, .nilFunc, .func #[23, 23, 23, 23] #[23, 23] false⟩),
  (85, ⟨1, 8, .nilFunc, .func #[33] #[23] false⟩),
  (86, ⟨1, 8, .nilFunc, .func #[87, 87] #[4] false⟩),
  (87, ⟨1, 8, .float .f64 0, .float .f64⟩),
  (88, ⟨1, 8, .pointer none, .pointer 63⟩),
  (89, ⟨1, 8, .nilFunc, .func #[33, 3] #[23] false⟩),
  (90, ⟨1, 8, .nilFunc, .func #[60, 61, 23] #[23] false⟩),
  (91, ⟨1, 8, .nilFunc, .func #[31] #[] false⟩),
  (92, ⟨1, 8, .nilFunc, .func #[69] #[69] false⟩),
  (93, ⟨1, 8, .nilFunc, .func #[3, 3, 3] #[4] false⟩),
  (94, ⟨1, 8, .nilFunc, .func #[27, 31] #[4] false⟩),
  (95, ⟨1, 8, .nilFunc, .func #[48] #[3] false⟩),
  (96, ⟨1, 8, .complex .f32 0 0, .complex .f32⟩),
  (97, ⟨2, 16, .agg #[.complex .f32 0 0, .complex .f32 0 0], .struct #[⟨"Pole", 96, 0, false, "", "", 0⟩, ⟨"Gain", 96, 1, false, "", "", 8⟩]⟩),
  (98, ⟨2, 16, .agg #[.complex .f32 0 0, .complex .f32 0 0], .struct #[⟨"Pole", 96, 0, false, "", "", 0⟩, ⟨"Gain", 96, 1, false, "", "", 8⟩]⟩),
  (99, ⟨1, 8, .nilFunc, .func #[48] #[98] false⟩),
  (100, ⟨1, 8, .nilFunc, .func #[98] #[4] false⟩),
  (101, ⟨1, 8, .nilFunc, .func #[48] #[87] false⟩),
  (102, ⟨1, 8, .nilFunc, .func #[87] #[4] false⟩),
  (103, ⟨1, 8, .nilFunc, .func #[23] #[4] false⟩),
  (104, ⟨1, 8, .nilFunc, .func #[24, 77] #[3] false⟩),
  (105, ⟨1, 8, .nilFunc, .func #[60, 100] #[4] false⟩),
  (106, ⟨1, 8, .nilFunc, .func #[25, 80] #[3] false⟩),
  (107, ⟨1, 8, .nilFunc, .func #[3, 3] #[33, 4] false⟩),
  (108, ⟨1, 8, .nilFunc, .func #[25, 3, 82] #[] false⟩),
  (109, ⟨1, 8, .nilFunc, .func #[23] #[23] false⟩),
  (110, ⟨1, 8, .nilFunc, .func #[98, 96, 23] #[96] false⟩),
  (111, ⟨1, 8, .nilFunc, .func #[74] #[] false⟩),
  (112, ⟨1, 8, .nilFunc, .func #[60] #[60] false⟩),
  (113, ⟨1, 8, .nilFunc, .func #[33, 23] #[33] false⟩),
  (114, ⟨1, 8, .nilFunc, .func #[96, 23] #[96] false⟩),
  (115, ⟨1, 8, .nilFunc, .func #[23] #[9] false⟩),
  (116, ⟨1, 8, .nilFunc, .func #[60] #[4] false⟩),
  (117, ⟨1, 8, .int .u64 0, .int .u64⟩),
  (118, ⟨1, 8, .nilFunc, .func #[48] #[96] false⟩),
  (119, ⟨1, 8, .nilFunc, .func #[48, 3] #[4] false⟩),
  (120, ⟨1, 8, .nilFunc, .func #[96] #[4] false⟩),
  (121, ⟨1, 8, .nilFunc, .func #[122] #[87] false⟩),
  (122, ⟨1, 16, .complex .f64 0 0, .complex .f64⟩),
  (123, ⟨1, 8, .nilFunc, .func #[122] #[4] false⟩),
  (124, ⟨1, 8, .nilFunc, .func #[87, 3] #[4] false⟩),
  (125, ⟨1, 8, .int .u64 0, .int .u64⟩),
  (126, ⟨1, 8, .nilFunc, .func #[87] #[125] false⟩),
  (127, ⟨1, 8, .nilFunc, .func #[60, 100] #[3] false⟩),
  (128, ⟨1, 8, .nilFunc, .func #[122, 122] #[4] false⟩),
  (129, ⟨1, 8, .nilFunc, .func #[96] #[122] false⟩),
  (130, ⟨1, 8, .nilFunc, .func #[25, 3, 3, 82] #[] false⟩),
  (131, ⟨1, 8, .nilFunc, .func #[25, 3, 3, 3, 82] #[] false⟩),
  (132, ⟨1, 8, .nilFunc, .func #[133] #[23] false⟩),
  (133, ⟨1, 4, .int .u32 0, .int .u32⟩),
  (134, ⟨1, 8, .nilFunc, .func #[23] #[133] false⟩),
  (135, ⟨1, 8, .nilFunc, .func #[96, 96] #[96] false⟩),
  (136, ⟨1, 8, .nilFunc, .func #[87] #[9] false⟩),
  (137, ⟨1, 8, .nilFunc, .func #[87] #[87] false⟩),
  (138, ⟨1, 8, .nilFunc, .func #[122] #[96] false⟩),
  (139, ⟨1, 8, .nilFunc, .func #[122, 122] #[122] false⟩),
  (141, ⟨1, 8, .nilFunc, .func #[87] #[3, 3] false⟩),
  (142, ⟨1, 8, .nilFunc, .func #[3] #[9] false⟩),
  (143, ⟨1, 8, .nilFunc, .func #[125] #[87] false⟩),
  (144, ⟨1, 8, .nilFunc, .func #[] #[9] false⟩),
  (147, ⟨0, 0, .agg #[], .array 0 16⟩),
  (150, ⟨1, 8, .nilFunc, .func #[] #[3] false⟩),
  (153, ⟨1, 8, .nilFunc, .func #[160, 160] #[4] false⟩),
  (154, ⟨1, 8, .pointer none, .pointer 5⟩),
  (157, ⟨11, 48, .agg #[.int .u64 0, .int .u64 0, .int .u32 0, .int .u8 0, .int .u8 0, .int .u8 0, .int .u8 0, .nilFunc, .pointer none, .int .i32 0, .int .i32 0], .struct #[⟨"Size_", 12, 0, false, "", "", 0⟩, ⟨"PtrBytes", 12, 1, false, "", "", 8⟩, ⟨"Hash", 133, 2, false, "", "", 16⟩, ⟨"TFlag", 151, 3, false, "", "", 20⟩, ⟨"Align_", 5, 4, false, "", "", 21⟩, ⟨"FieldAlign_", 5, 5, false, "", "", 22⟩, ⟨"Kind_", 152, 6, false, "", "", 23⟩, ⟨"Equal", 153, 7, false, "", "", 24⟩, ⟨"GCData", 154, 8, false, "", "", 32⟩, ⟨"Str", 155, 9, false, "", "", 40⟩, ⟨"PtrToThis", 156, 10, false, "", "", 44⟩]⟩),
  (159, ⟨1, 8, .nilFunc, .func #[9] #[9, 4] false⟩),
  (160, ⟨1, 8, .pointer none, .unsafePointer⟩)]
theorem ty1 : TyOk Try.prog 1 ⟨1, 8, .nilFunc, .func #[] #[] false⟩ := ⟨by kernel_rfl, by kernel_rfl⟩
theorem ty2 : TyOk Try.prog 2 ⟨1, 8, .int .i64 0, .int .i64⟩ := ⟨by kernel_rfl, by kernel_rfl⟩
theorem ty3 : TyOk Try.prog 3 ⟨1, 8, .int .i64 0, .int .i64⟩ := ⟨by kernel_rfl, by kernel_rfl⟩
theorem ty4 : TyOk Try.prog 4 ⟨1, 1, .bool false, .bool⟩ := ⟨by kernel_rfl, by kernel_rfl⟩
theorem ty5 : TyOk Try.prog 5 ⟨1, 1, .int .u8 0, .int .u8⟩ := ⟨by kernel_rfl, by kernel_rfl⟩
theorem ty9 : TyOk Try.prog 9 ⟨1, 16, .string ByteArray.empty, .string⟩ := ⟨by kernel_rfl, by kernel_rfl⟩
theorem ty12 : TyOk Try.prog 12 ⟨1, 8, .int .u64 0, .int .u64⟩ := ⟨by kernel_rfl, by kernel_rfl⟩
theorem ty21 : TyOk Try.prog 21 ⟨1, 4, .int .i32 0, .int .i32⟩ := ⟨by kernel_rfl, by kernel_rfl⟩
theorem ty22 : TyOk Try.prog 22 ⟨1, 24, .slice none 0 0, .slice 5⟩ := ⟨by kernel_rfl, by kernel_rfl⟩
theorem ty23 : TyOk Try.prog 23 ⟨1, 4, .float .f32 0, .float .f32⟩ := ⟨by kernel_rfl, by kernel_rfl⟩
theorem ty24 : TyOk Try.prog 24 ⟨1, 24, .slice none 0 0, .slice 69⟩ := ⟨by kernel_rfl, by kernel_rfl⟩
theorem ty25 : TyOk Try.prog 25 ⟨1, 24, .slice none 0 0, .slice 31⟩ := ⟨by kernel_rfl, by kernel_rfl⟩
theorem ty26 : TyOk Try.prog 26 ⟨6, 72, .agg #[.int .i64 0, .int .i64 0, .float .f32 0, .float .f32 0, .slice none 0 0, .slice none 0 0], .struct #[⟨"Length", 3, 0, false, "", "", 0⟩, ⟨"Voices", 3, 1, false, "", "", 8⟩, ⟨"Ceiling", 23, 2, false, "", "", 16⟩, ⟨"Release", 23, 3, false, "", "", 20⟩, ⟨"Bodies", 24, 4, false, "", "", 24⟩, ⟨"Events", 25, 5, false, "", "", 48⟩]⟩ := ⟨by kernel_rfl, by kernel_rfl⟩
theorem ty27 : TyOk Try.prog 27 ⟨6, 72, .agg #[.int .i64 0, .int .i64 0, .float .f32 0, .float .f32 0, .slice none 0 0, .slice none 0 0], .struct #[⟨"Length", 3, 0, false, "", "", 0⟩, ⟨"Voices", 3, 1, false, "", "", 8⟩, ⟨"Ceiling", 23, 2, false, "", "", 16⟩, ⟨"Release", 23, 3, false, "", "", 20⟩, ⟨"Bodies", 24, 4, false, "", "", 24⟩, ⟨"Events", 25, 5, false, "", "", 48⟩]⟩ := ⟨by kernel_rfl, by kernel_rfl⟩
theorem ty28 : TyOk Try.prog 28 ⟨1, 8, .nilFunc, .func #[22, 3] #[27] false⟩ := ⟨by kernel_rfl, by kernel_rfl⟩
theorem ty29 : TyOk Try.prog 29 ⟨1, 8, .nilFunc, .func #[27] #[25] false⟩ := ⟨by kernel_rfl, by kernel_rfl⟩
theorem ty30 : TyOk Try.prog 30 ⟨6, 48, .agg #[.int .i64 0, .int .i64 0, .int .i64 0, .int .i64 0, .int .i64 0, .float .f32 0], .struct #[⟨"At", 3, 0, false, "", "", 0⟩, ⟨"Kind", 3, 1, false, "", "", 8⟩, ⟨"Body", 3, 2, false, "", "", 16⟩, ⟨"Shape", 3, 3, false, "", "", 24⟩, ⟨"Count", 3, 4, false, "", "", 32⟩, ⟨"Force", 23, 5, false, "", "", 40⟩]⟩ := ⟨by kernel_rfl, by kernel_rfl⟩
theorem ty31 : TyOk Try.prog 31 ⟨6, 48, .agg #[.int .i64 0, .int .i64 0, .int .i64 0, .int .i64 0, .int .i64 0, .float .f32 0], .struct #[⟨"At", 3, 0, false, "", "", 0⟩, ⟨"Kind", 3, 1, false, "", "", 8⟩, ⟨"Body", 3, 2, false, "", "", 16⟩, ⟨"Shape", 3, 3, false, "", "", 24⟩, ⟨"Count", 3, 4, false, "", "", 32⟩, ⟨"Force", 23, 5, false, "", "", 40⟩]⟩ := ⟨by kernel_rfl, by kernel_rfl⟩
theorem ty32 : TyOk Try.prog 32 ⟨1, 8, .nilFunc, .func #[22] #[4] false⟩ := ⟨by kernel_rfl, by kernel_rfl⟩
theorem ty33 : TyOk Try.prog 33 ⟨1, 24, .slice none 0 0, .slice 23⟩ := ⟨by kernel_rfl, by kernel_rfl⟩
theorem ty35 : TyOk Try.prog 35 ⟨1, 8, .nilFunc, .func #[27] #[33, 4] false⟩ := ⟨by kernel_rfl, by kernel_rfl⟩
theorem ty36 : TyOk Try.prog 36 ⟨1, 8, .nilFunc, .func #[33, 33] #[4] false⟩ := ⟨by kernel_rfl, by kernel_rfl⟩
theorem ty37 : TyOk Try.prog 37 ⟨1, 24, .slice none 0 0, .slice 3⟩ := ⟨by kernel_rfl, by kernel_rfl⟩
theorem ty39 : TyOk Try.prog 39 ⟨1, 8, .nilFunc, .func #[27, 3] #[37, 4] false⟩ := ⟨by kernel_rfl, by kernel_rfl⟩
theorem ty40 : TyOk Try.prog 40 ⟨1, 24, .slice none 0 0, .slice 33⟩ := ⟨by kernel_rfl, by kernel_rfl⟩
theorem ty42 : TyOk Try.prog 42 ⟨1, 8, .nilFunc, .func #[27] #[40, 4] false⟩ := ⟨by kernel_rfl, by kernel_rfl⟩
theorem ty43 : TyOk Try.prog 43 ⟨1, 8, .nilFunc, .func #[22, 3] #[3] false⟩ := ⟨by kernel_rfl, by kernel_rfl⟩
theorem ty45 : TyOk Try.prog 45 ⟨1, 8, .nilFunc, .func #[27, 3] #[27, 4] false⟩ := ⟨by kernel_rfl, by kernel_rfl⟩
theorem ty46 : TyOk Try.prog 46 ⟨1, 8, .nilFunc, .func #[27, 3, 3] #[3] false⟩ := ⟨by kernel_rfl, by kernel_rfl⟩
theorem ty47 : TyOk Try.prog 47 ⟨1, 8, .nilFunc, .func #[48, 3] #[27] false⟩ := ⟨by kernel_rfl, by kernel_rfl⟩
theorem ty48 : TyOk Try.prog 48 ⟨1, 8, .pointer none, .pointer 73⟩ := ⟨by kernel_rfl, by kernel_rfl⟩
theorem ty49 : TyOk Try.prog 49 ⟨1, 8, .nilFunc, .func #[22] #[48] false⟩ := ⟨by kernel_rfl, by kernel_rfl⟩
theorem ty50 : TyOk Try.prog 50 ⟨1, 8, .nilFunc, .func #[27] #[4] false⟩ := ⟨by kernel_rfl, by kernel_rfl⟩
theorem ty51 : TyOk Try.prog 51 ⟨1, 8, .pointer none, .pointer 59⟩ := ⟨by kernel_rfl, by kernel_rfl⟩
theorem ty53 : TyOk Try.prog 53 ⟨1, 8, .nilFunc, .func #[27, 3] #[51, 23, 33] false⟩ := ⟨by kernel_rfl, by kernel_rfl⟩
theorem ty54 : TyOk Try.prog 54 ⟨1, 8, .nilFunc, .func #[33, 33] #[3] false⟩ := ⟨by kernel_rfl, by kernel_rfl⟩
theorem ty55 : TyOk Try.prog 55 ⟨1, 8, .nilFunc, .func #[27] #[51] false⟩ := ⟨by kernel_rfl, by kernel_rfl⟩
theorem ty56 : TyOk Try.prog 56 ⟨1, 8, .nilFunc, .func #[] #[33] false⟩ := ⟨by kernel_rfl, by kernel_rfl⟩
theorem ty57 : TyOk Try.prog 57 ⟨1, 24, .slice none 0 0, .slice 63⟩ := ⟨by kernel_rfl, by kernel_rfl⟩
theorem ty58 : TyOk Try.prog 58 ⟨12, 168, .agg #[.int .i64 0, .int .i64 0, .float .f32 0, .float .f32 0, .slice none 0 0, .slice none 0 0, .slice none 0 0, .int .i64 0, .int .i64 0, .slice none 0 0, .slice none 0 0, .int .i64 0], .struct #[⟨"s", 27, 0, false, "", "loop.example/g03222/impl", 0⟩, ⟨"events", 25, 6, false, "", "loop.example/g03222/impl", 72⟩, ⟨"done", 3, 7, false, "", "loop.example/g03222/impl", 96⟩, ⟨"now", 3, 8, false, "", "loop.example/g03222/impl", 104⟩, ⟨"voices", 57, 9, false, "", "loop.example/g03222/impl", 112⟩, ⟨"tracks", 37, 10, false, "", "loop.example/g03222/impl", 136⟩, ⟨"begun", 3, 11, false, "", "loop.example/g03222/impl", 160⟩]⟩ := ⟨by kernel_rfl, by kernel_rfl⟩
theorem ty59 : TyOk Try.prog 59 ⟨12, 168, .agg #[.int .i64 0, .int .i64 0, .float .f32 0, .float .f32 0, .slice none 0 0, .slice none 0 0, .slice none 0 0, .int .i64 0, .int .i64 0, .slice none 0 0, .slice none 0 0, .int .i64 0], .struct #[⟨"s", 27, 0, false, "", "loop.example/g03222/impl", 0⟩, ⟨"events", 25, 6, false, "", "loop.example/g03222/impl", 72⟩, ⟨"done", 3, 7, false, "", "loop.example/g03222/impl", 96⟩, ⟨"now", 3, 8, false, "", "loop.example/g03222/impl", 104⟩, ⟨"voices", 57, 9, false, "", "loop.example/g03222/impl", 112⟩, ⟨"tracks", 37, 10, false, "", "loop.example/g03222/impl", 136⟩, ⟨"begun", 3, 11, false, "", "loop.example/g03222/impl", 160⟩]⟩ := ⟨by kernel_rfl, by kernel_rfl⟩
theorem ty60 : TyOk Try.prog 60 ⟨1, 24, .slice none 0 0, .slice 98⟩ := ⟨by kernel_rfl, by kernel_rfl⟩
theorem ty61 : TyOk Try.prog 61 ⟨1, 24, .slice none 0 0, .slice 96⟩ := ⟨by kernel_rfl, by kernel_rfl⟩
theorem ty62 : TyOk Try.prog 62 ⟨4, 80, .agg #[.int .i64 0, .slice none 0 0, .slice none 0 0, .slice none 0 0], .struct #[⟨"Body", 3, 0, false, "", "", 0⟩, ⟨"Modes", 60, 1, false, "", "", 8⟩, ⟨"States", 61, 2, false, "", "", 32⟩, ⟨"Input", 33, 3, false, "", "", 56⟩]⟩ := ⟨by kernel_rfl, by kernel_rfl⟩
theorem ty63 : TyOk Try.prog 63 ⟨4, 80, .agg #[.int .i64 0, .slice none 0 0, .slice none 0 0, .slice none 0 0], .struct #[⟨"Body", 3, 0, false, "", "", 0⟩, ⟨"Modes", 60, 1, false, "", "", 8⟩, ⟨"States", 61, 2, false, "", "", 32⟩, ⟨"Input", 33, 3, false, "", "", 56⟩]⟩ := ⟨by kernel_rfl, by kernel_rfl⟩
theorem ty64 : TyOk Try.prog 64 ⟨1, 8, .nilFunc, .func #[27] #[27] false⟩ := ⟨by kernel_rfl, by kernel_rfl⟩
theorem ty65 : TyOk Try.prog 65 ⟨1, 8, .nilFunc, .func #[25] #[25] false⟩ := ⟨by kernel_rfl, by kernel_rfl⟩
theorem ty66 : TyOk Try.prog 66 ⟨1, 8, .nilFunc, .func #[48, 3] #[3] false⟩ := ⟨by kernel_rfl, by kernel_rfl⟩
theorem ty67 : TyOk Try.prog 67 ⟨1, 8, .nilFunc, .func #[48, 37] #[3] false⟩ := ⟨by kernel_rfl, by kernel_rfl⟩
theorem ty68 : TyOk Try.prog 68 ⟨1, 24, .agg #[.slice none 0 0], .struct #[⟨"Modes", 60, 0, false, "", "", 0⟩]⟩ := ⟨by kernel_rfl, by kernel_rfl⟩
theorem ty69 : TyOk Try.prog 69 ⟨1, 24, .agg #[.slice none 0 0], .struct #[⟨"Modes", 60, 0, false, "", "", 0⟩]⟩ := ⟨by kernel_rfl, by kernel_rfl⟩
theorem ty70 : TyOk Try.prog 70 ⟨1, 8, .nilFunc, .func #[48, 3] #[69] false⟩ := ⟨by kernel_rfl, by kernel_rfl⟩
theorem ty71 : TyOk Try.prog 71 ⟨1, 8, .nilFunc, .func #[48, 3, 3] #[31] false⟩ := ⟨by kernel_rfl, by kernel_rfl⟩
theorem ty72 : TyOk Try.prog 72 ⟨3, 40, .agg #[.slice none 0 0, .int .i64 0, .int .i64 0], .struct #[⟨"b", 22, 0, false, "", "loop.example/g03222/spec", 0⟩, ⟨"i", 3, 1, false, "", "loop.example/g03222/spec", 24⟩, ⟨"h", 3, 2, false, "", "loop.example/g03222/spec", 32⟩]⟩ := ⟨by kernel_rfl, by kernel_rfl⟩
theorem ty73 : TyOk Try.prog 73 ⟨3, 40, .agg #[.slice none 0 0, .int .i64 0, .int .i64 0], .struct #[⟨"b", 22, 0, false, "", "loop.example/g03222/spec", 0⟩, ⟨"i", 3, 1, false, "", "loop.example/g03222/spec", 24⟩, ⟨"h", 3, 2, false, "", "loop.example/g03222/spec", 32⟩]⟩ := ⟨by kernel_rfl, by kernel_rfl⟩
theorem ty74 : TyOk Try.prog 74 ⟨1, 8, .nilFunc, .func #[3] #[4] false⟩ := ⟨by kernel_rfl, by kernel_rfl⟩
theorem ty75 : TyOk Try.prog 75 ⟨1, 8, .nilFunc, .func #[23, 23] #[4] false⟩ := ⟨by kernel_rfl, by kernel_rfl⟩
theorem ty76 : TyOk Try.prog 76 ⟨1, 8, .nilFunc, .func #[24, 77] #[4] false⟩ := ⟨by kernel_rfl, by kernel_rfl⟩
theorem ty77 : TyOk Try.prog 77 ⟨1, 8, .nilFunc, .func #[69] #[4] false⟩ := ⟨by kernel_rfl, by kernel_rfl⟩
theorem ty78 : TyOk Try.prog 78 ⟨1, 8, .nilFunc, .func #[25, 80] #[4] false⟩ := ⟨by kernel_rfl, by kernel_rfl⟩
theorem ty79 : TyOk Try.prog 79 ⟨1, 8, .nilFunc, .func #[31, 3] #[4] false⟩ := ⟨by kernel_rfl, by kernel_rfl⟩
theorem ty80 : TyOk Try.prog 80 ⟨1, 8, .nilFunc, .func #[31] #[4] false⟩ := ⟨by kernel_rfl, by kernel_rfl⟩
theorem ty81 : TyOk Try.prog 81 ⟨1, 8, .nilFunc, .func #[25, 82] #[] false⟩ := ⟨by kernel_rfl, by kernel_rfl⟩
theorem ty82 : TyOk Try.prog 82 ⟨1, 8, .nilFunc, .func #[31, 31] #[3] false⟩ := ⟨by kernel_rfl, by kernel_rfl⟩
theorem ty84 : TyOk Try.prog 84 ⟨1, 8, .nilFunc, .func #[23, 23, 23, 23] #[23, 23] false⟩ := ⟨by kernel_rfl, by kernel_rfl⟩
theorem ty85 : TyOk Try.prog 85 ⟨1, 8, .nilFunc, .func #[33] #[23] false⟩ := ⟨by kernel_rfl, by kernel_rfl⟩
theorem ty86 : TyOk Try.prog 86 ⟨1, 8, .nilFunc, .func #[87, 87] #[4] false⟩ := ⟨by kernel_rfl, by kernel_rfl⟩
theorem ty87 : TyOk Try.prog 87 ⟨1, 8, .float .f64 0, .float .f64⟩ := ⟨by kernel_rfl, by kernel_rfl⟩
theorem ty88 : TyOk Try.prog 88 ⟨1, 8, .pointer none, .pointer 63⟩ := ⟨by kernel_rfl, by kernel_rfl⟩
theorem ty89 : TyOk Try.prog 89 ⟨1, 8, .nilFunc, .func #[33, 3] #[23] false⟩ := ⟨by kernel_rfl, by kernel_rfl⟩
theorem ty90 : TyOk Try.prog 90 ⟨1, 8, .nilFunc, .func #[60, 61, 23] #[23] false⟩ := ⟨by kernel_rfl, by kernel_rfl⟩
theorem ty91 : TyOk Try.prog 91 ⟨1, 8, .nilFunc, .func #[31] #[] false⟩ := ⟨by kernel_rfl, by kernel_rfl⟩
theorem ty92 : TyOk Try.prog 92 ⟨1, 8, .nilFunc, .func #[69] #[69] false⟩ := ⟨by kernel_rfl, by kernel_rfl⟩
theorem ty93 : TyOk Try.prog 93 ⟨1, 8, .nilFunc, .func #[3, 3, 3] #[4] false⟩ := ⟨by kernel_rfl, by kernel_rfl⟩
theorem ty94 : TyOk Try.prog 94 ⟨1, 8, .nilFunc, .func #[27, 31] #[4] false⟩ := ⟨by kernel_rfl, by kernel_rfl⟩
theorem ty95 : TyOk Try.prog 95 ⟨1, 8, .nilFunc, .func #[48] #[3] false⟩ := ⟨by kernel_rfl, by kernel_rfl⟩
theorem ty96 : TyOk Try.prog 96 ⟨1, 8, .complex .f32 0 0, .complex .f32⟩ := ⟨by kernel_rfl, by kernel_rfl⟩
theorem ty97 : TyOk Try.prog 97 ⟨2, 16, .agg #[.complex .f32 0 0, .complex .f32 0 0], .struct #[⟨"Pole", 96, 0, false, "", "", 0⟩, ⟨"Gain", 96, 1, false, "", "", 8⟩]⟩ := ⟨by kernel_rfl, by kernel_rfl⟩
theorem ty98 : TyOk Try.prog 98 ⟨2, 16, .agg #[.complex .f32 0 0, .complex .f32 0 0], .struct #[⟨"Pole", 96, 0, false, "", "", 0⟩, ⟨"Gain", 96, 1, false, "", "", 8⟩]⟩ := ⟨by kernel_rfl, by kernel_rfl⟩
theorem ty99 : TyOk Try.prog 99 ⟨1, 8, .nilFunc, .func #[48] #[98] false⟩ := ⟨by kernel_rfl, by kernel_rfl⟩
theorem ty100 : TyOk Try.prog 100 ⟨1, 8, .nilFunc, .func #[98] #[4] false⟩ := ⟨by kernel_rfl, by kernel_rfl⟩
theorem ty101 : TyOk Try.prog 101 ⟨1, 8, .nilFunc, .func #[48] #[87] false⟩ := ⟨by kernel_rfl, by kernel_rfl⟩
theorem ty102 : TyOk Try.prog 102 ⟨1, 8, .nilFunc, .func #[87] #[4] false⟩ := ⟨by kernel_rfl, by kernel_rfl⟩
theorem ty103 : TyOk Try.prog 103 ⟨1, 8, .nilFunc, .func #[23] #[4] false⟩ := ⟨by kernel_rfl, by kernel_rfl⟩
theorem ty104 : TyOk Try.prog 104 ⟨1, 8, .nilFunc, .func #[24, 77] #[3] false⟩ := ⟨by kernel_rfl, by kernel_rfl⟩
theorem ty105 : TyOk Try.prog 105 ⟨1, 8, .nilFunc, .func #[60, 100] #[4] false⟩ := ⟨by kernel_rfl, by kernel_rfl⟩
theorem ty106 : TyOk Try.prog 106 ⟨1, 8, .nilFunc, .func #[25, 80] #[3] false⟩ := ⟨by kernel_rfl, by kernel_rfl⟩
theorem ty107 : TyOk Try.prog 107 ⟨1, 8, .nilFunc, .func #[3, 3] #[33, 4] false⟩ := ⟨by kernel_rfl, by kernel_rfl⟩
theorem ty108 : TyOk Try.prog 108 ⟨1, 8, .nilFunc, .func #[25, 3, 82] #[] false⟩ := ⟨by kernel_rfl, by kernel_rfl⟩
theorem ty109 : TyOk Try.prog 109 ⟨1, 8, .nilFunc, .func #[23] #[23] false⟩ := ⟨by kernel_rfl, by kernel_rfl⟩
theorem ty110 : TyOk Try.prog 110 ⟨1, 8, .nilFunc, .func #[98, 96, 23] #[96] false⟩ := ⟨by kernel_rfl, by kernel_rfl⟩
theorem ty111 : TyOk Try.prog 111 ⟨1, 8, .nilFunc, .func #[74] #[] false⟩ := ⟨by kernel_rfl, by kernel_rfl⟩
theorem ty112 : TyOk Try.prog 112 ⟨1, 8, .nilFunc, .func #[60] #[60] false⟩ := ⟨by kernel_rfl, by kernel_rfl⟩
theorem ty113 : TyOk Try.prog 113 ⟨1, 8, .nilFunc, .func #[33, 23] #[33] false⟩ := ⟨by kernel_rfl, by kernel_rfl⟩
theorem ty114 : TyOk Try.prog 114 ⟨1, 8, .nilFunc, .func #[96, 23] #[96] false⟩ := ⟨by kernel_rfl, by kernel_rfl⟩
theorem ty115 : TyOk Try.prog 115 ⟨1, 8, .nilFunc, .func #[23] #[9] false⟩ := ⟨by kernel_rfl, by kernel_rfl⟩
theorem ty116 : TyOk Try.prog 116 ⟨1, 8, .nilFunc, .func #[60] #[4] false⟩ := ⟨by kernel_rfl, by kernel_rfl⟩
theorem ty117 : TyOk Try.prog 117 ⟨1, 8, .int .u64 0, .int .u64⟩ := ⟨by kernel_rfl, by kernel_rfl⟩
theorem ty118 : TyOk Try.prog 118 ⟨1, 8, .nilFunc, .func #[48] #[96] false⟩ := ⟨by kernel_rfl, by kernel_rfl⟩
theorem ty119 : TyOk Try.prog 119 ⟨1, 8, .nilFunc, .func #[48, 3] #[4] false⟩ := ⟨by kernel_rfl, by kernel_rfl⟩
theorem ty120 : TyOk Try.prog 120 ⟨1, 8, .nilFunc, .func #[96] #[4] false⟩ := ⟨by kernel_rfl, by kernel_rfl⟩
theorem ty121 : TyOk Try.prog 121 ⟨1, 8, .nilFunc, .func #[122] #[87] false⟩ := ⟨by kernel_rfl, by kernel_rfl⟩
theorem ty122 : TyOk Try.prog 122 ⟨1, 16, .complex .f64 0 0, .complex .f64⟩ := ⟨by kernel_rfl, by kernel_rfl⟩
theorem ty123 : TyOk Try.prog 123 ⟨1, 8, .nilFunc, .func #[122] #[4] false⟩ := ⟨by kernel_rfl, by kernel_rfl⟩
theorem ty124 : TyOk Try.prog 124 ⟨1, 8, .nilFunc, .func #[87, 3] #[4] false⟩ := ⟨by kernel_rfl, by kernel_rfl⟩
theorem ty125 : TyOk Try.prog 125 ⟨1, 8, .int .u64 0, .int .u64⟩ := ⟨by kernel_rfl, by kernel_rfl⟩
theorem ty126 : TyOk Try.prog 126 ⟨1, 8, .nilFunc, .func #[87] #[125] false⟩ := ⟨by kernel_rfl, by kernel_rfl⟩
theorem ty127 : TyOk Try.prog 127 ⟨1, 8, .nilFunc, .func #[60, 100] #[3] false⟩ := ⟨by kernel_rfl, by kernel_rfl⟩
theorem ty128 : TyOk Try.prog 128 ⟨1, 8, .nilFunc, .func #[122, 122] #[4] false⟩ := ⟨by kernel_rfl, by kernel_rfl⟩
theorem ty129 : TyOk Try.prog 129 ⟨1, 8, .nilFunc, .func #[96] #[122] false⟩ := ⟨by kernel_rfl, by kernel_rfl⟩
theorem ty130 : TyOk Try.prog 130 ⟨1, 8, .nilFunc, .func #[25, 3, 3, 82] #[] false⟩ := ⟨by kernel_rfl, by kernel_rfl⟩
theorem ty131 : TyOk Try.prog 131 ⟨1, 8, .nilFunc, .func #[25, 3, 3, 3, 82] #[] false⟩ := ⟨by kernel_rfl, by kernel_rfl⟩
theorem ty132 : TyOk Try.prog 132 ⟨1, 8, .nilFunc, .func #[133] #[23] false⟩ := ⟨by kernel_rfl, by kernel_rfl⟩
theorem ty133 : TyOk Try.prog 133 ⟨1, 4, .int .u32 0, .int .u32⟩ := ⟨by kernel_rfl, by kernel_rfl⟩
theorem ty134 : TyOk Try.prog 134 ⟨1, 8, .nilFunc, .func #[23] #[133] false⟩ := ⟨by kernel_rfl, by kernel_rfl⟩
theorem ty135 : TyOk Try.prog 135 ⟨1, 8, .nilFunc, .func #[96, 96] #[96] false⟩ := ⟨by kernel_rfl, by kernel_rfl⟩
theorem ty136 : TyOk Try.prog 136 ⟨1, 8, .nilFunc, .func #[87] #[9] false⟩ := ⟨by kernel_rfl, by kernel_rfl⟩
theorem ty137 : TyOk Try.prog 137 ⟨1, 8, .nilFunc, .func #[87] #[87] false⟩ := ⟨by kernel_rfl, by kernel_rfl⟩
theorem ty138 : TyOk Try.prog 138 ⟨1, 8, .nilFunc, .func #[122] #[96] false⟩ := ⟨by kernel_rfl, by kernel_rfl⟩
theorem ty139 : TyOk Try.prog 139 ⟨1, 8, .nilFunc, .func #[122, 122] #[122] false⟩ := ⟨by kernel_rfl, by kernel_rfl⟩
theorem ty141 : TyOk Try.prog 141 ⟨1, 8, .nilFunc, .func #[87] #[3, 3] false⟩ := ⟨by kernel_rfl, by kernel_rfl⟩
theorem ty142 : TyOk Try.prog 142 ⟨1, 8, .nilFunc, .func #[3] #[9] false⟩ := ⟨by kernel_rfl, by kernel_rfl⟩
theorem ty143 : TyOk Try.prog 143 ⟨1, 8, .nilFunc, .func #[125] #[87] false⟩ := ⟨by kernel_rfl, by kernel_rfl⟩
theorem ty144 : TyOk Try.prog 144 ⟨1, 8, .nilFunc, .func #[] #[9] false⟩ := ⟨by kernel_rfl, by kernel_rfl⟩
theorem ty147 : TyOk Try.prog 147 ⟨0, 0, .agg #[], .array 0 16⟩ := ⟨by kernel_rfl, by kernel_rfl⟩
theorem ty150 : TyOk Try.prog 150 ⟨1, 8, .nilFunc, .func #[] #[3] false⟩ := ⟨by kernel_rfl, by kernel_rfl⟩
theorem ty153 : TyOk Try.prog 153 ⟨1, 8, .nilFunc, .func #[160, 160] #[4] false⟩ := ⟨by kernel_rfl, by kernel_rfl⟩
theorem ty154 : TyOk Try.prog 154 ⟨1, 8, .pointer none, .pointer 5⟩ := ⟨by kernel_rfl, by kernel_rfl⟩
theorem ty157 : TyOk Try.prog 157 ⟨11, 48, .agg #[.int .u64 0, .int .u64 0, .int .u32 0, .int .u8 0, .int .u8 0, .int .u8 0, .int .u8 0, .nilFunc, .pointer none, .int .i32 0, .int .i32 0], .struct #[⟨"Size_", 12, 0, false, "", "", 0⟩, ⟨"PtrBytes", 12, 1, false, "", "", 8⟩, ⟨"Hash", 133, 2, false, "", "", 16⟩, ⟨"TFlag", 151, 3, false, "", "", 20⟩, ⟨"Align_", 5, 4, false, "", "", 21⟩, ⟨"FieldAlign_", 5, 5, false, "", "", 22⟩, ⟨"Kind_", 152, 6, false, "", "", 23⟩, ⟨"Equal", 153, 7, false, "", "", 24⟩, ⟨"GCData", 154, 8, false, "", "", 32⟩, ⟨"Str", 155, 9, false, "", "", 40⟩, ⟨"PtrToThis", 156, 10, false, "", "", 44⟩]⟩ := ⟨by kernel_rfl, by kernel_rfl⟩
theorem ty159 : TyOk Try.prog 159 ⟨1, 8, .nilFunc, .func #[9] #[9, 4] false⟩ := ⟨by kernel_rfl, by kernel_rfl⟩
theorem ty160 : TyOk Try.prog 160 ⟨1, 8, .pointer none, .unsafePointer⟩ := ⟨by kernel_rfl, by kernel_rfl⟩
theorem hT : TabOk Try.prog TB := tab_of (by kernel_rfl) (by
  unfold TB
  simp only [List.forall_mem_cons]
  exact ⟨ty1, ty2, ty3, ty4, ty5, ty9, ty12, ty21, ty22, ty23, ty24, ty25, ty26, ty27, ty28, ty29, ty30, ty31, ty32, ty33, ty35, ty36, ty37, ty39, ty40, ty42, ty43, ty45, ty46, ty47, ty48, ty49, ty50, ty51, ty53, ty54, ty55, ty56, ty57, ty58, ty59, ty60, ty61, ty62, ty63, ty64, ty65, ty66, ty67, ty68, ty69, ty70, ty71, ty72, ty73, ty74, ty75, ty76, ty77, ty78, ty79, ty80, ty81, ty82, ty84, ty85, ty86, ty87, ty88, ty89, ty90, ty91, ty92, ty93, ty94, ty95, ty96, ty97, ty98, ty99, ty100, ty101, ty102, ty103, ty104, ty105, ty106, ty107, ty108, ty109, ty110, ty111, ty112, ty113, ty114, ty115, ty116, ty117, ty118, ty119, ty120, ty121, ty122, ty123, ty124, ty125, ty126, ty127, ty128, ty129, ty130, ty131, ty132, ty133, ty134, ty135, ty136, ty137, ty138, ty139, ty141, ty142, ty143, ty144, ty147, ty150, ty153, ty154, ty157, ty159, ty160, by simp⟩)
theorem en3 : Enters Try.prog 3 := ⟨Try.f3, Try.func3, by kernel_rfl, by kernel_rfl⟩
theorem en4 : Enters Try.prog 4 := ⟨Try.f4, Try.func4, by kernel_rfl, by kernel_rfl⟩
theorem en5 : Enters Try.prog 5 := ⟨Try.f5, Try.func5, by kernel_rfl, by kernel_rfl⟩
theorem en6 : Enters Try.prog 6 := ⟨Try.f6, Try.func6, by kernel_rfl, by kernel_rfl⟩
theorem en7 : Enters Try.prog 7 := ⟨Try.f7, Try.func7, by kernel_rfl, by kernel_rfl⟩
theorem en8 : Enters Try.prog 8 := ⟨Try.f8, Try.func8, by kernel_rfl, by kernel_rfl⟩
theorem en9 : Enters Try.prog 9 := ⟨Try.f9, Try.func9, by kernel_rfl, by kernel_rfl⟩
theorem en10 : Enters Try.prog 10 := ⟨Try.f10, Try.func10, by kernel_rfl, by kernel_rfl⟩
theorem en11 : Enters Try.prog 11 := ⟨Try.f11, Try.func11, by kernel_rfl, by kernel_rfl⟩
theorem en12 : Enters Try.prog 12 := ⟨Try.f12, Try.func12, by kernel_rfl, by kernel_rfl⟩
theorem en13 : Enters Try.prog 13 := ⟨Try.f13, Try.func13, by kernel_rfl, by kernel_rfl⟩
theorem en14 : Enters Try.prog 14 := ⟨Try.f14, Try.func14, by kernel_rfl, by kernel_rfl⟩
theorem en15 : Enters Try.prog 15 := ⟨Try.f15, Try.func15, by kernel_rfl, by kernel_rfl⟩
theorem en16 : Enters Try.prog 16 := ⟨Try.f16, Try.func16, by kernel_rfl, by kernel_rfl⟩
theorem en17 : Enters Try.prog 17 := ⟨Try.f17, Try.func17, by kernel_rfl, by kernel_rfl⟩
theorem en18 : Enters Try.prog 18 := ⟨Try.f18, Try.func18, by kernel_rfl, by kernel_rfl⟩
theorem en19 : Enters Try.prog 19 := ⟨Try.f19, Try.func19, by kernel_rfl, by kernel_rfl⟩
theorem en20 : Enters Try.prog 20 := ⟨Try.f20, Try.func20, by kernel_rfl, by kernel_rfl⟩
theorem en21 : Enters Try.prog 21 := ⟨Try.f21, Try.func21, by kernel_rfl, by kernel_rfl⟩
theorem en22 : Enters Try.prog 22 := ⟨Try.f22, Try.func22, by kernel_rfl, by kernel_rfl⟩
theorem en23 : Enters Try.prog 23 := ⟨Try.f23, Try.func23, by kernel_rfl, by kernel_rfl⟩
theorem en24 : Enters Try.prog 24 := ⟨Try.f24, Try.func24, by kernel_rfl, by kernel_rfl⟩
theorem en25 : Enters Try.prog 25 := ⟨Try.f25, Try.func25, by kernel_rfl, by kernel_rfl⟩
theorem en26 : Enters Try.prog 26 := ⟨Try.f26, Try.func26, by kernel_rfl, by kernel_rfl⟩
theorem en27 : Enters Try.prog 27 := ⟨Try.f27, Try.func27, by kernel_rfl, by kernel_rfl⟩
theorem en28 : Enters Try.prog 28 := ⟨Try.f28, Try.func28, by kernel_rfl, by kernel_rfl⟩
theorem en29 : Enters Try.prog 29 := ⟨Try.f29, Try.func29, by kernel_rfl, by kernel_rfl⟩
theorem en30 : Enters Try.prog 30 := ⟨Try.f30, Try.func30, by kernel_rfl, by kernel_rfl⟩
theorem en31 : Enters Try.prog 31 := ⟨Try.f31, Try.func31, by kernel_rfl, by kernel_rfl⟩
theorem en32 : Enters Try.prog 32 := ⟨Try.f32, Try.func32, by kernel_rfl, by kernel_rfl⟩
theorem en33 : Enters Try.prog 33 := ⟨Try.f33, Try.func33, by kernel_rfl, by kernel_rfl⟩
theorem en34 : Enters Try.prog 34 := ⟨Try.f34, Try.func34, by kernel_rfl, by kernel_rfl⟩
theorem en35 : Enters Try.prog 35 := ⟨Try.f35, Try.func35, by kernel_rfl, by kernel_rfl⟩
theorem en36 : Enters Try.prog 36 := ⟨Try.f36, Try.func36, by kernel_rfl, by kernel_rfl⟩
theorem en37 : Enters Try.prog 37 := ⟨Try.f37, Try.func37, by kernel_rfl, by kernel_rfl⟩
theorem en38 : Enters Try.prog 38 := ⟨Try.f38, Try.func38, by kernel_rfl, by kernel_rfl⟩
theorem en39 : Enters Try.prog 39 := ⟨Try.f39, Try.func39, by kernel_rfl, by kernel_rfl⟩
theorem en40 : Enters Try.prog 40 := ⟨Try.f40, Try.func40, by kernel_rfl, by kernel_rfl⟩
theorem en41 : Enters Try.prog 41 := ⟨Try.f41, Try.func41, by kernel_rfl, by kernel_rfl⟩
theorem en42 : Enters Try.prog 42 := ⟨Try.f42, Try.func42, by kernel_rfl, by kernel_rfl⟩
theorem en43 : Enters Try.prog 43 := ⟨Try.f43, Try.func43, by kernel_rfl, by kernel_rfl⟩
theorem en44 : Enters Try.prog 44 := ⟨Try.f44, Try.func44, by kernel_rfl, by kernel_rfl⟩
theorem en45 : Enters Try.prog 45 := ⟨Try.f45, Try.func45, by kernel_rfl, by kernel_rfl⟩
theorem en46 : Enters Try.prog 46 := ⟨Try.f46, Try.func46, by kernel_rfl, by kernel_rfl⟩
theorem en47 : Enters Try.prog 47 := ⟨Try.f47, Try.func47, by kernel_rfl, by kernel_rfl⟩
theorem en48 : Enters Try.prog 48 := ⟨Try.f48, Try.func48, by kernel_rfl, by kernel_rfl⟩
theorem en49 : Enters Try.prog 49 := ⟨Try.f49, Try.func49, by kernel_rfl, by kernel_rfl⟩
theorem en50 : Enters Try.prog 50 := ⟨Try.f50, Try.func50, by kernel_rfl, by kernel_rfl⟩
theorem en51 : Enters Try.prog 51 := ⟨Try.f51, Try.func51, by kernel_rfl, by kernel_rfl⟩
theorem en52 : Enters Try.prog 52 := ⟨Try.f52, Try.func52, by kernel_rfl, by kernel_rfl⟩
theorem en53 : Enters Try.prog 53 := ⟨Try.f53, Try.func53, by kernel_rfl, by kernel_rfl⟩
theorem en54 : Enters Try.prog 54 := ⟨Try.f54, Try.func54, by kernel_rfl, by kernel_rfl⟩
theorem en55 : Enters Try.prog 55 := ⟨Try.f55, Try.func55, by kernel_rfl, by kernel_rfl⟩
theorem en56 : Enters Try.prog 56 := ⟨Try.f56, Try.func56, by kernel_rfl, by kernel_rfl⟩
theorem en57 : Enters Try.prog 57 := ⟨Try.f57, Try.func57, by kernel_rfl, by kernel_rfl⟩
theorem en58 : Enters Try.prog 58 := ⟨Try.f58, Try.func58, by kernel_rfl, by kernel_rfl⟩
theorem en59 : Enters Try.prog 59 := ⟨Try.f59, Try.func59, by kernel_rfl, by kernel_rfl⟩
theorem en60 : Enters Try.prog 60 := ⟨Try.f60, Try.func60, by kernel_rfl, by kernel_rfl⟩
theorem en61 : Enters Try.prog 61 := ⟨Try.f61, Try.func61, by kernel_rfl, by kernel_rfl⟩
theorem en62 : Enters Try.prog 62 := ⟨Try.f62, Try.func62, by kernel_rfl, by kernel_rfl⟩
theorem en63 : Enters Try.prog 63 := ⟨Try.f63, Try.func63, by kernel_rfl, by kernel_rfl⟩
theorem en64 : Enters Try.prog 64 := ⟨Try.f64, Try.func64, by kernel_rfl, by kernel_rfl⟩
theorem en65 : Enters Try.prog 65 := ⟨Try.f65, Try.func65, by kernel_rfl, by kernel_rfl⟩
theorem en66 : Enters Try.prog 66 := ⟨Try.f66, Try.func66, by kernel_rfl, by kernel_rfl⟩
theorem en67 : Enters Try.prog 67 := ⟨Try.f67, Try.func67, by kernel_rfl, by kernel_rfl⟩
theorem en68 : Enters Try.prog 68 := ⟨Try.f68, Try.func68, by kernel_rfl, by kernel_rfl⟩
theorem en69 : Enters Try.prog 69 := ⟨Try.f69, Try.func69, by kernel_rfl, by kernel_rfl⟩
theorem en70 : Enters Try.prog 70 := ⟨Try.f70, Try.func70, by kernel_rfl, by kernel_rfl⟩
theorem en71 : Enters Try.prog 71 := ⟨Try.f71, Try.func71, by kernel_rfl, by kernel_rfl⟩
theorem en72 : Enters Try.prog 72 := ⟨Try.f72, Try.func72, by kernel_rfl, by kernel_rfl⟩
theorem en73 : Enters Try.prog 73 := ⟨Try.f73, Try.func73, by kernel_rfl, by kernel_rfl⟩
theorem en74 : Enters Try.prog 74 := ⟨Try.f74, Try.func74, by kernel_rfl, by kernel_rfl⟩
theorem en75 : Enters Try.prog 75 := ⟨Try.f75, Try.func75, by kernel_rfl, by kernel_rfl⟩
theorem en76 : Enters Try.prog 76 := ⟨Try.f76, Try.func76, by kernel_rfl, by kernel_rfl⟩
theorem en77 : Enters Try.prog 77 := ⟨Try.f77, Try.func77, by kernel_rfl, by kernel_rfl⟩
theorem en78 : Enters Try.prog 78 := ⟨Try.f78, Try.func78, by kernel_rfl, by kernel_rfl⟩
theorem en79 : Enters Try.prog 79 := ⟨Try.f79, Try.func79, by kernel_rfl, by kernel_rfl⟩
theorem en80 : Enters Try.prog 80 := ⟨Try.f80, Try.func80, by kernel_rfl, by kernel_rfl⟩
theorem en81 : Enters Try.prog 81 := ⟨Try.f81, Try.func81, by kernel_rfl, by kernel_rfl⟩
theorem en82 : Enters Try.prog 82 := ⟨Try.f82, Try.func82, by kernel_rfl, by kernel_rfl⟩
theorem en83 : Enters Try.prog 83 := ⟨Try.f83, Try.func83, by kernel_rfl, by kernel_rfl⟩
theorem en84 : Enters Try.prog 84 := ⟨Try.f84, Try.func84, by kernel_rfl, by kernel_rfl⟩
theorem en85 : Enters Try.prog 85 := ⟨Try.f85, Try.func85, by kernel_rfl, by kernel_rfl⟩
theorem en86 : Enters Try.prog 86 := ⟨Try.f86, Try.func86, by kernel_rfl, by kernel_rfl⟩
theorem en87 : Enters Try.prog 87 := ⟨Try.f87, Try.func87, by kernel_rfl, by kernel_rfl⟩
theorem en88 : Enters Try.prog 88 := ⟨Try.f88, Try.func88, by kernel_rfl, by kernel_rfl⟩
theorem en89 : Enters Try.prog 89 := ⟨Try.f89, Try.func89, by kernel_rfl, by kernel_rfl⟩
theorem en90 : Enters Try.prog 90 := ⟨Try.f90, Try.func90, by kernel_rfl, by kernel_rfl⟩
theorem en92 : Enters Try.prog 92 := ⟨Try.f92, Try.func92, by kernel_rfl, by kernel_rfl⟩
theorem en93 : Enters Try.prog 93 := ⟨Try.f93, Try.func93, by kernel_rfl, by kernel_rfl⟩
theorem en94 : Enters Try.prog 94 := ⟨Try.f94, Try.func94, by kernel_rfl, by kernel_rfl⟩
theorem en95 : Enters Try.prog 95 := ⟨Try.f95, Try.func95, by kernel_rfl, by kernel_rfl⟩
theorem en96 : Enters Try.prog 96 := ⟨Try.f96, Try.func96, by kernel_rfl, by kernel_rfl⟩
theorem en99 : Enters Try.prog 99 := ⟨Try.f99, Try.func99, by kernel_rfl, by kernel_rfl⟩
theorem en100 : Enters Try.prog 100 := ⟨Try.f100, Try.func100, by kernel_rfl, by kernel_rfl⟩
theorem en101 : Enters Try.prog 101 := ⟨Try.f101, Try.func101, by kernel_rfl, by kernel_rfl⟩
theorem en102 : Enters Try.prog 102 := ⟨Try.f102, Try.func102, by kernel_rfl, by kernel_rfl⟩
theorem en103 : Enters Try.prog 103 := ⟨Try.f103, Try.func103, by kernel_rfl, by kernel_rfl⟩
theorem en104 : Enters Try.prog 104 := ⟨Try.f104, Try.func104, by kernel_rfl, by kernel_rfl⟩
theorem en105 : Enters Try.prog 105 := ⟨Try.f105, Try.func105, by kernel_rfl, by kernel_rfl⟩
theorem en106 : Enters Try.prog 106 := ⟨Try.f106, Try.func106, by kernel_rfl, by kernel_rfl⟩
theorem en107 : Enters Try.prog 107 := ⟨Try.f107, Try.func107, by kernel_rfl, by kernel_rfl⟩
theorem en108 : Enters Try.prog 108 := ⟨Try.f108, Try.func108, by kernel_rfl, by kernel_rfl⟩
theorem en109 : Enters Try.prog 109 := ⟨Try.f109, Try.func109, by kernel_rfl, by kernel_rfl⟩
theorem en110 : Enters Try.prog 110 := ⟨Try.f110, Try.func110, by kernel_rfl, by kernel_rfl⟩
theorem en111 : Enters Try.prog 111 := ⟨Try.f111, Try.func111, by kernel_rfl, by kernel_rfl⟩
theorem en112 : Enters Try.prog 112 := ⟨Try.f112, Try.func112, by kernel_rfl, by kernel_rfl⟩
theorem en114 : Enters Try.prog 114 := ⟨Try.f114, Try.func114, by kernel_rfl, by kernel_rfl⟩
end Go.SX
