/- Several texts of the proof, one behind the other; put together by a program of the session (mrg.py). Own work. -/
import Derived.Test.YtnldokebmfojeaaProg
import Derived.KernelRfl
import Derived.Lib.Builder
import Derived.Lib.AppendStr
import Derived.Lib.UnsafeStr
import Derived.Lib.Walk
import Derived.WalkKit
import Derived.Laws.Externs
import Derived.Test.YtnldokebmfojeaaPart4
/- The types of this seat's translation, as the engine wants them; short rules. Written by a program of the session (oegen.py). -/
set_option linter.unusedVariables false
namespace Go.Proofs.Ytnldokebmfojeaa
open Go Go.RowKit OE
def tab : List (Nat × TI) := [
  (1, ⟨.other, 1, 8, [.val .nilFunc], .bool⟩),
  (2, ⟨.int .i64, 1, 8, [.int .i64 0], (.int .i64)⟩),
  (3, ⟨.int .i64, 1, 8, [.int .i64 0], (.int .i64)⟩),
  (4, ⟨.bool, 1, 1, [.bool .ff], .bool⟩),
  (5, ⟨.int .u8, 1, 1, [.int .u8 0], (.int .u8)⟩),
  (6, ⟨.int .u8, 1, 1, [.int .u8 0], (.int .u8)⟩),
  (7, ⟨.strct [(0, 1, false), (1, 1, false), (2, 1, false), (3, 1, false)], 4, 24, [.int .i64 0, .int .i64 0, .bool .ff, .int .u8 0], (.pair (.int .i64) (.pair (.int .i64) (.pair .bool (.int .u8))))⟩),
  (8, ⟨.strct [(0, 1, false), (1, 1, false), (2, 1, false), (3, 1, false)], 4, 24, [.int .i64 0, .int .i64 0, .bool .ff, .int .u8 0], (.pair (.int .i64) (.pair (.int .i64) (.pair .bool (.int .u8))))⟩),
  (9, ⟨.str, 1, 16, [.str []], .str⟩),
  (10, ⟨.str, 1, 16, [.str []], .str⟩),
  (11, ⟨.str, 1, 16, [.str []], .str⟩),
  (12, ⟨.int .u64, 1, 8, [.int .u64 0], (.int .u64)⟩),
  (13, ⟨.strct [(0, 1, false), (1, 1, false)], 2, 24, [.str [], .int .u64 0], (.pair .str (.int .u64))⟩),
  (14, ⟨.strct [(0, 1, false), (1, 1, false)], 2, 24, [.str [], .int .u64 0], (.pair .str (.int .u64))⟩),
  (15, ⟨.ptr 158, 1, 8, [.val (.pointer none)], .bool⟩),
  (16, ⟨.ptr 161, 1, 8, [.val (.pointer none)], .bool⟩),
  (17, ⟨.ptr 170, 1, 8, [.val (.pointer none)], .bool⟩),
  (18, ⟨.strct [(0, 1, false)], 1, 8, [.val (.pointer none)], .bool⟩),
  (19, ⟨.strct [(0, 1, false)], 1, 8, [.val (.pointer none)], .bool⟩),
  (20, ⟨.other, 1, 16, [.val .nilIface], .bool⟩),
  (21, ⟨.int .i32, 1, 4, [.int .i32 0], (.int .i32)⟩),
  (22, ⟨.slice 56, 1, 24, [.val (.slice none 0 0)], (.list (.pair (.int .i64) (.pair .str (.list (.pair .str (.pair (.int .i64) (.pair (.int .i64) .str)))))))⟩),
  (23, ⟨.slice 64, 1, 24, [.val (.slice none 0 0)], (.list (.pair (.int .i64) (.pair .str (.pair (.int .i64) (.pair (.int .i64) (.list (.pair .str (.pair (.int .i64) (.pair (.int .i64) .str)))))))))⟩),
  (24, ⟨.slice 2, 1, 24, [.val (.slice none 0 0)], (.list (.int .i64))⟩),
  (25, ⟨.slice 9, 1, 24, [.val (.slice none 0 0)], (.list .str)⟩),
  (26, ⟨.slice 92, 1, 24, [.val (.slice none 0 0)], (.list (.pair (.int .i64) (.pair (.int .i64) (.pair .str (.pair .str (.pair .str (.pair .str (.pair (.int .i64) (.int .i64)))))))))⟩),
  (27, ⟨.slice 94, 1, 24, [.val (.slice none 0 0)], (.list (.pair .str .str))⟩),
  (28, ⟨.strct [(0, 1, false), (1, 1, false), (2, 1, false), (3, 1, false), (4, 1, false)], 5, 104, [.val (.slice none 0 0), .val (.slice none 0 0), .val (.slice none 0 0), .val (.slice none 0 0), .int .i64 0], (.pair (.list .str) (.pair (.list .str) (.pair (.list (.pair (.int .i64) (.pair (.int .i64) (.pair .str (.pair .str (.pair .str (.pair .str (.pair (.int .i64) (.int .i64))))))))) (.pair (.list (.pair .str .str)) (.int .i64)))))⟩),
  (29, ⟨.strct [(0, 1, false), (1, 1, false), (2, 1, false), (3, 1, false), (4, 1, false)], 5, 104, [.val (.slice none 0 0), .val (.slice none 0 0), .val (.slice none 0 0), .val (.slice none 0 0), .int .i64 0], (.pair (.list .str) (.pair (.list .str) (.pair (.list (.pair (.int .i64) (.pair (.int .i64) (.pair .str (.pair .str (.pair .str (.pair .str (.pair (.int .i64) (.int .i64))))))))) (.pair (.list (.pair .str .str)) (.int .i64)))))⟩),
  (30, ⟨.strct [(0, 1, false), (1, 1, false), (2, 1, false), (3, 1, false), (4, 1, false), (5, 1, false), (6, 5, true)], 11, 200, [.int .i64 0, .int .i64 0, .int .i64 0, .val (.slice none 0 0), .val (.slice none 0 0), .val (.slice none 0 0), .val (.slice none 0 0), .val (.slice none 0 0), .val (.slice none 0 0), .val (.slice none 0 0), .int .i64 0], (.pair (.int .i64) (.pair (.int .i64) (.pair (.int .i64) (.pair (.list (.pair (.int .i64) (.pair .str (.list (.pair .str (.pair (.int .i64) (.pair (.int .i64) .str))))))) (.pair (.list (.pair (.int .i64) (.pair .str (.pair (.int .i64) (.pair (.int .i64) (.list (.pair .str (.pair (.int .i64) (.pair (.int .i64) .str))))))))) (.pair (.list (.int .i64)) (.pair (.list .str) (.pair (.list .str) (.pair (.list (.pair (.int .i64) (.pair (.int .i64) (.pair .str (.pair .str (.pair .str (.pair .str (.pair (.int .i64) (.int .i64))))))))) (.pair (.list (.pair .str .str)) (.int .i64)))))))))))⟩),
  (31, ⟨.strct [(0, 1, false), (1, 1, false), (2, 1, false), (3, 1, false), (4, 1, false), (5, 1, false), (6, 5, true)], 11, 200, [.int .i64 0, .int .i64 0, .int .i64 0, .val (.slice none 0 0), .val (.slice none 0 0), .val (.slice none 0 0), .val (.slice none 0 0), .val (.slice none 0 0), .val (.slice none 0 0), .val (.slice none 0 0), .int .i64 0], (.pair (.int .i64) (.pair (.int .i64) (.pair (.int .i64) (.pair (.list (.pair (.int .i64) (.pair .str (.list (.pair .str (.pair (.int .i64) (.pair (.int .i64) .str))))))) (.pair (.list (.pair (.int .i64) (.pair .str (.pair (.int .i64) (.pair (.int .i64) (.list (.pair .str (.pair (.int .i64) (.pair (.int .i64) .str))))))))) (.pair (.list (.int .i64)) (.pair (.list .str) (.pair (.list .str) (.pair (.list (.pair (.int .i64) (.pair (.int .i64) (.pair .str (.pair .str (.pair .str (.pair .str (.pair (.int .i64) (.int .i64))))))))) (.pair (.list (.pair .str .str)) (.int .i64)))))))))))⟩),
  (32, ⟨.other, 1, 8, [.val .nilFunc], .bool⟩),
  (33, ⟨.other, 1, 8, [.val .nilFunc], .bool⟩),
  (34, ⟨.int .i64, 1, 8, [.int .i64 0], (.int .i64)⟩),
  (36, ⟨.other, 1, 8, [.val .nilFunc], .bool⟩),
  (37, ⟨.other, 1, 8, [.val .nilFunc], .bool⟩),
  (39, ⟨.other, 1, 8, [.val .nilFunc], .bool⟩),
  (40, ⟨.other, 1, 8, [.val .nilFunc], .bool⟩),
  (41, ⟨.other, 1, 8, [.val .nilFunc], .bool⟩),
  (42, ⟨.other, 1, 8, [.val .nilFunc], .bool⟩),
  (43, ⟨.other, 1, 8, [.val .nilFunc], .bool⟩),
  (45, ⟨.other, 1, 8, [.val .nilFunc], .bool⟩),
  (46, ⟨.ptr 52, 1, 8, [.val (.pointer none)], .bool⟩),
  (47, ⟨.ptr 50, 1, 8, [.val (.pointer none)], .bool⟩),
  (48, ⟨.slice 5, 1, 24, [.val (.slice none 0 0)], (.list (.int .u8))⟩),
  (49, ⟨.strct [(0, 1, false), (1, 1, false)], 2, 32, [.val (.pointer none), .val (.slice none 0 0)], (.pair .bool (.list (.int .u8)))⟩),
  (50, ⟨.strct [(0, 1, false), (1, 1, false)], 2, 32, [.val (.pointer none), .val (.slice none 0 0)], (.pair .bool (.list (.int .u8)))⟩),
  (51, ⟨.strct [(0, 2, true)], 2, 32, [.val (.pointer none), .val (.slice none 0 0)], (.pair .bool (.list (.int .u8)))⟩),
  (52, ⟨.strct [(0, 2, true)], 2, 32, [.val (.pointer none), .val (.slice none 0 0)], (.pair .bool (.list (.int .u8)))⟩),
  (53, ⟨.other, 1, 8, [.val .nilFunc], .bool⟩),
  (54, ⟨.slice 121, 1, 24, [.val (.slice none 0 0)], (.list (.pair .str (.pair (.int .i64) (.pair (.int .i64) .str))))⟩),
  (55, ⟨.strct [(0, 1, false), (1, 1, false), (2, 1, false)], 3, 48, [.int .i64 0, .str [], .val (.slice none 0 0)], (.pair (.int .i64) (.pair .str (.list (.pair .str (.pair (.int .i64) (.pair (.int .i64) .str))))))⟩),
  (56, ⟨.strct [(0, 1, false), (1, 1, false), (2, 1, false)], 3, 48, [.int .i64 0, .str [], .val (.slice none 0 0)], (.pair (.int .i64) (.pair .str (.list (.pair .str (.pair (.int .i64) (.pair (.int .i64) .str))))))⟩),
  (57, ⟨.other, 1, 16, [.val .nilIface], .bool⟩),
  (58, ⟨.other, 1, 16, [.val .nilIface], .bool⟩),
  (60, ⟨.other, 1, 8, [.val .nilFunc], .bool⟩),
  (61, ⟨.other, 1, 8, [.val .nilFunc], .bool⟩),
  (62, ⟨.other, 1, 8, [.val .nilFunc], .bool⟩),
  (63, ⟨.strct [(0, 1, false), (1, 1, false), (2, 1, false), (3, 1, false), (4, 1, false)], 5, 64, [.int .i64 0, .str [], .int .i64 0, .int .i64 0, .val (.slice none 0 0)], (.pair (.int .i64) (.pair .str (.pair (.int .i64) (.pair (.int .i64) (.list (.pair .str (.pair (.int .i64) (.pair (.int .i64) .str))))))))⟩),
  (64, ⟨.strct [(0, 1, false), (1, 1, false), (2, 1, false), (3, 1, false), (4, 1, false)], 5, 64, [.int .i64 0, .str [], .int .i64 0, .int .i64 0, .val (.slice none 0 0)], (.pair (.int .i64) (.pair .str (.pair (.int .i64) (.pair (.int .i64) (.list (.pair .str (.pair (.int .i64) (.pair (.int .i64) .str))))))))⟩),
  (65, ⟨.other, 1, 8, [.val .nilFunc], .bool⟩),
  (66, ⟨.other, 1, 8, [.val .nilFunc], .bool⟩),
  (67, ⟨.other, 1, 8, [.val .nilFunc], .bool⟩),
  (68, ⟨.other, 1, 8, [.val .nilFunc], .bool⟩),
  (69, ⟨.other, 1, 8, [.val .nilFunc], .bool⟩),
  (70, ⟨.ptr 72, 1, 8, [.val (.pointer none)], .bool⟩),
  (71, ⟨.strct [(0, 1, false), (1, 1, false), (2, 1, false)], 3, 32, [.str [], .int .i64 0, .bool .ff], (.pair .str (.pair (.int .i64) .bool))⟩),
  (72, ⟨.strct [(0, 1, false), (1, 1, false), (2, 1, false)], 3, 32, [.str [], .int .i64 0, .bool .ff], (.pair .str (.pair (.int .i64) .bool))⟩),
  (73, ⟨.other, 1, 8, [.val .nilFunc], .bool⟩),
  (74, ⟨.other, 1, 8, [.val .nilFunc], .bool⟩),
  (75, ⟨.other, 1, 8, [.val .nilFunc], .bool⟩),
  (76, ⟨.other, 1, 8, [.val .nilFunc], .bool⟩),
  (77, ⟨.other, 1, 8, [.val .nilFunc], .bool⟩),
  (78, ⟨.other, 1, 8, [.val .nilFunc], .bool⟩),
  (79, ⟨.other, 1, 8, [.val .nilFunc], .bool⟩),
  (80, ⟨.other, 1, 8, [.val .nilFunc], .bool⟩),
  (82, ⟨.other, 1, 8, [.val .nilFunc], .bool⟩),
  (83, ⟨.other, 1, 8, [.val .nilFunc], .bool⟩),
  (84, ⟨.other, 1, 8, [.val .nilFunc], .bool⟩),
  (85, ⟨.other, 1, 8, [.val .nilFunc], .bool⟩),
  (86, ⟨.other, 1, 8, [.val .nilFunc], .bool⟩),
  (87, ⟨.other, 1, 8, [.val .nilFunc], .bool⟩),
  (88, ⟨.other, 1, 8, [.val .nilFunc], .bool⟩),
  (89, ⟨.other, 1, 8, [.val .nilFunc], .bool⟩),
  (90, ⟨.other, 1, 8, [.val .nilFunc], .bool⟩),
  (91, ⟨.strct [(0, 1, false), (1, 1, false), (2, 1, false), (3, 1, false), (4, 1, false), (5, 1, false), (6, 1, false), (7, 1, false)], 8, 96, [.int .i64 0, .int .i64 0, .str [], .str [], .str [], .str [], .int .i64 0, .int .i64 0], (.pair (.int .i64) (.pair (.int .i64) (.pair .str (.pair .str (.pair .str (.pair .str (.pair (.int .i64) (.int .i64))))))))⟩),
  (92, ⟨.strct [(0, 1, false), (1, 1, false), (2, 1, false), (3, 1, false), (4, 1, false), (5, 1, false), (6, 1, false), (7, 1, false)], 8, 96, [.int .i64 0, .int .i64 0, .str [], .str [], .str [], .str [], .int .i64 0, .int .i64 0], (.pair (.int .i64) (.pair (.int .i64) (.pair .str (.pair .str (.pair .str (.pair .str (.pair (.int .i64) (.int .i64))))))))⟩),
  (93, ⟨.strct [(0, 1, false), (1, 1, false)], 2, 32, [.str [], .str []], (.pair .str .str)⟩),
  (94, ⟨.strct [(0, 1, false), (1, 1, false)], 2, 32, [.str [], .str []], (.pair .str .str)⟩),
  (95, ⟨.int .u64, 1, 8, [.int .u64 0], (.int .u64)⟩),
  (97, ⟨.other, 1, 8, [.val .nilFunc], .bool⟩),
  (98, ⟨.other, 1, 8, [.val .nilFunc], .bool⟩),
  (99, ⟨.other, 1, 8, [.val .nilFunc], .bool⟩),
  (100, ⟨.slice 25, 1, 24, [.val (.slice none 0 0)], (.list (.list .str))⟩),
  (101, ⟨.other, 1, 8, [.val .nilFunc], .bool⟩),
  (102, ⟨.ptr 5, 1, 8, [.val (.pointer none)], .bool⟩),
  (103, ⟨.other, 1, 8, [.val .nilFunc], .bool⟩),
  (105, ⟨.other, 1, 8, [.val .nilFunc], .bool⟩),
  (106, ⟨.ptr 108, 1, 8, [.val (.pointer none)], .bool⟩),
  (107, ⟨.strct [(0, 1, false), (1, 1, false), (2, 1, false)], 3, 32, [.str [], .int .i64 0, .bool .ff], (.pair .str (.pair (.int .i64) .bool))⟩),
  (108, ⟨.strct [(0, 1, false), (1, 1, false), (2, 1, false)], 3, 32, [.str [], .int .i64 0, .bool .ff], (.pair .str (.pair (.int .i64) .bool))⟩),
  (109, ⟨.ptr 25, 1, 8, [.val (.pointer none)], .bool⟩),
  (110, ⟨.slice 109, 1, 24, [.val (.slice none 0 0)], (.list .bool)⟩),
  (111, ⟨.other, 1, 8, [.val .nilFunc], .bool⟩),
  (113, ⟨.other, 1, 8, [.val .nilFunc], .bool⟩),
  (114, ⟨.other, 1, 8, [.val .nilFunc], .bool⟩),
  (115, ⟨.other, 1, 8, [.val .nilFunc], .bool⟩),
  (116, ⟨.other, 1, 8, [.val .nilFunc], .bool⟩),
  (117, ⟨.other, 1, 8, [.val .nilFunc], .bool⟩),
  (118, ⟨.strct [(0, 1, false), (1, 1, false), (2, 1, false)], 3, 32, [.int .i64 0, .int .i64 0, .str []], (.pair (.int .i64) (.pair (.int .i64) .str))⟩),
  (119, ⟨.strct [(0, 1, false), (1, 1, false), (2, 1, false)], 3, 32, [.int .i64 0, .int .i64 0, .str []], (.pair (.int .i64) (.pair (.int .i64) .str))⟩),
  (120, ⟨.strct [(0, 1, false), (1, 3, true)], 4, 48, [.str [], .int .i64 0, .int .i64 0, .str []], (.pair .str (.pair (.int .i64) (.pair (.int .i64) .str)))⟩),
  (121, ⟨.strct [(0, 1, false), (1, 3, true)], 4, 48, [.str [], .int .i64 0, .int .i64 0, .str []], (.pair .str (.pair (.int .i64) (.pair (.int .i64) .str)))⟩),
  (122, ⟨.other, 1, 8, [.val .nilFunc], .bool⟩),
  (123, ⟨.other, 1, 8, [.val .nilFunc], .bool⟩),
  (124, ⟨.other, 1, 8, [.val .nilFunc], .bool⟩),
  (125, ⟨.int .u64, 1, 8, [.int .u64 0], (.int .u64)⟩),
  (127, ⟨.other, 1, 8, [.val .nilFunc], .bool⟩),
  (128, ⟨.other, 1, 8, [.val .nilFunc], .bool⟩),
  (129, ⟨.slice 3, 1, 24, [.val (.slice none 0 0)], (.list (.int .i64))⟩),
  (131, ⟨.other, 1, 8, [.val .nilFunc], .bool⟩),
  (132, ⟨.ptr 3, 1, 8, [.val (.pointer none)], .bool⟩),
  (133, ⟨.slice 132, 1, 24, [.val (.slice none 0 0)], (.list .bool)⟩),
  (134, ⟨.ptr 9, 1, 8, [.val (.pointer none)], .bool⟩),
  (135, ⟨.slice 134, 1, 24, [.val (.slice none 0 0)], (.list .bool)⟩),
  (136, ⟨.other, 1, 8, [.val .nilFunc], .bool⟩),
  (137, ⟨.other, 1, 8, [.val .nilFunc], .bool⟩),
  (139, ⟨.strct [(0, 1, false), (1, 1, false), (2, 1, false)], 3, 32, [.int .i64 0, .int .i64 0, .str []], (.pair (.int .i64) (.pair (.int .i64) .str))⟩),
  (140, ⟨.map 3 137 (.int .i64), 1, 8, [.val (.map none)], .bool⟩),
  (141, ⟨.other, 1, 8, [.val .nilFunc], .bool⟩),
  (142, ⟨.ptr 29, 1, 8, [.val (.pointer none)], .bool⟩),
  (143, ⟨.other, 1, 8, [.val .nilFunc], .bool⟩),
  (144, ⟨.other, 1, 8, [.val .nilFunc], .bool⟩),
  (145, ⟨.other, 1, 8, [.val .nilFunc], .bool⟩),
  (146, ⟨.other, 1, 8, [.val .nilFunc], .bool⟩),
  (147, ⟨.map 92 3 (.pair (.int .i64) (.pair (.int .i64) (.pair .str (.pair .str (.pair .str (.pair .str (.pair (.int .i64) (.int .i64)))))))), 1, 8, [.val (.map none)], .bool⟩),
  (148, ⟨.other, 1, 8, [.val .nilFunc], .bool⟩),
  (149, ⟨.other, 1, 8, [.val .nilFunc], .bool⟩),
  (150, ⟨.other, 1, 8, [.val .nilFunc], .bool⟩),
  (152, ⟨.other, 1, 8, [.val .nilFunc], .bool⟩),
  (153, ⟨.other, 1, 8, [.val .nilFunc], .bool⟩),
  (154, ⟨.other, 1, 8, [.val .nilFunc], .bool⟩),
  (156, ⟨.other, 1, 8, [.val .nilFunc], .bool⟩),
  (157, ⟨.strct [(0, 1, false), (1, 1, false), (2, 1, false), (3, 1, false)], 4, 40, [.val (.pointer none), .val (.pointer none), .val (.pointer none), .str []], (.pair .bool (.pair .bool (.pair .bool .str)))⟩),
  (158, ⟨.strct [(0, 1, false), (1, 1, false), (2, 1, false), (3, 1, false)], 4, 40, [.val (.pointer none), .val (.pointer none), .val (.pointer none), .str []], (.pair .bool (.pair .bool (.pair .bool .str)))⟩),
  (162, ⟨.other, 1, 8, [.val .nilFunc], .bool⟩),
  (163, ⟨.int .u32, 1, 4, [.int .u32 0], (.int .u32)⟩),
  (164, ⟨.int .u8, 1, 1, [.int .u8 0], (.int .u8)⟩),
  (165, ⟨.int .u8, 1, 1, [.int .u8 0], (.int .u8)⟩),
  (166, ⟨.other, 1, 8, [.val .nilFunc], .bool⟩),
  (167, ⟨.int .i32, 1, 4, [.int .i32 0], (.int .i32)⟩),
  (168, ⟨.int .i32, 1, 4, [.int .i32 0], (.int .i32)⟩),
  (169, ⟨.strct [(0, 1, false), (1, 1, false), (2, 1, false), (3, 1, false), (4, 1, false), (5, 1, false), (6, 1, false), (7, 1, false), (8, 1, false), (9, 1, false), (10, 1, false)], 11, 48, [.int .u64 0, .int .u64 0, .int .u32 0, .int .u8 0, .int .u8 0, .int .u8 0, .int .u8 0, .val .nilFunc, .val (.pointer none), .int .i32 0, .int .i32 0], (.pair (.int .u64) (.pair (.int .u64) (.pair (.int .u32) (.pair (.int .u8) (.pair (.int .u8) (.pair (.int .u8) (.pair (.int .u8) (.pair .bool (.pair .bool (.pair (.int .i32) (.int .i32)))))))))))⟩),
  (170, ⟨.strct [(0, 1, false), (1, 1, false), (2, 1, false), (3, 1, false), (4, 1, false), (5, 1, false), (6, 1, false), (7, 1, false), (8, 1, false), (9, 1, false), (10, 1, false)], 11, 48, [.int .u64 0, .int .u64 0, .int .u32 0, .int .u8 0, .int .u8 0, .int .u8 0, .int .u8 0, .val .nilFunc, .val (.pointer none), .int .i32 0, .int .i32 0], (.pair (.int .u64) (.pair (.int .u64) (.pair (.int .u32) (.pair (.int .u8) (.pair (.int .u8) (.pair (.int .u8) (.pair (.int .u8) (.pair .bool (.pair .bool (.pair (.int .i32) (.int .i32)))))))))))⟩)]
theorem tab_ok : TabOk Try.prog (lk tab) := tab_of (by kernel_rfl)
noncomputable def EnI (inl : Nat → Option (FI × Code)) (post : SV → St → Prop) : En := ⟨Try.prog, lk tab, inl, post⟩
def noI : Nat → Option (FI × Code) := fun _ => none
noncomputable def fiOf (f : Func) : FI := ⟨f, f.ntmps, f.results.toList⟩
noncomputable def bodyOf (f : Func) : Code := f.body.getD .skip
/-- the functions that are gone through where they are called -/
class InlOk (inl : Nat → Option (FI × Code)) : Prop where
  out : ∀ post, EnOk (EnI inl post)
instance : InlOk noI := ⟨fun _ => ⟨tab_ok, fun _ _ _ h => by cases h⟩⟩
theorem inl_nil : InlOk (lk []) := ⟨fun _ => ⟨tab_ok, fun _ _ _ h => by cases h⟩⟩
theorem inl_cons {f : Nat} {fn : Func} {c : Code} {l : List (Nat × FI × Code)} (hf : Try.prog.funcs[f]? = some fn) (hb : fn.body = some c) (hn : (fn.name == "runtime.NumGoroutine") = false) (h : InlOk (lk l)) : InlOk (lk ((f, fiOf fn, c) :: l)) := by
  refine ⟨fun post => ⟨tab_ok, fun g fi c' hg => ?_⟩⟩
  have hg : lk ((f, fiOf fn, c) :: l) g = some (fi, c') := hg
  simp only [lk] at hg
  by_cases e : g = f
  · rw [if_pos e] at hg
    simp only [Option.some.injEq, Prod.mk.injEq] at hg
    obtain ⟨rfl, rfl⟩ := hg
    subst e
    exact ⟨hf, hb, hn, rfl, rfl⟩
  · rw [if_neg e] at hg
    exact (h.out post).inl g fi c' hg
theorem mixed : Try.prog.follows .mixedOrders = true := by kernel_rfl
theorem fnI (inl : Nat → Option (FI × Code)) [hI : InlOk inl] {f : Nat} {fn : Func} {c : Code} {args : List SV} {post : SV → Prop} (hf : Try.prog.funcs[f]? = some fn) (hb : fn.body = some c) (hn : (fn.name == "runtime.NumGoroutine") = false)
    (hl : Nat.ble args.length fn.ntmps = true) (h : fcN (fun fr => go (EnI inl (Post post)) 100000 (fiOf fn) [.code c] ⟨fr, [], 0⟩ []) (num args 0)) : FnD Try.prog f args post :=
  fn_of (E := EnI inl (Post post)) (fi := fiOf fn) hf hb hn rfl rfl (Nat.le_of_ble_eq_true hl) rfl (go_sound (hI.out (Post post)) _ _ _ _ _ (by rw [fcN_eq] at h; exact h))
theorem fn0 {f : Nat} {fn : Func} {c : Code} {args : List SV} {post : SV → Prop} (hf : Try.prog.funcs[f]? = some fn) (hb : fn.body = some c) (hn : (fn.name == "runtime.NumGoroutine") = false)
    (hl : Nat.ble args.length fn.ntmps = true) (h : fcN (fun fr => go (EnI noI (Post post)) 100000 (fiOf fn) [.code c] ⟨fr, [], 0⟩ []) (num args 0)) : FnD Try.prog f args post := fnI noI hf hb hn hl h
theorem fnO (inl : Nat → Option (FI × Code)) [hI : InlOk inl] {f : Nat} {fn : Func} {c : Code} {args : List SV} {s : SV} {hp : List (Nat × Ob)} {n : Nat} (hf : Try.prog.funcs[f]? = some fn) (hb : fn.body = some c) (hn : (fn.name == "runtime.NumGoroutine") = false)
    (hl : Nat.ble args.length fn.ntmps = true) (h : fcN (fun fr => go (EnI inl (PostO s hp n)) 100000 (fiOf fn) [.code c] ⟨fr, [], 0⟩ []) (num args 0)) : FnO Try.prog f args s hp n :=
  fno_of (E := EnI inl (PostO s hp n)) (fi := fiOf fn) hf hb hn rfl rfl (Nat.le_of_ble_eq_true hl) rfl (go_sound (hI.out _) _ _ _ _ _ (by rw [fcN_eq] at h; exact h))
theorem fnH (inl : Nat → Option (FI × Code)) [hI : InlOk inl] {f : Nat} {fn : Func} {c : Code} {args : List SV} {T : TypeId} {l l2 : List C} {s : SV} (hf : Try.prog.funcs[f]? = some fn) (hb : fn.body = some c) (hn : (fn.name == "runtime.NumGoroutine") = false)
    (hl : Nat.ble args.length fn.ntmps = true) (h : fcN (fun fr => go (EnI inl (fun _ _ => False)) 100000 (fiOf fn) [.code c] ⟨fr, [(0, .cells T l)], 1⟩ [frmH (fiOf fn) (PostH T s l2)]) (num args 0)) : FnH Try.prog f args T l s l2 :=
  fnh_of (E := EnI inl (fun _ _ => False)) (fi := fiOf fn) hf hb hn rfl rfl (Nat.le_of_ble_eq_true hl) (go_sound (hI.out _) _ _ _ _ _ (by rw [fcN_eq] at h; exact h))
theorem fnM (inl : Nat → Option (FI × Code)) [hI : InlOk inl] {f : Nat} {fn : Func} {c : Code} {args : List SV} {T : TypeId} {d : D} {xs : List d.T} {s : SV} (hf : Try.prog.funcs[f]? = some fn) (hb : fn.body = some c) (hn : (fn.name == "runtime.NumGoroutine") = false)
    (hl : Nat.ble args.length fn.ntmps = true) (h : fcN (fun fr => go (EnI inl (Post (· = s))) 100000 (fiOf fn) [.code c] ⟨fr, [(0, .row T d xs)], 1⟩ []) (num args 0)) : FnM Try.prog f args T d xs s :=
  fnm_of (E := EnI inl (Post (· = s))) (fi := fiOf fn) hf hb hn rfl rfl (Nat.le_of_ble_eq_true hl) rfl (go_sound (hI.out _) _ _ _ _ _ (by rw [fcN_eq] at h; exact h))
theorem fnM2 (inl : Nat → Option (FI × Code)) [hI : InlOk inl] {f : Nat} {fn : Func} {c : Code} {args : List SV} {T : TypeId} {d : D} {xs : List d.T} {T2 : TypeId} {d2 : D} {ys : List d2.T} {s : SV} (hf : Try.prog.funcs[f]? = some fn) (hb : fn.body = some c) (hn : (fn.name == "runtime.NumGoroutine") = false)
    (hl : Nat.ble args.length fn.ntmps = true) (h : fcN (fun fr => go (EnI inl (Post (· = s))) 100000 (fiOf fn) [.code c] ⟨fr, [(0, .row T d xs), (1, .row T2 d2 ys)], 2⟩ []) (num args 0)) : FnM2 Try.prog f args T d xs T2 d2 ys s :=
  fnm2_of (E := EnI inl (Post (· = s))) (fi := fiOf fn) hf hb hn rfl rfl (Nat.le_of_ble_eq_true hl) rfl (go_sound (hI.out _) _ _ _ _ _ (by rw [fcN_eq] at h; exact h))
theorem fnP (inl : Nat → Option (FI × Code)) [hI : InlOk inl] {f : Nat} {fn : Func} {c : Code} {args : List SV} {hpI hpO : List (Nat × Ob)} {n n2 : Nat} {kp : List (Nat × Bool)} {s : SV} (hf : Try.prog.funcs[f]? = some fn) (hb : fn.body = some c) (hn : (fn.name == "runtime.NumGoroutine") = false)
    (hl : Nat.ble args.length fn.ntmps = true) (hk : (kpOk hpI kp && kpOk hpO kp) = true) (h : fcN (fun fr => fcN (fun fr0 => go (EnI inl (fun _ _ => False)) 100000 (fiOf fn) [.code c] ⟨fr, hpI, n⟩ [⟨⟨fn, kp.length + 1, fn.results.toList⟩, fr0, [.fin (PostP kp s hpO n2)], some 0⟩]) (num (.un :: kp.map slP) 0)) (num args 0)) : FnP Try.prog f args hpI n kp s hpO n2 :=
  fnp_of (E := EnI inl (fun _ _ => False)) (fi := fiOf fn) hf hb hn rfl rfl (Nat.le_of_ble_eq_true hl) (by simp only [Bool.and_eq_true] at hk; exact hk.1) (by simp only [Bool.and_eq_true] at hk; exact hk.2) (go_sound (hI.out _) _ _ _ _ _ (by rw [fcN_eq, fcN_eq] at h; exact h))
section
variable {inl : Nat → Option (FI × Code)} [hI : InlOk inl]
theorem go0 {post : SV → St → Prop} {cur : FI} {t : List It} {st : St} {stk : List Fm} (h : go (EnI inl post) 100000 cur t st stk) : Mean (EnI inl post) cur t st stk := go_sound (hI.out post) _ _ _ _ _ h
theorem call0 {post : SV → St → Prop} {pf : SV → Prop} {cur : FI} {f : Nat} {args : List SV} {all : Array Oper} {o : Oper} {l : List Oper} {r : List It} {fr : List (Nat × SV)} {hp : List (Nat × Ob)} {nx : Nat} {stk : List Fm} (hF : FnD Try.prog f args pf) (hd : args.all isDs = true)
    (hk : ∀ s, pf s → fcF (fun fr' => go (EnI inl post) 100000 cur (.ops all l :: r) ⟨fr', hp, nx⟩ stk) (putF cur.nt fr o.dst s)) : CallOk (EnI inl post) cur f args all o l r ⟨fr, hp, nx⟩ stk :=
  call_rule (E := EnI inl post) hF hd fun s hs => go0 (by have := hk s hs; rw [fcF_eq] at this; exact this)
theorem call1 {post : SV → St → Prop} {cur : FI} {f : Nat} {args : List SV} {s : SV} {all : Array Oper} {o : Oper} {l : List Oper} {r : List It} {fr : List (Nat × SV)} {hp : List (Nat × Ob)} {nx : Nat} {stk : List Fm} (hF : FnD Try.prog f args (· = s)) (hd : args.all isDs = true)
    (hk : fcF (fun fr' => go (EnI inl post) 100000 cur (.ops all l :: r) ⟨fr', hp, nx⟩ stk) (putF cur.nt fr o.dst s)) : CallOk (EnI inl post) cur f args all o l r ⟨fr, hp, nx⟩ stk :=
  call0 hF hd fun s' hs => by subst hs; exact hk
/-- what comes out is memory of its own -/
theorem callo0 {post : SV → St → Prop} {cur : FI} {f : Nat} {args : List SV} {s : SV} {ho : List (Nat × Ob)} {n : Nat} {all : Array Oper} {o : Oper} {l : List Oper} {r : List It} {fr : List (Nat × SV)} {hp : List (Nat × Ob)} {nx : Nat} {stk : List Fm} (hF : FnO Try.prog f args s ho n) (hd : args.all isDs = true)
    (hk : fcS (fun s => fcH (fun hp' => fcF (fun fr' => go (EnI inl post) 100000 cur (.ops all l :: r) ⟨fr', hp', n + nx⟩ stk) (putF cur.nt fr o.dst s)) (shH nx hp ho)) (shS nx s)) : CallOk (EnI inl post) cur f args all o l r ⟨fr, hp, nx⟩ stk :=
  callo_rule (E := EnI inl post) hF hd (go0 (by rw [fcS_eq, fcH_eq, fcF_eq] at hk; exact hk))
theorem callro0 {post : SV → St → Prop} {cur : FI} {f : Nat} {args : List SV} {all : Array Oper} {o : Oper} {l : List Oper} {r : List It} {stk : List Fm} {n0 j : Nat} {recs : List Rec} {fin fr : List (Nat × SV)} {hin hp : List (Nat × Ob)} {T : TypeId} {d : D} {xs : List d.T}
    (hF : FnO Try.prog f args (.c (.row 0)) [(0, .row T d xs)] 1) (hd : args.all isDs = true) (hk : putR all j cur.nt o fin hin [(n0 + j, some (.row T d xs))] fr hp (fun rc => goR (EnI inl post) cur all r stk n0 1000 (j + 1) l (recs ++ [rc])) (.c (.row (n0 + j)))) :
    CallR (EnI inl post) cur f args all o l r stk n0 j recs fin hin fr hp := callro_rule (E := EnI inl post) (hI.out post) hF hd hk
/-- one own row that goes into a call is data from there on -/
theorem callrf0 {post : SV → St → Prop} {cur : FI} {f : Nat} {args : List SV} {all : Array Oper} {o : Oper} {l : List Oper} {r : List It} {stk : List Fm} {n0 j : Nat} {recs : List Rec} {fin fr : List (Nat × SV)} {hin hp : List (Nat × Ob)} {s : SV} (b : Nat) {T : TypeId} {d : D} {xs : List d.T} (hb : lk hin b = some (.row T d xs))
    (hF : FnD Try.prog f (args.map (fzS b d xs)) (· = s)) (hd : (args.map (fzS b d xs)).all isDs = true) (hk : putR all j cur.nt o fin hin [(b, none)] fr hp (fun rc => goR (EnI inl post) cur all r stk n0 1000 (j + 1) l (recs ++ [rc])) s) :
    CallR (EnI inl post) cur f args all o l r stk n0 j recs fin hin fr hp := callrf_rule (E := EnI inl post) b (hI.out post) hb hF hd hk
/-- an own row is given to a call; data come out -/
theorem callm0 {post : SV → St → Prop} {cur : FI} {f : Nat} {args : List SV} {all : Array Oper} {o : Oper} {l : List Oper} {r : List It} {fr : List (Nat × SV)} {hp : List (Nat × Ob)} {nx : Nat} {stk : List Fm} {s : SV} (b : Nat) {T : TypeId} {d : D} {xs : List d.T} (hb : lk hp b = some (.row T d xs))
    (hF : FnM Try.prog f (args.map (hmS b)) T d xs s) (hd : (args.map (hmS b)).all okM = true) (hs : isDs s = true)
    (hk : fcH (fun hp' => fcF (fun fr' => go (EnI inl post) 100000 cur (.ops all l :: r) ⟨fr', hp', nx⟩ stk) (putF cur.nt fr o.dst s)) (rm hp b)) : CallOk (EnI inl post) cur f args all o l r ⟨fr, hp, nx⟩ stk :=
  callm_rule (E := EnI inl post) b hb hF hd hs (go0 (by rw [fcH_eq, fcF_eq] at hk; exact hk))
/-- objects are handed to a call by a pointer, with the rows that they hold -/
theorem callp0 {post : SV → St → Prop} {cur : FI} {f : Nat} {args : List SV} {all : Array Oper} {o : Oper} {l : List Oper} {r : List It} {fr : List (Nat × SV)} {hp : List (Nat × Ob)} {nx : Nat} {stk : List Fm} (bs : List Nat) {kp : List (Nat × Bool)} {s : SV} {hpO : List (Nat × Ob)} {n2 : Nat}
    (hg : gdP (memP bs) hp bs = true) (hn : ndP bs = true) (hF : FnP Try.prog f (args.map (rnS (ixP bs))) (inP (ixP bs) hp 0 bs) bs.length kp s hpO n2) (ha : args.all (gkS (memP bs) (fun _ => true)) = true) (hn2 : Nat.ble bs.length n2 = true)
    (hkn : (kp.all fun p => Nat.blt p.1 bs.length) = true) (ho : outP (okP bs.length n2 kp) (okR bs.length kp) hpO = true) (hos : gkS (okP bs.length n2 kp) (okR bs.length kp) s = true)
    (hk : fcS (fun s => fcH (fun hp' => fcF (fun fr' => go (EnI inl post) 100000 cur (.ops all l :: r) ⟨fr', hp', nx + (n2 - bs.length)⟩ stk) (putF cur.nt fr o.dst s)) (apC hp (chP (exP nx bs) hpO 0 n2))) (rnS (exP nx bs) s)) : CallOk (EnI inl post) cur f args all o l r ⟨fr, hp, nx⟩ stk :=
  callp_rule (E := EnI inl post) bs hg hn hF ha hn2 hkn ho hos (go0 (by rw [fcS_eq, fcH_eq, fcF_eq] at hk; exact hk))
theorem callrp0 {post : SV → St → Prop} {cur : FI} {f : Nat} {args : List SV} {all : Array Oper} {o : Oper} {l : List Oper} {r : List It} {stk : List Fm} {n0 j : Nat} {recs : List Rec} {fin fr : List (Nat × SV)} {hin0 hin hp : List (Nat × Ob)} (bs : List Nat) {kp : List (Nat × Bool)} {s : SV} {hpO : List (Nat × Ob)} {n2 : Nat}
    (hh : hin = kh hp bs) (hg : gdP (memP bs) hin bs = true) (hn : ndP bs = true) (hF : FnP Try.prog f (args.map (rnS (ixP bs))) (inP (ixP bs) hin 0 bs) bs.length kp s hpO n2) (ha : args.all (gkS (memP bs) (fun _ => true)) = true) (hn2 : Nat.ble bs.length n2 = true) (hn3 : Nat.ble n2 (bs.length + 1) = true)
    (hkn : (kp.all fun p => Nat.blt p.1 bs.length) = true) (ho : outP (okP bs.length n2 kp) (okR bs.length kp) hpO = true) (hos : gkS (okP bs.length n2 kp) (okR bs.length kp) s = true)
    (un : List Nat) (hun : (un.map fun i => lk hin (exP (n0 + j) bs i)) = un.map fun i => (lk hpO i).map (rnO (exP (n0 + j) bs))) (hus : (un.all fun i => (lk hin (exP (n0 + j) bs i)).isSome) = true)
    (hk : fcH (fun hin => fcS (fun s => putR all j cur.nt o fin hin (chU un (exP (n0 + j) bs) hpO 0 n2) fr hp (fun rc => goR (EnI inl post) cur all r stk n0 1000 (j + 1) l (recs ++ [rc])) s) (rnS (exP (n0 + j) bs) s)) hin) : CallR (EnI inl post) cur f args all o l r stk n0 j recs fin hin0 fr hp :=
  callrp_rule (E := EnI inl post) bs (hI.out post) hh hg hn hF ha hn2 hn3 hkn ho hos un hun hus (by rw [fcH_eq, fcS_eq] at hk; exact hk)
/-- an object is handed to a call by a pointer -/
theorem callh0 {post : SV → St → Prop} {cur : FI} {f : Nat} {args : List SV} {all : Array Oper} {o : Oper} {l : List Oper} {r : List It} {fr : List (Nat × SV)} {hp : List (Nat × Ob)} {nx : Nat} {stk : List Fm} {s : SV} (b : Nat) {T : TypeId} {m m2 : List C} (hb : lk hp b = some (.cells T m))
    (hF : FnH Try.prog f (args.map (hnS b)) T m s m2) (hm : m.all isDC = true) (hd : (args.map (hnS b)).all okH = true) (hm2 : m2.all isDC = true) (hs : isDs s = true)
    (hk : fcH (fun hp' => fcF (fun fr' => go (EnI inl post) 100000 cur (.ops all l :: r) ⟨fr', hp', nx⟩ stk) (putF cur.nt fr o.dst s)) ((b, .cells T m2) :: rm hp b)) : CallOk (EnI inl post) cur f args all o l r ⟨fr, hp, nx⟩ stk :=
  callh_rule (E := EnI inl post) b hb hm hF hd hm2 hs (go0 (by rw [fcH_eq, fcF_eq] at hk; exact hk))
theorem callrh0 {post : SV → St → Prop} {cur : FI} {f : Nat} {args : List SV} {all : Array Oper} {o : Oper} {l : List Oper} {r : List It} {stk : List Fm} {n0 j : Nat} {recs : List Rec} {fin fr : List (Nat × SV)} {hin hp : List (Nat × Ob)} {s : SV} (b : Nat) {T : TypeId} {m m2 : List C} (hb : lk hin b = some (.cells T m))
    (hF : FnH Try.prog f (args.map (hnS b)) T m s m2) (hm : m.all isDC = true) (hd : (args.map (hnS b)).all okH = true) (hm2 : m2.all isDC = true) (hsd : isDs s = true) (hk : putR all j cur.nt o fin hin [(b, some (.cells T m2))] fr hp (fun rc => goR (EnI inl post) cur all r stk n0 1000 (j + 1) l (recs ++ [rc])) s) : CallR (EnI inl post) cur f args all o l r stk n0 j recs fin hin fr hp :=
  callrh_rule (E := EnI inl post) b (hI.out post) hb hm hF hd hm2 hsd hk
/-- an own row is given to a call -/
theorem callrm0 {post : SV → St → Prop} {cur : FI} {f : Nat} {args : List SV} {all : Array Oper} {o : Oper} {l : List Oper} {r : List It} {stk : List Fm} {n0 j : Nat} {recs : List Rec} {fin fr : List (Nat × SV)} {hin hp : List (Nat × Ob)} {s : SV} (b : Nat) {T : TypeId} {d : D} {xs : List d.T} (hb : lk hin b = some (.row T d xs))
    (hF : FnM Try.prog f (args.map (hmS b)) T d xs s) (hd : (args.map (hmS b)).all okM = true) (hsd : isDs s = true) (hk : putR all j cur.nt o fin hin [(b, none)] fr hp (fun rc => goR (EnI inl post) cur all r stk n0 1000 (j + 1) l (recs ++ [rc])) s) : CallR (EnI inl post) cur f args all o l r stk n0 j recs fin hin fr hp :=
  callrm_rule (E := EnI inl post) b (hI.out post) hb hF hd hsd hk
theorem callrmf0 {post : SV → St → Prop} {cur : FI} {f : Nat} {args : List SV} {all : Array Oper} {o : Oper} {l : List Oper} {r : List It} {stk : List Fm} {n0 j : Nat} {recs : List Rec} {fin fr : List (Nat × SV)} {hin hp : List (Nat × Ob)} {s : SV} (b b2 : Nat) {T T2 : TypeId} {d d2 : D} {xs : List d.T} {ys : List d2.T} (hb : lk hin b = some (.row T d xs)) (hb2 : lk hin b2 = some (.row T2 d2 ys)) (hne : Nat.beq b b2 = false)
    (hF : FnM Try.prog f ((args.map (fzS b2 d2 ys)).map (hmS b)) T d xs s) (hd : ((args.map (fzS b2 d2 ys)).map (hmS b)).all okM = true) (hsd : isDs s = true) (hk : putR all j cur.nt o fin hin [(b2, none), (b, none)] fr hp (fun rc => goR (EnI inl post) cur all r stk n0 1000 (j + 1) l (recs ++ [rc])) s) : CallR (EnI inl post) cur f args all o l r stk n0 j recs fin hin fr hp :=
  callrmf_rule (E := EnI inl post) b b2 (hI.out post) hb hb2 hne hF hd hsd hk
theorem callrm20 {post : SV → St → Prop} {cur : FI} {f : Nat} {args : List SV} {all : Array Oper} {o : Oper} {l : List Oper} {r : List It} {stk : List Fm} {n0 j : Nat} {recs : List Rec} {fin fr : List (Nat × SV)} {hin hp : List (Nat × Ob)} {s : SV} (b b2 : Nat) {T T2 : TypeId} {d d2 : D} {xs : List d.T} {ys : List d2.T} (hb : lk hin b = some (.row T d xs)) (hb2 : lk hin b2 = some (.row T2 d2 ys)) (hne : Nat.beq b b2 = false)
    (hF : FnM2 Try.prog f (args.map (hnS2 b b2)) T d xs T2 d2 ys s) (hd : (args.map (hnS2 b b2)).all okM2 = true) (hsd : isDs s = true) (hk : putR all j cur.nt o fin hin [(b2, none), (b, none)] fr hp (fun rc => goR (EnI inl post) cur all r stk n0 1000 (j + 1) l (recs ++ [rc])) s) : CallR (EnI inl post) cur f args all o l r stk n0 j recs fin hin fr hp :=
  callrm2_rule (E := EnI inl post) b b2 (hI.out post) hb hb2 hne hF hd hsd hk
/-- '==' between two structs of plain data, in a region that draws its order -/
theorem eqr0 {post : SV → St → Prop} {cur : FI} {all : Array Oper} {o : Oper} {l : List Oper} {r : List It} {stk : List Fm} {n0 j : Nat} {recs : List Rec} {fin fr : List (Nat × SV)} {hin hp : List (Nat × Ob)} {t rt : TypeId} {x y : Operand} (d : D) {p q : d.T} (n : Nat)
    (ho : o.op = .binOp .eql t x y rt) (hB : eqtB Try.prog n t d = true) (hn : Nat.ble n 10000 = true) (hg : Try.prog.eqGuardType Try.prog.depth t = false) (hpr : isPr d = true) (hx : psS d (ev fin x) = some p) (hy : psS d (ev fin y) = some q)
    (hk : putR all j cur.nt o fin hin [] fr hp (fun rc => goR (EnI inl post) cur all r stk n0 1000 (j + 1) l (recs ++ [rc])) (.c (.bool (.sym (d.eqb p q))))) : StopR (EnI inl post) cur all o l r stk n0 j recs fin hin fr hp :=
  eqr_rule (E := EnI inl post) (hI.out post) d ho hB hn hg hpr hx hy hk
/-- a list is told equal to nil -/
theorem nilq0 {post : SV → St → Prop} {cur : FI} {all : Array Oper} {o : Oper} {l : List Oper} {r : List It} {fr : List (Nat × SV)} {hp : List (Nat × Ob)} {nx : Nat} {stk : List Fm} {op : BinOp} {t rt e : TypeId} {x y : Operand} {i : TI} {d : D} {xs : List d.T} {nq : Bool}
    (ho : o.op = .binOp op t x y rt) (hop : isNeq op = some nq) (hi : lk tab t = some i) (hk : i.tk = .slice e) (hx : ev fr x = .c (.dat d xs)) (hy : ev fr y = .c (.val (.slice none 0 0)))
    (h1 : xs = [] → fcF (fun fr' => go (EnI inl post) 100000 cur (.ops all l :: r) ⟨fr', hp, nx⟩ stk) (putF cur.nt fr o.dst (.c (.bool (ofW (!nq)))))) (h2 : fcF (fun fr' => go (EnI inl post) 100000 cur (.ops all l :: r) ⟨fr', hp, nx⟩ stk) (putF cur.nt fr o.dst (.c (.bool (ofW nq))))) : StuckOk (EnI inl post) cur all o l r ⟨fr, hp, nx⟩ stk :=
  nilq_rule (E := EnI inl post) (hI.out post) (xs = []) ho hop hi hk hx hy (.inl ⟨d, xs, rfl, rfl⟩) (fun h => go0 (by have := h1 h; rw [fcF_eq] at this; exact this)) (go0 (by rw [fcF_eq] at h2; exact h2))
theorem nilr0 {post : SV → St → Prop} {cur : FI} {all : Array Oper} {o : Oper} {l : List Oper} {r : List It} {fr : List (Nat × SV)} {hp : List (Nat × Ob)} {nx : Nat} {stk : List Fm} {op : BinOp} {t rt e : TypeId} {x y : Operand} {i : TI} {b : Nat} {T : TypeId} {d : D} {xs : List d.T} {nq : Bool}
    (ho : o.op = .binOp op t x y rt) (hop : isNeq op = some nq) (hi : lk tab t = some i) (hk : i.tk = .slice e) (hx : ev fr x = .c (.row b)) (hb : lk hp b = some (.row T d xs)) (hy : ev fr y = .c (.val (.slice none 0 0)))
    (h1 : xs = [] → fcF (fun fr' => go (EnI inl post) 100000 cur (.ops all l :: r) ⟨fr', hp, nx⟩ stk) (putF cur.nt fr o.dst (.c (.bool (ofW (!nq)))))) (h2 : fcF (fun fr' => go (EnI inl post) 100000 cur (.ops all l :: r) ⟨fr', hp, nx⟩ stk) (putF cur.nt fr o.dst (.c (.bool (ofW nq))))) : StuckOk (EnI inl post) cur all o l r ⟨fr, hp, nx⟩ stk :=
  nilq_rule (E := EnI inl post) (hI.out post) (xs = []) ho hop hi hk hx hy (.inr ⟨b, T, d, xs, rfl, hb, rfl⟩) (fun h => go0 (by have := h1 h; rw [fcF_eq] at this; exact this)) (go0 (by rw [fcF_eq] at h2; exact h2))
theorem loop0 {post : SV → St → Prop} {cur : FI} {c : Code} {r : List It} {st : St} {stk : List Fm} {α : Type} (I : α → Prop) (σ : α → St) (μ : α → Nat) (h0 : ∃ x, I x ∧ sub (σ x) st stk)
    (round : ∀ x, I x → go (EnI inl post) 100000 cur (.code c :: .fin (fun st' => ∃ y, (I y ∧ μ y < μ x) ∧ sub (σ y) st' stk) :: r) (σ x) stk) : LoopOk (EnI inl post) cur c r st stk :=
  loop_rule (E := EnI inl post) I σ μ h0 fun x hx => go0 (round x hx)
theorem draw0 {post : SV → St → Prop} {cur : FI} {id : Nat} {all : Array Oper} {r : List It} {st : St} {stk : List Fm} (hB : Region.lexB .any all = true) (h : goQ (EnI inl post) cur all r stk all.toList st) :
    DrawOk (EnI inl post) cur id all r st stk := draw_rule (E := EnI inl post) (hI.out post) mixed hB h
theorem callq0 {post : SV → St → Prop} {cur : FI} {f : Nat} {args : List SV} {all : Array Oper} {o : Oper} {l : List Oper} {r : List It} {fr : List (Nat × SV)} {hp : List (Nat × Ob)} {nx : Nat} {stk : List Fm} {s : SV} {u : Value} (hF : FnD Try.prog f args (· = s)) (hd : args.all isDs = true)
    (hu : vS s = some u) (hk : fcF (fun fr' => goQ (EnI inl post) cur all r stk l ⟨fr', hp, nx⟩) (putF cur.nt fr o.dst s)) : CallQ (EnI inl post) cur f args all o l r ⟨fr, hp, nx⟩ stk :=
  callq_rule (E := EnI inl post) hF hd hu (goQ_sound (hI.out post) (by rw [fcF_eq] at hk; exact hk))
theorem any0 {post : SV → St → Prop} {cur : FI} {id : Nat} {all : Array Oper} {r : List It} {fr : List (Nat × SV)} {hp : List (Nat × Ob)} {nx : Nat} {stk : List Fm} (h : goR (EnI inl post) cur all r stk nx 1000 0 all.toList [] fr hp) :
    DrawOk (EnI inl post) cur id all r ⟨fr, hp, nx⟩ stk := any_rule (E := EnI inl post) (hI.out post) mixed h
theorem callr0 {post : SV → St → Prop} {cur : FI} {f : Nat} {args : List SV} {all : Array Oper} {o : Oper} {l : List Oper} {r : List It} {stk : List Fm} {n0 j : Nat} {recs : List Rec} {fin fr : List (Nat × SV)} {hin hp : List (Nat × Ob)} {s : SV}
    (hF : FnD Try.prog f args (· = s)) (hd : args.all isDs = true) (hk : putR all j cur.nt o fin hin [] fr hp (fun rc => goR (EnI inl post) cur all r stk n0 1000 (j + 1) l (recs ++ [rc])) s) :
    CallR (EnI inl post) cur f args all o l r stk n0 j recs fin hin fr hp := callr_rule (E := EnI inl post) (hI.out post) hF hd hk
omit hI in
theorem callg0 {post : SV → St → Prop} {C : Prop} {f : Nat} {args : List SV} {s : SV} {K : SV → Prop} (hF : C → FnD Try.prog f args (· = s)) (hd : args.all isDs = true) (hk : K s) : CallG (EnI inl post) C f args K := callg_rule (E := EnI inl post) hF hd hk
theorem lendr0 {post : SV → St → Prop} {cur : FI} {f : Nat} {args : List SV} {all : Array Oper} {o : Oper} {l : List Oper} {r : List It} {stk : List Fm} {n0 j : Nat} {recs : List Rec} {fin fr : List (Nat × SV)} {hin hp : List (Nat × Ob)} {s : SV}
    (hF : FnD Try.prog f (args.map (ldS hin)) (· = s)) (hd : (args.map (ldS hin)).all isDs = true) (hsc : scS s = true) (hk : putR all j cur.nt o fin hin [] fr hp (fun rc => goR (EnI inl post) cur all r stk n0 1000 (j + 1) l (recs ++ [rc])) s) :
    CallR (EnI inl post) cur f args all o l r stk n0 j recs fin hin fr hp := lendr_rule (E := EnI inl post) (hI.out post) hF hd hsc hk
theorem lend0 {post : SV → St → Prop} {cur : FI} {f : Nat} {args : List SV} {s : SV} {all : Array Oper} {o : Oper} {l : List Oper} {r : List It} {fr : List (Nat × SV)} {hp : List (Nat × Ob)} {nx : Nat} {stk : List Fm} (hF : FnD Try.prog f (args.map (ldS hp)) (· = s)) (hd : (args.map (ldS hp)).all isDs = true) (hsc : scS s = true)
    (hk : fcF (fun fr' => go (EnI inl post) 100000 cur (.ops all l :: r) ⟨fr', hp, nx⟩ stk) (putF cur.nt fr o.dst s)) : CallOk (EnI inl post) cur f args all o l r ⟨fr, hp, nx⟩ stk :=
  lend_rule (E := EnI inl post) hF hd (fun s' hs => by subst hs; exact hsc) fun s' hs => go0 (by subst hs; rw [fcF_eq] at hk; exact hk)
theorem x0 {post : SV → St → Prop} {cur : FI} {all : Array Oper} {recs : List Rec} (i j : Nat) {oi : Oper} {fin : List (Nat × SV)} {hin : List (Nat × Ob)} {v : SV} {rj : Rec} {c : Nat} {ob : Ob} {q : Q} (hij : Nat.blt i j = true)
    (hc : chkFrom cur.nt (some (i, j)) 0 [] all.toList recs = true) (ho : all.toList[i]? = some oi) (hi : recs[i]? = some ⟨fin, hin, v, []⟩) (hj : recs[j]? = some rj) (hch : rj.ch = [(c, some ob)]) (hg : oi.guard = none)
    (hq : qm (lk tab) (altH hin c ob) (ev fin) oi.op = some q) (hp : OP q.pre) (hv : q.v = v) : Chk (EnI inl post) cur all recs := x_rule (E := EnI inl post) (hI.out post) i j hij hc ho hi hj hch hg hq hp hv
theorem unroll0 {post : SV → St → Prop} {cur : FI} {c : Code} {r : List It} {st : St} {stk : List Fm} (n : Nat) (h : RoundsG (EnI inl post) cur c r stk n st) : LoopOk (EnI inl post) cur c r st stk := unroll_rule (E := EnI inl post) (hI.out post) n h
omit hI in
theorem callgp0 {post : SV → St → Prop} {C : Prop} {f : Nat} {args : List SV} {pf : SV → Prop} {K : SV → Prop} (hF : C → FnD Try.prog f args pf) (hd : args.all isDs = true) (hs : ∃ s, pf s) (hk : ∀ s, pf s → K s) : CallG (EnI inl post) C f args K := callgp_rule (E := EnI inl post) hF hd hs hk
omit hI in
theorem callrg0 {post : SV → St → Prop} {C : Prop} {f : Nat} {args : List SV} {s : SV} {K : SV → Prop} (hF : C → FnD Try.prog f args (· = s)) (hd : args.all isDs = true) (hk : K s) : CallRG (EnI inl post) C f args K := callrg_rule (E := EnI inl post) hF hd hk
section
variable {post : SV → St → Prop} {cur : FI} {all : Array Oper} {o : Oper} {l : List Oper} {r : List It} {fr : List (Nat × SV)} {hp : List (Nat × Ob)} {nx : Nat} {stk : List Fm}
theorem fz0 (b : Nat) {T : TypeId} {d : D} {xs : List d.T} {t : List It} (hb : lk hp b = some (.row T d xs)) (h : fcH (fun hp' => fcN (fun fr' => go (EnI inl post) 100000 cur t ⟨fr', hp', nx⟩ stk) (fzF b d xs fr)) (fzH b d xs (rm hp b))) : Mean (EnI inl post) cur t ⟨fr, hp, nx⟩ stk :=
  freeze_rule hb (go0 (by rw [fcH_eq, fcN_eq] at h; exact h))
/-- an own row is data from here on: at a call, at a stop, at a loop, at a draw -/
theorem fzc (b : Nat) {T : TypeId} {d : D} {xs : List d.T} {f : Nat} {args : List SV} (hb : lk hp b = some (.row T d xs))
    (h : fcH (fun hp' => fcN (fun fr' => go (EnI inl post) 100000 cur (.ops all (⟨o.dst, o.op, o.type, o.pos, o.after, none⟩ :: l) :: r) ⟨fr', hp', nx⟩ stk) (fzF b d xs fr)) (fzH b d xs (rm hp b))) : CallOk (EnI inl post) cur f args all o l r ⟨fr, hp, nx⟩ stk :=
  ⟨fun _ => fz0 b hb h⟩
theorem fzs (b : Nat) {T : TypeId} {d : D} {xs : List d.T} (hb : lk hp b = some (.row T d xs))
    (h : fcH (fun hp' => fcN (fun fr' => go (EnI inl post) 100000 cur (.ops all (⟨o.dst, o.op, o.type, o.pos, o.after, none⟩ :: l) :: r) ⟨fr', hp', nx⟩ stk) (fzF b d xs fr)) (fzH b d xs (rm hp b))) : StuckOk (EnI inl post) cur all o l r ⟨fr, hp, nx⟩ stk :=
  ⟨fz0 b hb h⟩
theorem fzl (b : Nat) {T : TypeId} {d : D} {xs : List d.T} {c : Code} (hb : lk hp b = some (.row T d xs))
    (h : fcH (fun hp' => fcN (fun fr' => go (EnI inl post) 100000 cur (.code (.loop c) :: r) ⟨fr', hp', nx⟩ stk) (fzF b d xs fr)) (fzH b d xs (rm hp b))) : LoopOk (EnI inl post) cur c r ⟨fr, hp, nx⟩ stk :=
  ⟨fz0 b hb h⟩
theorem fzd (b : Nat) {T : TypeId} {d : D} {xs : List d.T} {id : Nat} (hb : lk hp b = some (.row T d xs))
    (h : fcH (fun hp' => fcN (fun fr' => go (EnI inl post) 100000 cur (.code (.region id all true) :: r) ⟨fr', hp', nx⟩ stk) (fzF b d xs fr)) (fzH b d xs (rm hp b))) : DrawOk (EnI inl post) cur id all r ⟨fr, hp, nx⟩ stk :=
  ⟨fz0 b hb h⟩
/-- an own row that is not empty: its capacity is a number from here on -/
theorem opns (b : Nat) {T : TypeId} {d : D} {xs : List d.T} (hb : lk hp b = some (.row T d xs)) (hne : xs.length ≠ 0)
    (h : ∀ c, xs.length ≤ c → c ≤ 9223372036854775807 → fcH (fun hp' => fcN (fun fr' => go (EnI inl post) 100000 cur (.ops all (⟨o.dst, o.op, o.type, o.pos, o.after, none⟩ :: l) :: r) ⟨fr', hp', nx⟩ stk) (rpF b (.sub b 0 d.sz xs.length c) fr)) ((b, .wid T d xs c) :: rm hp b)) : StuckOk (EnI inl post) cur all o l r ⟨fr, hp, nx⟩ stk :=
  ⟨open_rule hb hne fun c h1 h2 => go0 (by have := h c h1 h2; rw [fcH_eq, fcN_eq] at this; exact this)⟩
/-- the same, before a region that draws its order -/
theorem opnd (b : Nat) {T : TypeId} {d : D} {xs : List d.T} {id : Nat} (hb : lk hp b = some (.row T d xs)) (hne : xs.length ≠ 0)
    (h : ∀ c, xs.length ≤ c → c ≤ 9223372036854775807 → fcH (fun hp' => fcN (fun fr' => go (EnI inl post) 100000 cur (.code (.region id all true) :: r) ⟨fr', hp', nx⟩ stk) (rpF b (.sub b 0 d.sz xs.length c) fr)) ((b, .wid T d xs c) :: rm hp b)) : DrawOk (EnI inl post) cur id all r ⟨fr, hp, nx⟩ stk :=
  ⟨open_rule hb hne fun c h1 h2 => go0 (by have := h c h1 h2; rw [fcH_eq, fcN_eq] at this; exact this)⟩
/-- the same, where the row may be empty: it is nil, or opened -/
theorem opnx (b : Nat) {T : TypeId} {d : D} {xs : List d.T} (hb : lk hp b = some (.row T d xs))
    (h0 : xs = [] → fcH (fun hp' => fcN (fun fr' => go (EnI inl post) 100000 cur (.ops all (⟨o.dst, o.op, o.type, o.pos, o.after, none⟩ :: l) :: r) ⟨fr', hp', nx⟩ stk) (rpF b (.val (.slice none 0 0)) fr)) (rm hp b))
    (h : ∀ c, xs.length ≤ c → c ≤ 9223372036854775807 → fcH (fun hp' => fcN (fun fr' => go (EnI inl post) 100000 cur (.ops all (⟨o.dst, o.op, o.type, o.pos, o.after, none⟩ :: l) :: r) ⟨fr', hp', nx⟩ stk) (rpF b (.sub b 0 d.sz xs.length c) fr)) ((b, .wid T d xs c) :: rm hp b)) : StuckOk (EnI inl post) cur all o l r ⟨fr, hp, nx⟩ stk :=
  ⟨open1_rule hb (fun e => go0 (by have := h0 e; rw [fcH_eq, fcN_eq] at this; exact this)) fun c h1 h2 => go0 (by have := h c h1 h2; rw [fcH_eq, fcN_eq] at this; exact this)⟩
/-- a nil list in an object is an own row that has nothing in it: at a loop, at a call -/
theorem nilrl0 (b i T' : Nat) (d : D) {T : TypeId} {l' : List C} {c : Code} (hb : lk hp b = some (.cells T l')) (hi : l'[i]? = some (.val (.slice none 0 0)))
    (h : fcH (fun hp' => go (EnI inl post) 100000 cur (.code (.loop c) :: r) ⟨fr, hp', nx + 1⟩ stk) ((b, .cells T (l'.set i (.row nx))) :: rm ((nx, .row T' d []) :: hp) b)) : LoopOk (EnI inl post) cur c r ⟨fr, hp, nx⟩ stk :=
  ⟨nilrow_rule T' d hb hi (go0 (by rw [fcH_eq] at h; exact h))⟩
theorem nilrc0 (b i T' : Nat) (d : D) {T : TypeId} {l' : List C} {f : Nat} {args : List SV} (hb : lk hp b = some (.cells T l')) (hi : l'[i]? = some (.val (.slice none 0 0)))
    (h : fcH (fun hp' => go (EnI inl post) 100000 cur (.ops all (⟨o.dst, o.op, o.type, o.pos, o.after, none⟩ :: l) :: r) ⟨fr, hp', nx + 1⟩ stk) ((b, .cells T (l'.set i (.row nx))) :: rm ((nx, .row T' d []) :: hp) b)) : CallOk (EnI inl post) cur f args all o l r ⟨fr, hp, nx⟩ stk :=
  ⟨fun _ => nilrow_rule T' d hb hi (go0 (by rw [fcH_eq] at h; exact h))⟩
/-- an array's elements, got by numbers that are not known: at a loop -/
theorem arrl0 (b n : Nat) (d : D) {T : TypeId} {l' : List C} {xs : List d.T} {c : Code} (hb : lk hp b = some (.cells T l')) (hps : psN d n l' = some xs) (hn : Nat.ble n 4096 = true)
    (h : fcH (fun hp' => go (EnI inl post) 100000 cur (.code (.loop c) :: r) ⟨fr, hp', nx⟩ stk) ((b, .wid T d xs n) :: rm hp b)) : LoopOk (EnI inl post) cur c r ⟨fr, hp, nx⟩ stk :=
  ⟨arr_rule hb hps (Nat.le_of_ble_eq_true hn) (go0 (by rw [fcH_eq] at h; exact h))⟩
theorem ovl0 {f : Nat} {fn : Func} {tS tR e T2 T : TypeId} {i : TI} {b2 b o1 sz n c c0 : Nat} {d2 d : D} {ys : List d2.T} {xs : List d.T}
    (hf : Try.prog.funcs[f]? = some fn) (hname : (fn.name == "runtime.NumGoroutine") = false) (hb : fn.body.isNone = true) (hn : Extern.findNext fn = none) (he : Extern.find fn = some (Extern.SlicesOverlaps.overlaps #[tS, tS] #[tR])) (hi : lk tab tS = some i) (hk : i.tk = .slice e) (hes : (sz? (lk tab) e).isSome = true)
    (h2 : lk hp b2 = some (.row T2 d2 ys)) (h1 : lk hp b = some (.wid T d xs c0)) (hne : Nat.beq b2 b = false) (hy : ys.length ≠ 0) (hx : xs.length ≠ 0)
    (hm : fcF (fun fr' => go (EnI inl post) 100000 cur (.ops all l :: r) ⟨fr', hp, nx⟩ stk) (putF cur.nt fr o.dst (.c (.bool .ff)))) : CallOk (EnI inl post) cur f [.c (.row b2), .c (.sub b o1 sz n c)] all o l r ⟨fr, hp, nx⟩ stk :=
  ovl_rule (E := EnI inl post) (hI.out post) hf hname hb hn he hi hk hes h2 h1 hne hy hx (go0 (by rw [fcF_eq] at hm; exact hm))
theorem cmps0 {f : Nat} {fn : Func} {a b : List UInt8}
    (hf : Try.prog.funcs[f]? = some fn) (hname : (fn.name == "runtime.NumGoroutine") = false) (hb : fn.body.isNone = true) (hn : Extern.findNext fn = none) (he : Extern.find fn = some Extern.BytealgCompare.compare)
    (hm : fcF (fun fr' => go (EnI inl post) 100000 cur (.ops all l :: r) ⟨fr', hp, nx⟩ stk) (putF cur.nt fr o.dst (.c (.int .i64 (Lib.compareBytes a b))))) : CallOk (EnI inl post) cur f [.c (.str a), .c (.str b)] all o l r ⟨fr, hp, nx⟩ stk :=
  cmps_rule (E := EnI inl post) hf hname hb hn he (go0 (by rw [fcF_eq] at hm; exact hm))
/-- what holds behind a loop, a draw -/
theorem cutd {id : Nat} {st : St} {α : Type} (I : α → Prop) (σ : α → St) (h1 : DrawOk (EnI inl post) cur id all (.fin (fun st' => ∃ y, I y ∧ sub (σ y) st' stk) :: r) st stk) (h2 : ∀ y, I y → go (EnI inl post) 100000 cur r (σ y) stk) : DrawOk (EnI inl post) cur id all r st stk :=
  ⟨cut_rule I σ h1.out fun y hy => go0 (h2 y hy)⟩
theorem cutl {c : Code} {st : St} {α : Type} (I : α → Prop) (σ : α → St) (h1 : LoopOk (EnI inl post) cur c (.fin (fun st' => ∃ y, I y ∧ sub (σ y) st' stk) :: r) st stk) (h2 : ∀ y, I y → go (EnI inl post) 100000 cur r (σ y) stk) : LoopOk (EnI inl post) cur c r st stk :=
  ⟨cut_rule I σ h1.out fun y hy => go0 (h2 y hy)⟩
theorem range0 {T T' k e : TypeId} {x : Operand} {i : TI} {b : Nat} {kd0 kd vd : D} {es : List (kd.T × vd.T)} (ho : o.op = .range T x) (hi : lk tab T = some i) (hk : i.tk = .map k e kd0) (hx : ev fr x = .c (.mp b)) (hb : lk hp b = some (.dmp T' kd vd es))
    (hm : fcH (fun hp' => fcF (fun fr' => go (EnI inl post) 100000 cur (.ops all l :: r) ⟨fr', hp', nx + 1⟩ stk) (putF cur.nt fr o.dst (.c (.ptr nx 0)))) ((nx, .itr b es.length []) :: rm hp nx)) : StuckOk (EnI inl post) cur all o l r ⟨fr, hp, nx⟩ stk :=
  range_rule (E := EnI inl post) (hI.out post).tab ho hi hk hx hb (go0 (by rw [fcH_eq, fcF_eq] at hm; exact hm))
theorem next0 {T' : TypeId} {x : Operand} {b m : Nat} {kd vd : D} {es : List (kd.T × vd.T)} {n : Nat} {seen : List Nat} (ho : o.op = .next x false) (hx : ev fr x = .c (.ptr b 0)) (hb : lk hp b = some (.itr m n seen)) (hm : lk hp m = some (.dmp T' kd vd es)) (hn : n = es.length) (hkp : kd.plain = true) (hvp : vd.plain = true)
    (h1 : (∀ i, i < es.length → i ∈ seen) → fcF (fun fr' => go (EnI inl post) 100000 cur (.ops all l :: r) ⟨fr', hp, nx⟩ stk) (putF cur.nt fr o.dst (.tup [(false, [.bool .ff])])))
    (h2 : ∀ (i : Nat) (hi : i < es.length), i ∉ seen → fcH (fun hp' => fcN (fun fr' => go (EnI inl post) 100000 cur (.ops all l :: r) ⟨fr', hp', nx⟩ stk) (putF cur.nt fr o.dst (.tup [(false, [.bool .tt]), partD kd es[i].1, partD vd es[i].2]))) ((b, .itr m n (seen ++ [i])) :: rm hp b)) :
    StuckOk (EnI inl post) cur all o l r ⟨fr, hp, nx⟩ stk :=
  next_rule (E := EnI inl post) ho hx hb hm hn hkp hvp (fun h => go0 (by have := h1 h; rw [fcF_eq] at this; exact this)) (fun i hi hs => go0 (by have := h2 i hi hs; rw [fcH_eq, fcN_eq] at this; exact this))
theorem entry0 {T' : TypeId} {x : Operand} {b m : Nat} {kd vd : D} {es : List (kd.T × vd.T)} {n : Nat} {seen : List Nat} {i : Nat} (ho : o.op = .entry x) (hx : ev fr x = .c (.ptr b 0)) (hb : lk hp b = some (.itr m n (seen ++ [i]))) (hm : lk hp m = some (.dmp T' kd vd es)) (hn : n = es.length) (hi : i < es.length) (hkp : kd.plain = true) (hvp : vd.plain = true)
    (h2 : fcN (fun fr' => go (EnI inl post) 100000 cur (.ops all l :: r) ⟨fr', hp, nx⟩ stk) (putF cur.nt fr o.dst (.tup [partD kd es[i].1, partD vd es[i].2]))) : StuckOk (EnI inl post) cur all o l r ⟨fr, hp, nx⟩ stk :=
  entry_rule (E := EnI inl post) ho hx hb hm hn hi hkp hvp (go0 (by rw [fcN_eq] at h2; exact h2))
theorem eqs0 (d : D) {t rt : TypeId} {x y : Operand} {p q : d.T} (n : Nat) (ho : o.op = .binOp .eql t x y rt) (hB : eqtB Try.prog n t d = true) (hn : Nat.ble n 10000 = true) (hg : Try.prog.eqGuardType Try.prog.depth t = false) (hpr : isPr d = true) (hx : psS d (ev fr x) = some p) (hy : psS d (ev fr y) = some q)
    (hm : fcF (fun fr' => go (EnI inl post) 100000 cur (.ops all l :: r) ⟨fr', hp, nx⟩ stk) (putF cur.nt fr o.dst (.c (.bool (.sym (d.eqb p q)))))) : StuckOk (EnI inl post) cur all o l r ⟨fr, hp, nx⟩ stk :=
  eqs_rule (E := EnI inl post) d ho hB hn hg hpr hx hy (go0 (by rw [fcF_eq] at hm; exact hm))
end
theorem after0 {post : SV → St → Prop} {cur : FI} {r : List It} {st : St} {stk : List Fm} (h : go (EnI inl post) 100000 cur r st stk) : AfterQ (EnI inl post) cur r st stk := ⟨go0 h⟩
end
end Go.Proofs.Ytnldokebmfojeaa
/- What package num computes, in plain Lean: no program in sight. Own work. -/
namespace Num
open OE

/-- a number's bytes -/
def putN (n : Nat) : List UInt8 := if h : n < 128 then [UInt8.ofNat n] else UInt8.ofNat (n % 128 + 128) :: putN (n / 128)
termination_by n

/-- the number whose bytes a text begins with, from the i-th byte of it on -/
def getL : List UInt8 → Nat → Nat → Option (Nat × Nat)
  | [], _, _ => none
  | c :: l, i, n =>
    if i = 9 ∧ c.toNat ≠ 1 ∨ c.toNat = 0 ∧ 0 < i then none
    else if c.toNat < 128 then some (n + c.toNat % 128 * 128 ^ i, i + 1) else getL l (i + 1) (n + c.toNat % 128 * 128 ^ i)
def getN (s : List UInt8) (at_ : Int) : Option (Nat × Nat) := if at_ < 0 ∨ at_ > s.length then none else getL (s.drop at_.toNat) 0 0

/-- signed numbers -/
def zig (n : Int) : Nat := if 0 ≤ n then (2 * n).toNat else (-2 * n - 1).toNat
def zag (u : Nat) : Int := if u % 2 = 0 then ((u / 2 : Nat) : Int) else -((u / 2 : Nat) : Int) - 1
def putZ (n : Int) : List UInt8 := putN (zig n)
def putT (t : List UInt8) : List UInt8 := putN t.length ++ t
def getT (s : List UInt8) (at_ most : Int) : Option (List UInt8 × Nat) :=
  match getN s at_ with
  | none => none
  | some (n, k) => if most < 0 ∨ (n : Int) > most ∨ at_.toNat + k + n > s.length then none else some (((s.drop at_.toNat).drop k).take n, k + n)

theorem getL_bd : ∀ {l : List UInt8} {i n m k : Nat}, getL l i n = some (m, k) → i ≤ 9 → n < 128 ^ i → m < 2 ^ 64 ∧ i < k ∧ k ≤ 10 ∧ k ≤ i + l.length
  | [], _, _, _, _, h, _, _ => by simp [getL] at h
  | c :: l, i, n, m, k, h, hi, hn => by
    simp only [getL] at h
    split at h
    · cases h
    · rename_i h1
      have hc := c.toNat_lt
      have hp : (128 : Nat) ^ i = 2 ^ (7 * i) := by rw [Nat.pow_mul]
      split at h
      · simp only [Option.some.injEq, Prod.mk.injEq] at h
        obtain ⟨rfl, rfl⟩ := h
        refine ⟨?_, by omega, by omega, by simp⟩
        by_cases h9 : i = 9
        · subst h9
          have hc1 : c.toNat = 1 := by omega
          rw [hc1]
          simp at hn ⊢
          omega
        · have h2 : (128 : Nat) ^ (i + 1) ≤ 128 ^ 9 := Nat.pow_le_pow_right (by omega) (by omega)
          have h3 : c.toNat % 128 * 128 ^ i ≤ 127 * 128 ^ i := Nat.mul_le_mul_right _ (by omega)
          rw [Nat.pow_succ] at h2
          have h4 : (128 : Nat) ^ 9 = 9223372036854775808 := by decide
          omega
      · rename_i h2
        have h9 : i ≠ 9 := by omega
        have h3 : c.toNat % 128 * 128 ^ i ≤ 127 * 128 ^ i := Nat.mul_le_mul_right _ (by omega)
        have := getL_bd h (by omega) (by rw [Nat.pow_succ]; omega)
        simp only [List.length_cons]
        omega

theorem getN_bd {s : List UInt8} {at_ : Int} {m k : Nat} (h : getN s at_ = some (m, k)) : m < 2 ^ 64 ∧ 0 < k ∧ k ≤ 10 ∧ 0 ≤ at_ ∧ at_.toNat + k ≤ s.length := by
  unfold getN at h
  split at h
  · cases h
  · have := getL_bd h (by omega) (by omega)
    simp only [List.length_drop] at this
    omega

theorem putN_lt {n : Nat} (h : n < 128) : putN n = [UInt8.ofNat n] := by rw [putN]; simp [h]
theorem putN_ge {n : Nat} (h : 128 ≤ n) : putN n = UInt8.ofNat (n % 128 + 128) :: putN (n / 128) := by rw [putN]; simp [Nat.not_lt.2 h]
theorem putN_len : ∀ (k n : Nat), n < 128 ^ (k + 1) → (putN n).length ≤ k + 1
  | 0, n, h => by rw [putN_lt (by simpa using h)]; simp
  | k + 1, n, h => by
    by_cases hn : n < 128
    · rw [putN_lt hn]; simp
    · rw [putN_ge (by omega)]
      have : n / 128 < 128 ^ (k + 1) := by rw [Nat.div_lt_iff_lt_mul (by omega)]; rw [Nat.pow_succ] at h; exact h
      have := putN_len k (n / 128) this
      simp only [List.length_cons]
      omega
theorem putN_pos (n : Nat) : 1 ≤ (putN n).length := by
  by_cases hn : n < 128
  · rw [putN_lt hn]; simp
  · rw [putN_ge (by omega)]; simp
theorem putN_ten {n : Nat} (h : n < 18446744073709551616) : (putN n).length ≤ 10 := putN_len 9 n (by
  have : (128 : Nat) ^ (9 + 1) = 1180591620717411303424 := by decide
  omega)

theorem getL_put : ∀ (n i acc : Nat) (r : List UInt8), n * 128 ^ i < 18446744073709551616 → (i = 0 ∨ 0 < n) → i ≤ 9 → getL (putN n ++ r) i acc = some (acc + n * 128 ^ i, i + (putN n).length) := by
  intro n
  induction n using Nat.strongRecOn with
  | _ n ih =>
    intro i acc r h1 h2 h3
    have h9 : i = 9 → n ≤ 1 := by
      intro h
      subst h
      have : (128 : Nat) ^ 9 = 9223372036854775808 := by decide
      rw [this] at h1
      omega
    by_cases hn : n < 128
    · rw [putN_lt hn]
      have hc : (UInt8.ofNat n).toNat = n := by simp; omega
      simp only [List.cons_append, List.nil_append, getL, hc, List.length_singleton]
      rw [if_neg (by omega), if_pos hn, Nat.mod_eq_of_lt hn]
    · rw [putN_ge (by omega)]
      have hc : (UInt8.ofNat (n % 128 + 128)).toNat = n % 128 + 128 := by simp; omega
      simp only [List.cons_append, getL, hc, List.length_cons]
      have e1 : (n % 128 + 128) % 128 = n % 128 := by omega
      have e2 : n * 128 ^ i = n % 128 * 128 ^ i + n / 128 * 128 ^ (i + 1) := by
        rw [Nat.pow_succ]
        have : n = n % 128 + n / 128 * 128 := by omega
        conv => lhs; rw [this]
        rw [Nat.add_mul, Nat.mul_assoc, Nat.mul_comm 128]
      rw [if_neg (by omega), if_neg (by omega), e1, ih (n / 128) (by omega) (i + 1) _ r (by omega) (by omega) (by omega)]
      rw [e2, Nat.add_assoc]
      congr 2
      omega
theorem getN_put (n : Nat) (p r : List UInt8) (h : n < 18446744073709551616) : getN (p ++ putN n ++ r) p.length = some (n, (putN n).length) := by
  unfold getN
  rw [if_neg (by simp; omega)]
  have : (p ++ putN n ++ r).drop (p.length : Int).toNat = putN n ++ r := by simp
  rw [this, getL_put n 0 0 r (by omega) (by omega) (by omega)]
  simp
theorem putN_inj {a b : Nat} (ha : a < 18446744073709551616) (hb : b < 18446744073709551616) (h : putN a = putN b) : a = b := by
  have h1 := getN_put a [] [] ha
  have h2 := getN_put b [] [] hb
  rw [h] at h1
  rw [h1] at h2
  simp at h2
  exact h2
theorem putN_mono : ∀ (a b : Nat), a ≤ b → (putN a).length ≤ (putN b).length := by
  intro a
  induction a using Nat.strongRecOn with
  | _ a ih =>
    intro b h
    by_cases ha : a < 128
    · rw [putN_lt ha]; exact putN_pos b
    · rw [putN_ge (by omega), putN_ge (by omega : 128 ≤ b)]
      have := ih (a / 128) (by omega) (b / 128) (by omega)
      simp only [List.length_cons]
      omega
theorem getL_take : ∀ {l : List UInt8} {i acc m k : Nat}, getL l i acc = some (m, k) → ∃ n, m = acc + n * 128 ^ i ∧ l.take (k - i) = putN n ∧ (i = 0 ∨ 0 < n) ∧ i < k
  | [], _, _, _, _, h => by simp [getL] at h
  | c :: l, i, acc, m, k, h => by
    simp only [getL] at h
    split at h
    · cases h
    · rename_i h1
      have hc := c.toNat_lt
      split at h
      · rename_i h2
        simp only [Option.some.injEq, Prod.mk.injEq] at h
        obtain ⟨rfl, rfl⟩ := h
        refine ⟨c.toNat, by rw [Nat.mod_eq_of_lt h2], ?_, by omega, by omega⟩
        rw [putN_lt h2, show i + 1 - i = 1 from by omega]
        simp
      · rename_i h2
        obtain ⟨n, e1, e2, e3, e4⟩ := getL_take h
        refine ⟨c.toNat % 128 + 128 * n, ?_, ?_, by omega, by omega⟩
        · rw [e1, Nat.pow_succ, Nat.add_mul, Nat.add_assoc, Nat.mul_comm 128 n, Nat.mul_assoc, Nat.mul_comm 128]
        · rw [show k - i = (k - (i + 1)) + 1 from by omega, List.take_succ_cons, e2, putN_ge (n := c.toNat % 128 + 128 * n) (by omega)]
          have e5 : (c.toNat % 128 + 128 * n) % 128 + 128 = c.toNat := by omega
          have e6 : (c.toNat % 128 + 128 * n) / 128 = n := by omega
          rw [e5, e6]
          simp
theorem getN_take {s : List UInt8} {at_ : Int} {m k : Nat} (h : getN s at_ = some (m, k)) : (s.drop at_.toNat).take k = putN m := by
  unfold getN at h
  split at h
  · cases h
  · obtain ⟨n, e1, e2, _⟩ := getL_take h
    simp at e1 e2
    rw [e1, e2]

theorem getT_put (t p r : List UInt8) (most : Int) (hm : (t.length : Int) ≤ most) (ht : t.length < 18446744073709551616) : getT (p ++ putT t ++ r) p.length most = some (t, (putT t).length) := by
  unfold getT
  have e : p ++ putT t ++ r = p ++ putN t.length ++ (t ++ r) := by simp [putT]
  rw [e, getN_put t.length p (t ++ r) ht]
  dsimp only
  rw [if_neg (by simp; omega)]
  simp [putT]
def catT (xs : List (List UInt8)) : List UInt8 := (xs.map putT).flatten
theorem catT_succ (xs : List (List UInt8)) (i : Nat) (h : i < xs.length) : catT (xs.take (i + 1)) = catT (xs.take i) ++ putT xs[i] := by
  unfold catT
  rw [← List.take_append_getElem h, List.map_append, List.flatten_append]
  simp only [List.map_cons, List.map_nil, List.flatten_cons, List.flatten_nil, List.append_nil]
theorem catT_split (xs : List (List UInt8)) (i : Nat) (h : i < xs.length) : catT xs = catT (xs.take i) ++ putT xs[i] ++ catT (xs.drop (i + 1)) := by
  unfold catT
  conv => lhs; rw [← List.take_append_drop i xs, List.drop_eq_getElem_cons h]
  simp only [List.map_append, List.map_cons, List.flatten_append, List.flatten_cons, List.append_assoc]

end Num
/- The walk of num.Put. Own work. -/
set_option linter.unusedVariables false
namespace Go.Proofs.Ytnldokebmfojeaa
open Go Go.RowKit OE

def putSt (m : Nat) : List Int → St
  | [] => ⟨[(0, .c (.int .u64 m)), (3, .c (.val (.slice none 0 0)))], [], 0⟩
  | x :: xs => ⟨[(0, .c (.int .u64 m)), (3, .c (.row 0))], [(0, .row 5 (.int .u8) (x :: xs))], 1⟩

theorem put_byte (m : Nat) : bits .or .u8 (IntKind.wrap .u8 m) 128 = ((m % 128 + 128 : Nat) : Int) := by
  have e : IntKind.wrap .u8 (m : Int) = ((m % 256 : Nat) : Int) := by rw [wru8]; omega
  rw [e, or128 _ (by omega)]
  omega
theorem put_last (m : Nat) (h : m < 128) : byl [IntKind.wrap .u8 (m : Int)] = Num.putN m := by
  have e : IntKind.wrap .u8 (m : Int) = ((m : Nat) : Int) := by rw [wru8]; omega
  rw [e, Num.putN_lt h]
  rfl
theorem put_step (m : Nat) (h : 128 ≤ m) : byl [bits .or .u8 (IntKind.wrap .u8 (m : Int)) 128] ++ Num.putN (m / 128) = Num.putN m := by
  rw [put_byte, Num.putN_ge h]
  rfl
theorem byl_len (xs : List Int) : (byl xs).length = xs.length := by simp [byl]

theorem num_Put (n : Nat) (hn : n < 18446744073709551616) : FnD Try.prog 45 [.c (.int .u64 n)] (· = .c (.str (Num.putN n))) := by
  have hlen : ∀ (xs : List Int) (m : Nat), byl xs ++ Num.putN m = Num.putN n → xs.length ≤ 10 := by
    intro xs m h
    have h1 := Num.putN_ten hn
    rw [← h, List.length_append, byl_len] at h1
    omega
  refine fn0 Try.func45 rfl rfl rfl ?_
  conv => whnf
  refine loop0 (α := Nat × List Int) (fun p => p.1 < 18446744073709551616 ∧ byl p.2 ++ Num.putN p.1 = Num.putN n) (fun p => putSt p.1 p.2) (fun p => p.1) ⟨(n, []), ⟨hn, rfl⟩, ?_⟩ ?_
  · conv => whnf
    exact ⟨rfl, ⟨rfl, rfl, trivial⟩, trivial, trivial⟩
  · rintro ⟨m, xs⟩ ⟨h1, h2⟩
    dsimp only at h1 h2 ⊢
    have hl := hlen _ _ h2
    have hdiv : (m : Int) / 2 ^ min (Int.toNat 7) IntKind.u64.bits = ((m / 128 : Nat) : Int) := by
      show (m : Int) / 2 ^ 7 = _
      omega
    cases xs with
    | nil =>
      conv => whnf
      refine ⟨fun h3 => ?_, fun h3 => ?_⟩
      · have h3 : 128 ≤ m := by simp at h3; omega
        conv => whnf
        refine ⟨by show 1 * 1 ≤ _; omega, ?_⟩
        conv => whnf
        refine ⟨by decide, ?_⟩
        conv => whnf
        refine ⟨(m / 128, [bits .or .u8 (IntKind.wrap .u8 m) 128]), ⟨⟨by dsimp only; omega, ?_⟩, by dsimp only; omega⟩, ?_⟩
        · dsimp only
          rw [put_step m h3, ← h2]
          rfl
        · conv => whnf
          exact ⟨rfl, ⟨hdiv, trivial, trivial⟩, trivial, rfl, trivial⟩
      · have h3 : m < 128 := by simp at h3; omega
        conv => whnf
        refine ⟨by show 1 * 1 ≤ _; omega, ?_⟩
        conv => whnf
        rw [← h2, ← put_last m h3]
        rfl
    | cons x xs =>
      have e1 : ((x :: xs).length + 1) * 1 ≤ 140737488355328 := by omega
      conv => whnf
      refine ⟨fun h3 => ?_, fun h3 => ?_⟩
      · have h3 : 128 ≤ m := by simp at h3; omega
        conv => whnf
        refine ⟨e1, ?_⟩
        conv => whnf
        refine ⟨by decide, ?_⟩
        conv => whnf
        refine ⟨(m / 128, x :: xs ++ [bits .or .u8 (IntKind.wrap .u8 m) 128]), ⟨⟨by dsimp only; omega, ?_⟩, by dsimp only; omega⟩, ?_⟩
        · dsimp only
          rw [byl_app, List.append_assoc, put_step m h3, ← h2]
        · conv => whnf
          exact ⟨rfl, ⟨hdiv, trivial, trivial⟩, trivial, rfl, trivial⟩
      · have h3 : m < 128 := by simp at h3; omega
        conv => whnf
        refine ⟨e1, ?_⟩
        conv => whnf
        rw [← h2, ← put_last m h3, ← byl_app]
end Go.Proofs.Ytnldokebmfojeaa
/- strings.Builder, in an object that is one with it: raw contracts, then handed by pointer. After the kit's own walks of it. Own work. -/
set_option linter.unusedVariables false
set_option maxRecDepth 100000
namespace Go.Proofs.Ytnldokebmfojeaa
open Go Go.RowKit OE

theorem cell_heap {w : World} {b : Nat} {l : Array Value} {T : Nat} (h : w.heap[b]? = some (.cells l T (0, 0))) (i : Nat) : w.cell? ⟨b, i, none⟩ = l[i]? := by
  rw [Lib.cell_of_heap h]
set_option maxHeartbeats 1000000 in
theorem raw_check_used (b : Nat) (w : World) (h0 : w.cell? ⟨b, 0, none⟩ = some (.pointer (some ⟨b, 0, none⟩))) :
    Calls Try.prog 46 #[.pointer (some ⟨b, 0, none⟩)] w fun e w' => e = .returned (.tuple #[]) ∧ w' = w := by
  obtain ⟨j, hj, _⟩ := Option.map_eq_some_iff.1 (show (Try.prog.info? 50).map (·.size) = some 2 by kernel_rfl)
  go_enter Try.func46, Try.ntmps46
  go_wp2
  rw [Lib.run_neq_ptr_same w _ Try.underlying47 hj]
  go_wp2
  go_end0
  exact ⟨rfl, rfl⟩
set_option maxHeartbeats 1000000 in
theorem raw_check_fresh (b T n : Nat) (w : World) (h0 : w.cell? ⟨b, 0, none⟩ = some (.pointer none)) (hsh : w.shape? b = some (T, n)) (hn : 0 < n) (hl : liesAt Try.prog Try.prog.depth T (n / Try.prog.cellsOf T) 0 50 1 = true) (hfz : w.frozen? ⟨b, 0, none⟩ = false) :
    Calls Try.prog 46 #[.pointer (some ⟨b, 0, none⟩)] w fun e w' => e = .returned (.tuple #[]) ∧ w' = w.setCell ⟨b, 0, none⟩ (.pointer (some ⟨b, 0, none⟩)) := by
  obtain ⟨j, hj, hjs⟩ := Option.map_eq_some_iff.1 (show (Try.prog.info? 50).map (·.size) = some 2 by kernel_rfl)
  go_enter Try.func46, Try.ntmps46
  go_wp2
  rw [Lib.run_to_unsafe w ⟨b, 0, none⟩ Try.underlying47 Try.underlying126 hj (by rw [hjs]; decide) hsh hn]
  simp only [Result.andThen]
  rw [Oper.upon_value]
  go_wp2
  rw [run_callFunc_extern Try.func64 (by kernel_rfl) (by kernel_rfl) (by kernel_rfl) (e := Extern.AbiNoEscape.same) (by kernel_rfl)]
  rw [Lib.run_noEscape]
  simp only [Result.andThen]
  rw [Oper.upon_value]
  go_wp2
  rw [Lib.run_from_unsafe w ⟨b, 0, none⟩ Try.underlying126 Try.underlying47 hj hsh hl]
  simp only [Result.andThen]
  rw [Oper.upon_value]
  go_wp2
  go_end0
  exact ⟨rfl, rfl⟩
/-- a string's bytes behind a row of one's own: the row is the old one or a new one -/
theorem app_str {P : Program} {w : World} (t u ty e : TypeId) (i : TypeInfo) (ht : P.underlying t = some (.slice e)) (hu : P.underlying u = some .string) (hi : P.info? e = some i) (hz : i.zero = some (.int .u8 0)) (hsize : i.size = 1) (hby : i.bytes = 1)
    (v : Value) (n : Nat) (xs : List Value) (hown : w.ownsRow 0 e 1 v n xs) (s : ByteArray) (hb : n + s.size ≤ 140737488355328) :
    ∃ v' w', (Builtin.append_ #[t, u] ty #[v, .string s]).run P w = .ok v' w' ∧ w'.ownsRow 0 e 1 v' (n + s.size) (xs ++ Lib.strCells s) ∧ w.grownBy w' v.ownBlock ∧ (v'.ownBlock = v.ownBlock ∨ ∀ k, v'.ownBlock = some k → w.heap.size ≤ k ∧ k < w'.heap.size) := by
  obtain ⟨v', w', r1, r2, r3, r4⟩ := Lib.run_append_own_string (P := P) (w := w) 0 t u ty e i ht hu hi hz hsize hby v n xs hown s (by simp only [maxLen]; omega) hb (Nat.zero_le _)
  refine ⟨v', w', r1, r2, r3, ?_⟩
  rcases hown.2 with ⟨rfl, rfl⟩ | ⟨g, cap, cur, rfl, _, hg, hnc, hcm, hcs, htake⟩
  · by_cases hm : s.size = 0
    · rw [r4.2 ⟨rfl, hm⟩]; exact .inl rfl
    · have hex := run_append_nil_string (P := P) w t u ty e i (.int .u8 0) ht hu hi hz s (by omega) (by omega) (by rw [hby]; omega)
      rw [r1] at hex
      cases hex
      exact .inr fun k hk => by simp [Value.ownBlock] at hk; subst hk; exact ⟨Nat.le_refl _, by simp⟩
  · by_cases hroom : n + s.size ≤ cap
    · have hex := Lib.run_append_room_string (P := P) w t u ty e i ht hu hi hsize g n cap cur hg s hroom (by omega)
      rw [r1] at hex
      cases hex
      exact .inl rfl
    · have holds : ∀ j u, xs[j]? = some u → w.cell? ((⟨g, 0, none⟩ : Addr).add j) = some u := hown.cells (g := g) rfl
      have hex := Lib.run_append_grow_string (P := P) w t u ty e i (.int .u8 0) ht hu hi hz ⟨g, 0, none⟩ n cap xs (by rw [hsize, hown.1]) holds s (by omega) (by omega) (by rw [hby]; exact growslice_fits (by omega) (by omega))
      rw [r1] at hex
      cases hex
      exact .inr fun k hk => by simp [Value.ownBlock] at hk; subst hk; exact ⟨Nat.le_refl _, by simp⟩
theorem wpList_str {P : Program} {w : World} {ops : Array Oper} {rest : List Oper} {o : Oper} {a : Act} {Q : Exit → Act → World → Prop} (hgd : o.guard = none) (sl x : Operand) (t u : TypeId)
    (ho : o.op = .call { callee := .builtin .append, args := #[sl, x], argTypes := #[t, u] }) (e : TypeId) (i : TypeInfo) (ht : P.underlying t = some (.slice e)) (hu : P.underlying u = some .string) (hi : P.info? e = some i) (hz : i.zero = some (.int .u8 0)) (hsize : i.size = 1) (hby : i.bytes = 1)
    (v : Value) (n : Nat) (xs : List Value) (hs : a.eval sl = v) (hown : w.ownsRow 0 e 1 v n xs) (s : ByteArray) (hx : a.eval x = .string s) (hb : n + s.size ≤ 140737488355328)
    (h : ∀ v' w', w'.ownsRow 0 e 1 v' (n + s.size) (xs ++ Lib.strCells s) → w.grownBy w' v.ownBlock → (v'.ownBlock = v.ownBlock ∨ ∀ k, v'.ownBlock = some k → w.heap.size ≤ k ∧ k < w'.heap.size) → wpList P ops Q rest (a.put o.dst v') w') : wpList P ops Q (o :: rest) a w := by
  refine wpList_plain hgd fun K hK => ?_
  obtain ⟨v', w', hr, h2, h3, h4⟩ := app_str (P := P) (w := w) t u o.type e i ht hu hi hz hsize hby v n xs hown s hb
  unfold Oper.wp execOp
  simp only [ho, resolve, invoke, builtin, Sem.run_bind, Sem.run_pure, Result.andThen_ok, List.map_toArray, List.map_cons, List.map_nil, hs, hx, hr]
  exact hK _ _ (h v' w' h2 h3 h4)
/-- what a write leaves: the object's own cell, its row, all else as it was -/
structure Wrote (b T : Nat) (v : Value) (bs : List Value) (w w' : World) : Prop where
  os : w'.os = w.os
  tape : w'.tape = w.tape
  output : w'.output = w.output
  size : w.heap.size ≤ w'.heap.size
  block : ∀ k, k < w.heap.size → k ≠ b → some k ≠ v.ownBlock → w'.heap[k]? = w.heap[k]?
  row : ∃ v', w'.heap[b]? = some (.cells #[.pointer (some ⟨b, 0, none⟩), v'] T (0, 0)) ∧ w'.ownsRow 0 5 1 v' bs.length bs ∧ v'.ownBlock ≠ some b ∧ (v'.ownBlock = v.ownBlock ∨ ∀ k, v'.ownBlock = some k → w.heap.size ≤ k ∧ k < w'.heap.size)
set_option maxHeartbeats 2000000 in
theorem raw_write (b T : Nat) (p v : Value) (bs : List Value) (s : ByteArray) (w : World) (hT : T ≠ 5) (hl : liesAt Try.prog Try.prog.depth T (2 / Try.prog.cellsOf T) 0 50 1 = true)
    (hp : p = .pointer none ∨ p = .pointer (some ⟨b, 0, none⟩)) (hbk : w.heap[b]? = some (.cells #[p, v] T (0, 0))) (hown : w.ownsRow 0 5 1 v bs.length bs) (hne : v.ownBlock ≠ some b) (hb : bs.length + s.size ≤ 140737488355328) :
    Calls Try.prog 15 #[.pointer (some ⟨b, 0, none⟩), .string s] w fun e w' => e = .returned (.tuple #[.int .i64 s.size, .nilIface]) ∧ Wrote b T v (bs ++ Lib.strCells s) w w' := by
  have hchk : Calls Try.prog 46 #[.pointer (some ⟨b, 0, none⟩)] w fun e w' => e = .returned (.tuple #[]) ∧ w'.heap[b]? = some (.cells #[.pointer (some ⟨b, 0, none⟩), v] T (0, 0)) ∧ w'.ownsRow 0 5 1 v bs.length bs ∧ w'.os = w.os ∧ w'.tape = w.tape ∧ w'.output = w.output ∧ w'.heap.size = w.heap.size ∧ (∀ k, k ≠ b → w'.heap[k]? = w.heap[k]?) := by
    rcases hp with rfl | rfl
    · refine (raw_check_fresh b T 2 w (by rw [cell_heap hbk]; rfl) (by simp [World.shape?, hbk]) (by decide) hl (Lib.frozen_of_heap hbk 0)).mono ?_
      rintro e w' ⟨rfl, rfl⟩
      refine ⟨rfl, ?_, ?_, rfl, rfl, rfl, by simp [World.setCell], fun k hk => heap_setCell_other w _ k _ hk⟩
      · rw [heap_setCell_same w b 0 _ T _ hbk]; rfl
      · refine ⟨hown.1, hown.2.imp id ?_⟩
        rintro ⟨g, cap, cur, hv, h0, hg, rest⟩
        refine ⟨g, cap, cur, hv, h0, ?_, rest⟩
        rw [heap_setCell_other w _ g _ (fun e => hne (by rw [hv]; simp [Value.ownBlock, e]))]
        exact hg
    · refine (raw_check_used b w (by rw [cell_heap hbk]; rfl)).mono ?_
      rintro e w' ⟨rfl, rfl⟩
      exact ⟨rfl, hbk, hown, rfl, rfl, rfl, rfl, fun _ _ => rfl⟩
  obtain ⟨i0, hi, hii⟩ := Option.map_eq_some_iff.1 (show (Try.prog.info? 5).map (fun i => (i.zero, i.size, i.bytes)) = some (some (.int .u8 0), 1, 1) by kernel_rfl)
  simp only [Prod.mk.injEq] at hii
  obtain ⟨hz0, hz1, hz2⟩ := hii
  go_enter Try.func15, Try.ntmps15
  go_wp2_with (go_at_call 46; refine hchk.mono ?_)
  rintro e w1 ⟨rfl, hb1, ho1, h1, h2, h3, h4, h5⟩
  have c0 : w1.cell? ⟨b, 0, none⟩ = some (.pointer (some ⟨b, 0, none⟩)) := by rw [cell_heap hb1]; rfl
  have c1 : w1.cell? ⟨b, 1, none⟩ = some v := by rw [cell_heap hb1]; rfl
  go_wp2_with (at_builtin; refine wpList_str rfl _ _ 48 9 rfl 5 i0 Try.underlying48 Try.underlying9 hi hz0 hz1 hz2 _ _ _ rfl ho1 s rfl hb ?_)
  intro v' w2 hown' hgrow hnew
  have hlt : b < w1.heap.size := by
    rcases Nat.lt_or_ge b w1.heap.size with h' | h'
    · exact h'
    · simp [Array.getElem?_eq_none h'] at hb1
  have hb2 : w2.heap[b]? = some (.cells #[.pointer (some ⟨b, 0, none⟩), v] T (0, 0)) := by
    rw [hgrow.block b hlt (fun e => hne e.symm)]
    exact hb1
  have d0 : w2.cell? ⟨b, 0, none⟩ = some (.pointer (some ⟨b, 0, none⟩)) := by rw [cell_heap hb2]; rfl
  have d1 : w2.cell? ⟨b, 1, none⟩ = some v := by rw [cell_heap hb2]; rfl
  have f1 : w2.frozen? ⟨b, 1, none⟩ = false := Lib.frozen_of_heap hb2 1
  have hne' : v'.ownBlock ≠ some b := by
    rcases hnew with e | h
    · rw [e]; exact hne
    · intro e
      have := (h b e).1
      omega
  obtain ⟨ao, n', cap, rfl⟩ : ∃ ao n' cap, v' = .slice ao n' cap := by
    rcases hown'.2 with ⟨hv, _⟩ | ⟨g, cap, cur, hv, _⟩
    · exact ⟨_, _, _, hv⟩
    · exact ⟨_, _, _, hv⟩
  go_wp2
  go_ret2
  refine ⟨rfl, hgrow.os.trans h1, hgrow.tape.trans h2, hgrow.output.trans h3, ?_, ?_, _, ?_, ?_, hne', ?_⟩
  · rw [← h4]
    exact Nat.le_trans hgrow.size (by simp [World.setCell])
  · intro k hk hkb hkv
    rw [heap_setCell_other w2 _ k _ hkb, hgrow.block k (by omega) hkv]
    exact h5 k hkb
  · rw [heap_setCell_same w2 b 1 _ T _ hb2]; rfl
  · rw [show (bs ++ Lib.strCells s).length = bs.length + s.size by rw [List.length_append, Lib.strCells_length]]
    refine ⟨hown'.1, hown'.2.imp id ?_⟩
    rintro ⟨g, cp, cur, hv, g0, hg, rest⟩
    refine ⟨g, cp, cur, hv, g0, ?_, rest⟩
    rw [heap_setCell_other w2 _ g _ (fun e => hne' (by rw [hv]; simp [Value.ownBlock, e]))]
    exact hg
  · rcases hnew with e | h
    · exact .inl e
    · exact .inr fun k hk => by
        have := h k hk
        refine ⟨by omega, ?_⟩
        simp only [World.setCell, Array.size_modify]
        omega
/-! handed by a pointer -/
def byI (l : List UInt8) : List Int := l.map fun b => (b.toNat : Int)
theorem byI_app (a b : List UInt8) : byI (a ++ b) = byI a ++ byI b := List.map_append
abbrev hpB (T : Nat) (p : C) (bs : List UInt8) : List (Nat × Ob) := [(0, .cells T [p, .row 1]), (1, .row 5 (.int .u8) (byI bs))]
/-- the same behind a write: its row has a new name -/
abbrev hpC (T : Nat) (bs : List UInt8) : List (Nat × Ob) := [(0, .cells T [.ptr 0 0, .row 2]), (2, .row 5 (.int .u8) (byI bs))]
theorem byI_rd {w : World} {ok : Nat → Prop} : ∀ {l : List UInt8} {cs : List Value}, RdF (Rd w ok (.int .u8)) (byI l) cs ↔ cs = Lib.byteCells l
  | [], cs => by simp [byI, RdF, Lib.byteCells]
  | b :: l, cs => by
    have ih := fun c => byI_rd (w := w) (ok := ok) (l := l) (cs := c)
    constructor
    · rintro ⟨c1, c2, rfl, h1, h2⟩
      rw [(ih c2).1 h2, show c1 = [Value.int .u8 b.toNat] from h1]
      rfl
    · rintro rfl
      exact ⟨[Value.int .u8 b.toNat], Lib.byteCells l, rfl, rfl, (ih _).2 rfl⟩
theorem strCells_by (s : List UInt8) : Lib.strCells ⟨s.toArray⟩ = Lib.byteCells s := by
  simp [Lib.strCells, Lib.byteCells]
theorem byteCells_app (a b : List UInt8) : Lib.byteCells (a ++ b) = Lib.byteCells a ++ Lib.byteCells b := by
  simp [Lib.byteCells]
abbrev kpB : List (Nat × Bool) := [(0, false)]
/-- the object and its row, seen in the world -/
theorem hpB_see {T : Nat} {p : C} {bs : List UInt8} {w0 : W0} {η : Nat → Option Nat × Value} {w : World} (hp : p = .val (.pointer none) ∨ p = .ptr 0 0) (hH : RepH w0 (hpB T p bs) (lt 2) η w) :
    ∃ k pv, (η 0).1 = some k ∧ (pv = .pointer none ∨ pv = .pointer (some ⟨k, 0, none⟩)) ∧ w.heap[k]? = some (.cells #[pv, (η 1).2] T (0, 0)) ∧ (η 1).1 = (η 1).2.ownBlock ∧ w.ownsRow 0 5 1 (η 1).2 bs.length (Lib.byteCells bs) ∧ (η 1).2.ownBlock ≠ some k := by
  obtain ⟨k, us, h1, h2, h3⟩ := hH.obs 0 _ rfl
  obtain ⟨cs, g1, g2, g3⟩ := hH.obs 1 _ rfl
  have g3 : RdF (Rd w _ (.int .u8)) (byI bs) cs := g3
  rw [byI_rd] at g3
  subst g3
  have g1 : (η 1).1 = (η 1).2.ownBlock := g1
  have h1 : (η 0).1 = some k := h1
  have h3 : RL (RC (cxS w0 (hpB T p bs) (lt 2) η w)) [p, .row 1] us.toList := h3
  obtain ⟨us⟩ := us
  match us, h3 with
  | [a, r], ⟨ha, hr, _⟩ =>
    have hr : r = (η 1).2 := hr.2.1
    subst hr
    have hne : (η 1).2.ownBlock ≠ some k := fun e => by
      have := hH.sep 0 1 k (by simp [lk]) (by simp [lk]) h1 (g1.trans e)
      cases this
    have ha' : a = .pointer none ∨ a = .pointer (some ⟨k, 0, none⟩) := by
      rcases hp with rfl | rfl
      · exact .inl ha.1
      · obtain ⟨_, k', e1, e2⟩ := ha
        obtain rfl : k' = k := Option.some.inj (e1.symm.trans h1)
        exact .inr e2
    refine ⟨k, a, h1, ha', h2, g1, ?_, hne⟩
    have : (byI bs).length = bs.length := by simp [byI]
    have g2 : w.ownsRow 0 5 1 (η 1).2 (byI bs).length (Lib.byteCells bs) := g2
    rw [this] at g2
    exact g2
theorem sb_WriteString (T : Nat) (hT : T ≠ 5) (hl : liesAt Try.prog Try.prog.depth T (2 / Try.prog.cellsOf T) 0 50 1 = true) (p : C) (hp : p = .val (.pointer none) ∨ p = .ptr 0 0) (bs s : List UInt8) (hb : bs.length + s.length ≤ 140737488355328) :
    FnP Try.prog 15 [.c (.ptr 0 0), .c (.str s)] (hpB T p bs) 2 kpB (.tup [(false, [.int .i64 s.length]), (false, [.val .nilIface])]) (hpC T (bs ++ s)) 3 := by
  refine ⟨⟨_, Try.func15, rfl, rfl⟩, fun w0 η vs hH hv => ?_⟩
  obtain ⟨k, pv, h1, h2, h3, g1, g2, g3⟩ := hpB_see hp hH
  obtain ⟨vs⟩ := vs
  match vs, hv with
  | [x, y], ⟨hx, hy, _⟩ =>
  obtain ⟨_, k', e1, rfl⟩ := hx
  have e1 : (η 0).1 = some k' := e1
  rw [h1] at e1
  cases e1
  have hy : y = .string ⟨s.toArray⟩ := hy
  subst hy
  have hsz : (⟨s.toArray⟩ : ByteArray).size = s.length := by simp [ByteArray.size]
  have hbl : (Lib.byteCells bs).length = bs.length := by simp [Lib.byteCells]
  refine (raw_write k T pv (η 1).2 (Lib.byteCells bs) ⟨s.toArray⟩ w0.w hT hl h2 h3 (by rw [hbl]; exact g2) g3 (by rw [hbl, hsz]; exact hb)).mono ?_
  rintro e w' ⟨rfl, hW⟩
  obtain ⟨v', r1, r2, r3, r4⟩ := hW.row
  rw [strCells_by, ← byteCells_app] at r2
  have hsl : ∃ A n c, v' = .slice A n c := by
    rcases r2.2 with ⟨hv, _⟩ | ⟨g, cap, cur, hv, _⟩
    · exact ⟨_, _, _, hv⟩
    · exact ⟨_, _, _, hv⟩
  have hlen : (Lib.byteCells (bs ++ s)).length = (byI (bs ++ s)).length := by simp [Lib.byteCells, byI]
  have hk := hH.new 0 k (by simp [lk]) h1
  have hrow : ∀ j, v'.ownBlock = some j → ¬ w0.old j ∧ j < w'.heap.size := fun j hj => by
    rcases r4 with e | h
    · have := hH.new 1 j (by simp [lk]) (g1.trans (by rw [← e]; exact hj))
      exact ⟨this.1, Nat.lt_of_lt_of_le this.2 hW.size⟩
    · exact ⟨fun ho => by have := (h j hj).1; have := ho.1; omega, (h j hj).2⟩
  refine ⟨_, upd η 2 (v'.ownBlock, v'), rfl, ?_, ⟨?_, ?_, ?_, ?_, ?_⟩, ?_⟩
  · intro q hq
    simp only [List.mem_singleton] at hq
    subst hq
    exact ⟨rfl, fun h => by cases h⟩
  · intro b o ho
    simp only [lk] at ho
    split at ho
    · rename_i e
      subst e
      cases ho
      refine ⟨k, _, h1, r1, ⟨⟨by show (0 : Nat) < 3; decide, k, h1, rfl⟩, ⟨by show (2 : Nat) < 3; decide, rfl, hsl⟩, trivial⟩⟩
    · split at ho
      · rename_i e
        subst e
        cases ho
        refine ⟨Lib.byteCells (bs ++ s), rfl, ?_, byI_rd.2 rfl⟩
        show w'.ownsRow 0 5 1 v' (byI (bs ++ s)).length _
        rw [← hlen]
        exact r2
      · cases ho
  · intro b c j hb hc e1 e2
    have two : ∀ d, lk (hpC T (bs ++ s)) d ≠ none → d = 0 ∨ d = 2 := fun d hd => by
      simp only [lk] at hd
      split at hd
      · exact .inl (by assumption)
      · split at hd
        · exact .inr (by assumption)
        · exact (hd rfl).elim
    rcases two b hb with rfl | rfl <;> rcases two c hc with rfl | rfl
    · rfl
    · have e1 : (η 0).1 = some j := e1
      have e2 : v'.ownBlock = some j := e2
      rw [h1] at e1
      cases e1
      exact (r3 e2).elim
    · have e2 : (η 0).1 = some j := e2
      have e1 : v'.ownBlock = some j := e1
      rw [h1] at e2
      cases e2
      exact (r3 e1).elim
    · rfl
  · intro b j hb e1
    simp only [lk] at hb
    split at hb
    · rename_i e
      subst e
      have e1 : (η 0).1 = some j := e1
      rw [h1] at e1
      cases e1
      exact ⟨hk.1, Nat.lt_of_lt_of_le hk.2 hW.size⟩
    · split at hb
      · rename_i e
        subst e
        exact hrow j e1
      · exact (hb rfl).elim
  · intro b hb
    simp only [lk] at hb
    show b < 3
    split at hb
    · omega
    · split at hb
      · omega
      · exact (hb rfl).elim
  · refine ⟨hW.os, hW.tape, hW.output, hW.size, fun j hj => hW.block j hj.1 (fun e => hk.1 (by rw [← e]; exact hj)) (fun e => ?_), hH.bel.gl⟩
    exact (hH.new 1 j (by simp [lk]) (g1.trans e.symm)).1 hj
  · refine ⟨_, rfl, ⟨_, rfl, ?_⟩, ⟨_, rfl, ?_⟩, trivial⟩
    · show Value.int .i64 _ = .int .i64 _
      rw [hsz]
    · exact ⟨rfl, rfl⟩
set_option maxHeartbeats 2000000 in
theorem raw_string (b T g cap : Nat) (p : Value) (l : List UInt8) (cur : Array Value) (w : World) (h0 : l ≠ []) (hbk : w.heap[b]? = some (.cells #[p, .slice (some ⟨g, 0, none⟩) l.length cap] T (0, 0)))
    (hg : w.heap[g]? = some (.cells cur 5 (0, 0))) (hnc : l.length ≤ cap) (hcm : cap ≤ maxLen) (hcs : cur.size = cap * 1) (hown : w.ownsRow 0 5 1 (.slice (some ⟨g, 0, none⟩) l.length cap) l.length (Lib.byteCells l)) :
    Calls Try.prog 19 #[.pointer (some ⟨b, 0, none⟩)] w fun e w' => e = .returned (.string ⟨l.toArray⟩) ∧ w' = w.drew.freeze ⟨g, 0, none⟩ l.length := by
  have hl0 : l.length ≠ 0 := by simpa using h0
  have c1 : w.drew.cell? ⟨b, 1, none⟩ = some (.slice (some ⟨g, 0, none⟩) l.length cap) := by
    have : w.drew.heap[b]? = some (.cells #[p, .slice (some ⟨g, 0, none⟩) l.length cap] T (0, 0)) := hbk
    rw [cell_heap this]; rfl
  have hSD : (Builtin.unsafeSliceData_ #[48] 102 #[.slice (some ⟨g, 0, none⟩) l.length cap]).run Try.prog w.drew = .ok (.pointer (some ⟨g, 0, none⟩)) w.drew :=
    Lib.run_unsafeSliceData_row _ _ _ _ _ _ (by omega)
  have hUS : (Builtin.unsafeString_ #[102, 3] 9 #[.pointer (some ⟨g, 0, none⟩), .int .i64 l.length]).run Try.prog w.drew = .ok (.string ⟨l.toArray⟩) (w.drew.freeze ⟨g, 0, none⟩ l.length) := by
    refine Lib.run_unsafeString_row w.drew 102 3 9 5 Try.underlying102 (by kernel_rfl) g cur.size (by have hg' : w.drew.heap[g]? = some (.cells cur 5 (0, 0)) := hg; simp [World.shape?, hg']) l h0 (by omega) (by unfold maxLen at hcm; omega) ?_
    intro j x hx
    have := hown.cells (g := g) rfl j (.int .u8 x.toNat) (by simp [Lib.byteCells, hx])
    exact this
  go_enter Try.func19, Try.ntmps19
  go_wp2
  go_region
  all_goals (go_wp2; go_ret; exact ⟨rfl, rfl⟩)
theorem sb_String (T : Nat) (p : C) (hp : p = .val (.pointer none) ∨ p = .ptr 0 0) (bs : List UInt8) (h0 : bs ≠ []) :
    FnP Try.prog 19 [.c (.ptr 0 0)] (hpB T p bs) 2 [] (.c (.str bs)) [] 2 := by
  refine ⟨⟨_, Try.func19, rfl, rfl⟩, fun w0 η vs hH hv => ?_⟩
  obtain ⟨k, pv, h1, h2, h3, g1, g2, g3⟩ := hpB_see hp hH
  obtain ⟨vs⟩ := vs
  match vs, hv with
  | [x], ⟨hx, _⟩ =>
  obtain ⟨_, k', e1, rfl⟩ := hx
  obtain rfl : k' = k := Option.some.inj (e1.symm.trans h1)
  have hl0 : bs.length ≠ 0 := by simpa using h0
  rcases g2.2 with ⟨_, hz⟩ | ⟨g, cap, cur, hv, _, hg, hnc, hcm, hcs, htake⟩
  · exact (hl0 hz).elim
  rw [hv] at h3 g2
  refine (raw_string k' T g cap pv bs cur w0.w h0 h3 hg hnc hcm hcs g2).mono ?_
  rintro e w' ⟨rfl, rfl⟩
  have hgn := hH.new 1 g (by simp [lk]) (by rw [g1, hv]; rfl)
  have hB := Lib.below_freeze (Below.drew (Below.refl 0 w0.w)) (p := ⟨g, 0, none⟩) (Nat.zero_le _) bs.length
  have hsame : ∀ j, j ≠ g → (w0.w.drew.freeze ⟨g, 0, none⟩ bs.length).heap[j]? = w0.w.heap[j]? := fun j hj => by
    unfold World.freeze
    split
    · rfl
    · simp only [Array.getElem?_modify]
      rw [if_neg (fun e => hj e.symm)]
      rfl
  refine ⟨_, η, rfl, fun q hq => (by cases hq), ⟨fun b o ho => (by cases ho), fun b c j hb => (hb rfl).elim, fun b j hb => (hb rfl).elim, fun b hb => (hb rfl).elim, ?_⟩, rfl⟩
  exact ⟨hB.os, hB.tape, hB.output, hB.size, fun j hj => hsame j (fun e => hgn.1 (by rw [← e]; exact hj)), hH.bel.gl⟩
def u64 (n : Int) : Nat := (IntKind.wrap .u64 n).toNat
theorem wrap_u64 (n : Int) : IntKind.wrap .u64 n = (u64 n : Int) ∧ u64 n < 18446744073709551616 := by
  have h : IntKind.wrap .u64 n = n % 18446744073709551616 := by simp [IntKind.wrap, IntKind.bits, IntKind.signed]
  unfold u64
  rw [h]
  omega
theorem u64_of {n : Int} (h0 : 0 ≤ n) (h1 : n < 18446744073709551616) : u64 n = n.toNat := by
  have h : IntKind.wrap .u64 n = n % 18446744073709551616 := by simp [IntKind.wrap, IntKind.bits, IntKind.signed]
  unfold u64
  rw [h]
  omega
theorem lies_w : liesAt Try.prog Try.prog.depth 52 (2 / Try.prog.cellsOf 52) 0 50 1 = true := by kernel_rfl
theorem ww_WriteString (p : C) (hp : p = .val (.pointer none) ∨ p = .ptr 0 0) (bs s : List UInt8) (hb : bs.length + s.length ≤ 140737488355328) :
    FnP Try.prog 15 [.c (.ptr 0 0), .c (.str s)] (hpB 52 p bs) 2 kpB (.tup [(false, [.int .i64 s.length]), (false, [.val .nilIface])]) (hpC 52 (bs ++ s)) 3 :=
  sb_WriteString 52 (by decide) lies_w p hp bs s hb
theorem writer_number0 (bs : List UInt8) (n : Int) (hb : bs.length ≤ 100000000) :
    FnP Try.prog 14 [.c (.ptr 0 0), .c (.int .i64 n)] (hpB 52 (.val (.pointer none)) bs) 2 kpB .un (hpC 52 (bs ++ Num.putN (u64 n))) 3 := by
  obtain ⟨e, hl⟩ := wrap_u64 n
  have hn := Num.putN_ten hl
  refine fnP noI Try.func14 rfl rfl rfl rfl ?_
  conv => whnf
  refine any0 ?_
  conv => whnf
  rw [e]
  refine callr0 (num_Put (u64 n) hl) rfl ?_
  conv => whnf
  refine callrp0 [0, 1] rfl rfl rfl (ww_WriteString (.val (.pointer none)) (.inl rfl) bs (Num.putN (u64 n)) (by omega)) rfl rfl rfl rfl rfl rfl [] rfl rfl ?_
  conv => whnf
  refine ⟨.inl (by kernel_rfl), after0 ?_⟩
  conv => whnf
  refine ⟨rfl, ?_, ?_, ?_⟩ <;> (repeat' apply And.intro) <;> first | exact trivial | rfl | assumption
theorem writer_number (bs : List UInt8) (n : Int) (hb : bs.length ≤ 100000000) :
    FnP Try.prog 14 [.c (.ptr 0 0), .c (.int .i64 n)] (hpB 52 (.ptr 0 0) bs) 2 kpB .un (hpC 52 (bs ++ Num.putN (u64 n))) 3 := by
  obtain ⟨e, hl⟩ := wrap_u64 n
  have hn := Num.putN_ten hl
  refine fnP noI Try.func14 rfl rfl rfl rfl ?_
  conv => whnf
  refine any0 ?_
  conv => whnf
  rw [e]
  refine callr0 (num_Put (u64 n) hl) rfl ?_
  conv => whnf
  refine callrp0 [0, 1] rfl rfl rfl (ww_WriteString (.ptr 0 0) (.inr rfl) bs (Num.putN (u64 n)) (by omega)) rfl rfl rfl rfl rfl rfl [] rfl rfl ?_
  conv => whnf
  refine ⟨.inl (by kernel_rfl), after0 ?_⟩
  conv => whnf
  refine ⟨rfl, ?_, ?_, ?_⟩ <;> (repeat' apply And.intro) <;> first | exact trivial | rfl | assumption
end Go.Proofs.Ytnldokebmfojeaa
/- The walk of num.Get. Own work. -/
set_option linter.unusedVariables false
namespace Go.Proofs.Ytnldokebmfojeaa
open Go Go.RowKit OE

def getR (o : Option (Nat × Nat)) : SV :=
  .tup [(false, [.int .u64 ((o.getD (0, 0)).1 : Nat)]), (false, [.int .i64 ((o.getD (0, 0)).2 : Nat)]), (false, [.bool (.sym o.isSome)])]

theorem get_bits (n c i : Nat) (hn : n < 128 ^ i) (hi : i ≤ 9) (hc : c < 256) (h9 : i = 9 → c ≤ 1) :
    bits .or .u64 (n : Int) (IntKind.wrap .u64 (IntKind.wrap .u64 (bits .and .u8 (c : Int) 127) * 2 ^ min (Int.toNat (IntKind.wrap .i64 (7 * (i : Int)))) IntKind.u64.bits)) = ((n + c % 128 * 128 ^ i : Nat) : Int) := by
  have hp : (128 : Nat) ^ i = 2 ^ (7 * i) := by rw [Nat.pow_mul]
  rw [hp] at hn ⊢
  have e1 : IntKind.wrap .i64 (7 * (i : Int)) = ((7 * i : Nat) : Int) := by rw [wr64 _ (by omega) (by omega)]; omega
  have e2 : min (Int.toNat ((7 * i : Nat) : Int)) IntKind.u64.bits = 7 * i := by
    show min (7 * i) 64 = _
    omega
  have hb : n + c % 128 * 2 ^ (7 * i) < 18446744073709551616 := by
    by_cases h : i = 9
    · subst h
      have : c % 128 ≤ 1 := by have := h9 rfl; omega
      have : c % 128 * 2 ^ (7 * 9) ≤ 1 * 2 ^ (7 * 9) := Nat.mul_le_mul_right _ this
      omega
    · have h1 : c % 128 * 2 ^ (7 * i) ≤ 127 * 2 ^ (7 * i) := Nat.mul_le_mul_right _ (by omega)
      have h2 : (2 : Nat) ^ (7 * i) ≤ 2 ^ 56 := Nat.pow_le_pow_right (by omega) (by omega)
      omega
  rw [e1, e2, and127 c hc, wru64 ((c % 128 : Nat) : Int) (by omega) (by omega)]
  have e3 : ((c % 128 : Nat) : Int) * 2 ^ (7 * i) = ((c % 128 * 2 ^ (7 * i) : Nat) : Int) := by
    rw [Int.natCast_mul, Int.natCast_pow]; rfl
  rw [e3, wru64 _ (by omega) (by omega)]
  exact or_apart n (c % 128) (7 * i) hn hb

theorem num_Get (s : List UInt8) (at_ : Int) (hs : s.length ≤ 4611686018427387904) : FnD Try.prog 43 [.c (.str s), .c (.int .i64 at_)] (· = getR (Num.getN s at_)) := by
  refine fn0 Try.func43 rfl rfl rfl ?_
  conv => whnf
  refine ⟨fun h1 => ?_, fun h1 => ?_⟩
  · conv => whnf
    simp at h1
    have : Num.getN s at_ = none := by unfold Num.getN; rw [if_pos (by omega)]
    rw [this]; rfl
  conv => whnf
  simp at h1
  obtain ⟨a, rfl⟩ := Int.eq_ofNat_of_zero_le h1.1
  have hget : Num.getN s a = Num.getL (s.drop a) 0 0 := by
    unfold Num.getN; rw [if_neg (by omega)]; rfl
  refine loop0 (α := Nat × Nat) (fun p => p.1 ≤ 9 ∧ p.2 < 128 ^ p.1 ∧ a + p.1 ≤ s.length ∧ Num.getL (s.drop (a + p.1)) p.1 p.2 = Num.getL (s.drop a) 0 0)
    (fun p => ⟨[(0, .c (.str s)), (1, .c (.int .i64 a)), (4, .c (.int .u64 p.2)), (7, .c (.int .i64 p.1))], [], 0⟩) (fun p => 10 - p.1) ⟨(0, 0), ⟨by simp, by simp, by dsimp only; omega, rfl⟩, ?_⟩ ?_
  · conv => whnf
    exact ⟨rfl, ⟨rfl, rfl, rfl, rfl, trivial⟩, trivial, trivial⟩
  · rintro ⟨i, n⟩ ⟨hI1, hI3, hI4, hI5⟩
    dsimp only at hI1 hI3 hI4 hI5 ⊢
    have e1 : IntKind.wrap .i64 ((a : Int) + i) = (a + i : Nat) := by rw [wr64 _ (by omega) (by omega)]; omega
    conv => whnf
    rw [e1]
    refine ⟨fun h1 => ?_, fun h1 => ?_⟩
    · simp at h1
      have hlt : a + i < s.length := by omega
      have hb : bt s ((a + i : Nat) : Int) = ((s[a + i]).toNat : Int) := bt_nat s (a + i) hlt
      have hL : Num.getL (s.drop (a + i)) i n = if i = 9 ∧ s[a + i].toNat ≠ 1 ∨ s[a + i].toNat = 0 ∧ 0 < i then none
          else if s[a + i].toNat < 128 then some (n + s[a + i].toNat % 128 * 128 ^ i, i + 1) else Num.getL (s.drop (a + (i + 1))) (i + 1) (n + s[a + i].toNat % 128 * 128 ^ i) := by
        rw [List.drop_eq_getElem_cons hlt]
        rfl
      have hc := (s[a + i]).toNat_lt
      generalize s[a + i].toNat = c at hb hL hc
      conv => whnf
      refine ⟨by rw [e1]; omega, ?_⟩
      rw [e1, hb]
      conv => whnf
      have hnone : (i = 9 ∧ c ≠ 1 ∨ c = 0 ∧ 0 < i) → Num.getN s a = none := by
        intro h
        rw [hget, ← hI5, hL, if_pos h]
      have e7 : IntKind.wrap .i64 (7 * (i : Int)) = ((7 * i : Nat) : Int) := by rw [wr64 _ (by omega) (by omega)]; omega
      have e8 : IntKind.wrap .i64 ((i : Int) + 1) = ((i + 1 : Nat) : Int) := by rw [wr64 _ (by omega) (by omega)]; omega
      refine ⟨fun h2 => ?_, fun h2 => ?_⟩
      · simp at h2
        conv => whnf
        rw [hnone (by omega)]
        rfl
      simp at h2
      conv => whnf
      refine ⟨fun h3 => ?_, fun h3 => ?_⟩
      · simp at h3
        conv => whnf
        rw [hnone (by omega)]
        rfl
      simp at h3
      have h9 : i = 9 → c ≤ 1 := by omega
      have hok : ¬ (i = 9 ∧ c ≠ 1 ∨ c = 0 ∧ 0 < i) := by omega
      rw [if_neg hok] at hL
      conv => whnf
      refine ⟨by rw [e7]; omega, ?_⟩
      conv => whnf
      rw [get_bits n c i hI3 hI1 hc h9]
      refine ⟨fun h5 => ?_, fun h5 => ?_⟩
      · conv => whnf
        simp at h5
        rw [if_pos (by omega)] at hL
        rw [hget, ← hI5, hL, e8]
        rfl
      · simp at h5
        conv => whnf
        rw [if_neg (by omega)] at hL
        refine ⟨(i + 1, n + c % 128 * 128 ^ i), ⟨⟨by dsimp only; omega, ?_, by dsimp only; omega, by rw [← hL]; exact hI5⟩, by dsimp only; omega⟩, ?_⟩
        · have h1 : c % 128 * 128 ^ i ≤ 127 * 128 ^ i := Nat.mul_le_mul_right _ (by omega)
          dsimp only
          rw [Nat.pow_succ]
          omega
        conv => whnf
        exact ⟨rfl, ⟨rfl, rfl, rfl, e8.symm, trivial⟩, trivial, trivial⟩
    · conv => whnf
      simp at h1
      rw [hget, ← hI5, List.drop_of_length_le (by omega)]
      rfl
end Go.Proofs.Ytnldokebmfojeaa
/- The walks of num.GetInt and num.GetText. Own work. -/
set_option linter.unusedVariables false
namespace Go.Proofs.Ytnldokebmfojeaa
open Go Go.RowKit OE

def getIntR (o : Option (Nat × Nat)) : SV :=
  .tup [(false, [.int .i64 (Num.zag (o.getD (0, 0)).1)]), (false, [.int .i64 ((o.getD (0, 0)).2 : Nat)]), (false, [.bool (.sym o.isSome)])]

theorem getN_lt (s : List UInt8) (at_ : Int) : ((Num.getN s at_).getD (0, 0)).1 < 2 ^ 64 := by
  cases h : Num.getN s at_ with
  | none => decide
  | some p => exact (Num.getN_bd (m := p.1) (k := p.2) h).1

theorem getint_bits (u : Nat) (hu : u < 2 ^ 64) :
    bits .xor .i64 (IntKind.wrap .i64 ((u : Int) / 2 ^ min (Int.toNat 1) IntKind.u64.bits)) (IntKind.wrap .i64 (0 - IntKind.wrap .i64 (bits .and .u64 (u : Int) 1))) = Num.zag u := by
  have e1 : IntKind.wrap .i64 ((u : Int) / 2 ^ min (Int.toNat 1) IntKind.u64.bits) = ((u / 2 : Nat) : Int) := by
    show IntKind.wrap .i64 ((u : Int) / 2 ^ 1) = _
    rw [wr64 _ (by omega) (by omega)]; omega
  have e2 : bits .and .u64 (u : Int) 1 = ((u % 2 : Nat) : Int) := by
    rw [show (1 : Int) = ((1 : Nat) : Int) from rfl, u64_and_nat u 1 (by omega) (by omega), nat_mask1]
  rw [e1, e2, wr64 ((u % 2 : Nat) : Int) (by omega) (by omega), wr64 _ (by omega) (by omega)]
  unfold Num.zag
  split
  · rename_i h
    rw [h]
    exact xor64_zero _ (by omega) (by omega)
  · have h : u % 2 = 1 := by omega
    rw [h]
    exact xor64_one _ (by omega) (by omega)

theorem num_GetInt (s : List UInt8) (at_ : Int) (hs : s.length ≤ 4611686018427387904) : FnD Try.prog 84 [.c (.str s), .c (.int .i64 at_)] (· = getIntR (Num.getN s at_)) := by
  refine fn0 Try.func84 rfl rfl rfl ?_
  conv => whnf
  refine call1 (num_Get s at_ hs) rfl ?_
  conv => whnf
  refine ⟨by decide, ?_⟩
  conv => whnf
  rw [getint_bits _ (getN_lt s at_)]
  rfl

def getTextR (o : Option (List UInt8 × Nat)) : SV :=
  .tup [(false, [.str (o.getD ([], 0)).1]), (false, [.int .i64 ((o.getD ([], 0)).2 : Nat)]), (false, [.bool (.sym o.isSome)])]

theorem num_GetText (s : List UInt8) (at_ most : Int) (hs : s.length ≤ 4611686018427387904) (hm : most ≤ 9223372036854775807) :
    FnD Try.prog 50 [.c (.str s), .c (.int .i64 at_), .c (.int .i64 most)] (· = getTextR (Num.getT s at_ most)) := by
  refine fn0 Try.func50 rfl rfl rfl ?_
  conv => whnf
  refine call1 (num_Get s at_ hs) rfl ?_
  conv => whnf
  unfold Num.getT
  cases hg : Num.getN s at_ with
  | none =>
    refine ⟨fun _ => ?_, fun h => by simp at h⟩
    conv => whnf
    rfl
  | some p =>
    obtain ⟨n, k⟩ := p
    obtain ⟨hb1, hb2, hb3, hb4, hb5⟩ := Num.getN_bd hg
    obtain ⟨a, rfl⟩ := Int.eq_ofNat_of_zero_le hb4
    rw [show ((a : Nat) : Int).toNat = a from rfl] at hb5 ⊢
    dsimp only [Option.getD_some, Option.isSome_some]
    have e1 : IntKind.wrap .i64 (IntKind.wrap .i64 ((s.length : Int) - a) - k) = ((s.length - a - k : Nat) : Int) := by
      rw [wr64 ((s.length : Int) - a) (by omega) (by omega), wr64 _ (by omega) (by omega)]; omega
    have e0 := wru64 ((s.length - a - k : Nat) : Int) (by omega) (by omega)
    have hw : 0 ≤ most → IntKind.wrap .u64 most = most := fun h => wru64 most h (by omega)
    refine ⟨fun h1 => ?_, fun h1 => ?_⟩
    · simp [e1, e0] at h1
      conv => whnf
      rw [if_pos (by
        rcases h1 with (h1 | h1) | h1
        · exact .inl h1
        · by_cases hm0 : most < 0
          · exact .inl hm0
          · rw [hw (by omega)] at h1; exact .inr (.inl h1)
        · exact .inr (.inr (by omega)))]
      rfl
    simp [e1, e0] at h1
    obtain ⟨⟨h1, h2⟩, h3⟩ := h1
    rw [hw h1] at h2
    have e2 : IntKind.wrap .i64 ((a : Int) + k) = ((a + k : Nat) : Int) := by rw [wr64 _ (by omega) (by omega)]; omega
    have e3 : IntKind.wrap .i64 (IntKind.wrap .i64 ((a : Int) + k) + IntKind.wrap .i64 n) = ((a + k + n : Nat) : Int) := by
      rw [e2, wr64 (n : Int) (by omega) (by omega), wr64 _ (by omega) (by omega)]; omega
    conv => whnf
    refine ⟨?_, ?_⟩
    · rw [e3, e2]; omega
    conv => whnf
    rw [if_neg (by omega), e3, e2]
    have e4 : IntKind.wrap .i64 (((a + k + n : Nat) : Int) - a) = ((k + n : Nat) : Int) := by rw [wr64 _ (by omega) (by omega)]; omega
    rw [e4]
    have e5 : ((s.take (a + k + n)).drop (a + k)) = ((s.drop a).drop k).take n := by
      rw [List.drop_take, List.drop_drop]
      congr 1
      omega
    rw [← e5]
    rfl
end Go.Proofs.Ytnldokebmfojeaa
/- The walks of num.PutInt and num.PutText. Own work. -/
set_option linter.unusedVariables false
namespace Go.Proofs.Ytnldokebmfojeaa
open Go Go.RowKit OE

theorem putint_bits (n : Int) (h0 : -9223372036854775808 ≤ n) (h1 : n ≤ 9223372036854775807) :
    bits .xor .u64 (IntKind.wrap .u64 (IntKind.wrap .u64 n * 2 ^ min (Int.toNat 1) IntKind.u64.bits)) (IntKind.wrap .u64 (n / 2 ^ min (Int.toNat 63) IntKind.i64.bits)) = ((Num.zig n : Nat) : Int) := by
  have e1 : IntKind.wrap .u64 (IntKind.wrap .u64 n * 2 ^ min (Int.toNat 1) IntKind.u64.bits) = ((2 * n) % 18446744073709551616) := by
    rw [wru64m, wru64m]
    show (_ * 2 ^ 1) % _ = _
    omega
  have e2 : n / 2 ^ min (Int.toNat 63) IntKind.i64.bits = if 0 ≤ n then 0 else -1 := by
    show n / 2 ^ 63 = _
    split <;> omega
  rw [e1, e2]
  unfold Num.zig
  by_cases h : 0 ≤ n
  · rw [if_pos h, if_pos h]
    obtain ⟨m, rfl⟩ := Int.eq_ofNat_of_zero_le h
    have e3 : (2 * (m : Int)) % 18446744073709551616 = ((2 * m : Nat) : Int) := by omega
    have e4 : IntKind.wrap .u64 0 = ((0 : Nat) : Int) := rfl
    rw [e3, e4, u64_xor_nat _ _ (by omega) (by omega), Nat.xor_zero]
    omega
  · rw [if_neg h, if_neg h]
    have e3 : (2 * n) % 18446744073709551616 = (((2 * n + 18446744073709551616).toNat : Nat) : Int) := by omega
    have e4 : IntKind.wrap .u64 (-1) = ((18446744073709551615 : Nat) : Int) := rfl
    rw [e3, e4, u64_xor_nat _ _ (by omega) (by omega), xor_max _ (by omega)]
    omega
theorem zig_bd (n : Int) (h0 : -9223372036854775808 ≤ n) (h1 : n ≤ 9223372036854775807) : Num.zig n < 18446744073709551616 := by
  unfold Num.zig
  split <;> omega

theorem num_PutInt (n : Int) (h0 : -9223372036854775808 ≤ n) (h1 : n ≤ 9223372036854775807) : FnD Try.prog 79 [.c (.int .i64 n)] (· = .c (.str (Num.putZ n))) := by
  refine fn0 Try.func79 rfl rfl rfl ?_
  conv => whnf
  refine ⟨by decide, ?_⟩
  conv => whnf
  refine ⟨by decide, ?_⟩
  conv => whnf
  rw [putint_bits n h0 h1]
  refine call1 (num_Put _ (zig_bd n h0 h1)) rfl ?_
  conv => whnf
  rfl

theorem num_PutText (s : List UInt8) (hs : s.length ≤ 140737488355327) : FnD Try.prog 16 [.c (.str s)] (· = .c (.str (Num.putT s))) := by
  refine fn0 Try.func16 rfl rfl rfl ?_
  conv => whnf
  rw [wru64 _ (by omega) (by omega)]
  have hp := Num.putN_ten (n := s.length) (by omega)
  refine call1 (num_Put _ (by omega)) rfl ?_
  conv => whnf
  refine ⟨by omega, ?_⟩
  conv => whnf
  rfl
end Go.Proofs.Ytnldokebmfojeaa
/- The walks of the reference's Put, PutInt, PutText. Own work. -/
set_option linter.unusedVariables false
namespace Go.Proofs.Ytnldokebmfojeaa
open Go Go.RowKit OE

end Go.Proofs.Ytnldokebmfojeaa
/- The walks of the reference's Get, GetInt, GetText. Own work. -/
set_option linter.unusedVariables false
namespace Go.Proofs.Ytnldokebmfojeaa
open Go Go.RowKit OE

def gotR (o : Option (Nat × Nat)) : SV := .agg [.int .u64 ((o.getD (0, 0)).1 : Nat), .int .i64 ((o.getD (0, 0)).2 : Nat), .bool (.sym o.isSome)]
def gotIntR (o : Option (Nat × Nat)) : SV := .agg [.int .i64 (Num.zag (o.getD (0, 0)).1), .int .i64 ((o.getD (0, 0)).2 : Nat), .bool (.sym o.isSome)]
def gotTextR (o : Option (List UInt8 × Nat)) : SV := .agg [.str (o.getD ([], 0)).1, .int .i64 ((o.getD ([], 0)).2 : Nat), .bool (.sym o.isSome)]

theorem refget_bits (n c i : Nat) (hn : n < 128 ^ i) (hi : i ≤ 9) (hc : c < 256) (h9 : i = 9 → c ≤ 1) :
    IntKind.wrap .u64 ((n : Int) + IntKind.wrap .u64 ((c : Int).tmod 128 * ((128 ^ i : Nat) : Int))) = ((n + c % 128 * 128 ^ i : Nat) : Int) := by
  have hb : n + c % 128 * 128 ^ i < 18446744073709551616 := by
    by_cases h : i = 9
    · subst h
      have : c % 128 ≤ 1 := by have := h9 rfl; omega
      have : c % 128 * 128 ^ 9 ≤ 1 * 128 ^ 9 := Nat.mul_le_mul_right _ this
      omega
    · have h1 : c % 128 * 128 ^ i ≤ 127 * 128 ^ i := Nat.mul_le_mul_right _ (by omega)
      have h2 : (128 : Nat) ^ i ≤ 128 ^ 8 := Nat.pow_le_pow_right (by omega) (by omega)
      omega
  have e1 : (c : Int).tmod 128 * ((128 ^ i : Nat) : Int) = ((c % 128 * 128 ^ i : Nat) : Int) := by
    rw [Int.tmod_eq_emod_of_nonneg (by omega), Int.natCast_mul]; rfl
  rw [e1, wru64 ((c % 128 * 128 ^ i : Nat) : Int) (by omega) (by omega), wru64 _ (by omega) (by omega)]
  omega

end Go.Proofs.Ytnldokebmfojeaa
/- The walks of the reference's GetInt and GetText. Own work. -/
set_option linter.unusedVariables false
namespace Go.Proofs.Ytnldokebmfojeaa
open Go Go.RowKit OE

end Go.Proofs.Ytnldokebmfojeaa
/- The order of texts; no program in sight. Own work. -/
set_option linter.unusedVariables false
set_option maxRecDepth 100000
namespace Go.Proofs.Ytnldokebmfojeaa
open Go Go.RowKit OE

theorem bytesLess_irr : ∀ x : List UInt8, Op.bytesLess x x = false
  | [] => rfl
  | a :: l => by simp [Op.bytesLess, bytesLess_irr l]
theorem bl_trans : ∀ {a b c : List UInt8}, Op.bytesLess a b = true → Op.bytesLess b c = true → Op.bytesLess a c = true
  | [], [], _, h, _ => by cases h
  | [], _ :: _, [], _, h => by cases h
  | [], _ :: _, _ :: _, _, _ => rfl
  | _ :: _, [], _, h, _ => by cases h
  | _ :: _, _ :: _, [], _, h => by cases h
  | x :: a, y :: b, z :: c, h1, h2 => by
    simp only [Op.bytesLess, Bool.or_eq_true, Bool.and_eq_true, decide_eq_true_eq, beq_iff_eq] at h1 h2 ⊢
    rcases h1 with h1 | ⟨rfl, h1⟩
    · rcases h2 with h2 | ⟨rfl, h2⟩
      · exact .inl (UInt8.lt_trans h1 h2)
      · exact .inl h1
    · rcases h2 with h2 | ⟨rfl, h2⟩
      · exact .inl h2
      · exact .inr ⟨rfl, bl_trans h1 h2⟩
theorem bl_tri : ∀ (a b : List UInt8), Op.bytesLess a b = true ∨ a = b ∨ Op.bytesLess b a = true
  | [], [] => .inr (.inl rfl)
  | [], _ :: _ => .inl rfl
  | _ :: _, [] => .inr (.inr rfl)
  | x :: a, y :: b => by
    simp only [Op.bytesLess, Bool.or_eq_true, Bool.and_eq_true, decide_eq_true_eq, beq_iff_eq]
    by_cases h : x < y
    · exact .inl (.inl h)
    · by_cases h2 : y < x
      · exact .inr (.inr (.inl h2))
      · have e : x = y := UInt8.le_antisymm (UInt8.not_lt.1 h2) (UInt8.not_lt.1 h)
        subst e
        rcases bl_tri a b with h | rfl | h
        · exact .inl (.inr ⟨rfl, h⟩)
        · exact .inr (.inl rfl)
        · exact .inr (.inr (.inr ⟨rfl, h⟩))

theorem bl_not (p q : List UInt8) : (Op.bytesLess p q || decide (p = q)) = !Op.bytesLess q p := by
  rcases bl_tri p q with h | h | h
  · have : Op.bytesLess q p = false := by
      cases h2 : Op.bytesLess q p with
      | false => rfl
      | true => have := bl_trans h h2; rw [bytesLess_irr] at this; cases this
    rw [h, this]; rfl
  · subst h; rw [bytesLess_irr]; simp
  · have h1 : Op.bytesLess p q = false := by
      cases h2 : Op.bytesLess p q with
      | false => rfl
      | true => have := bl_trans h h2; rw [bytesLess_irr] at this; cases this
    have h2 : p ≠ q := fun e => by subst e; rw [bytesLess_irr] at h; cases h
    rw [h, h1, decide_eq_false h2]; rfl
theorem not_t {b : Bool} (h : (!b) = true) : b = false := by cases b <;> first | rfl | cases h
theorem not_f {b : Bool} (h : (!b) = false) : b = true := by cases b <;> first | rfl | cases h
end Go.Proofs.Ytnldokebmfojeaa
/- The walks of hedgerowkeep: values, properties, rules. Own work. -/
set_option linter.unusedVariables false
set_option maxRecDepth 100000
namespace Go.Proofs.Ytnldokebmfojeaa
open Go Go.RowKit OE

/-- a value: kind, number, text -/
abbrev VD : D := .pair (.int .i64) (.pair (.int .i64) .str)
abbrev vc (v : VD.T) : List C := [.int .i64 v.1, .int .i64 v.2.1, .str v.2.2]
/-- a property: name, value -/
abbrev PD : D := .pair .str VD
abbrev RD : D := .pair (.int .i64) (.pair (.int .i64) (.pair .str (.pair .str (.pair .str (.pair .str (.pair (.int .i64) (.int .i64)))))))
abbrev rc (r : RD.T) : List C := [.int .i64 r.1, .int .i64 r.2.1, .str r.2.2.1, .str r.2.2.2.1, .str r.2.2.2.2.1, .str r.2.2.2.2.2.1, .int .i64 r.2.2.2.2.2.2.1, .int .i64 r.2.2.2.2.2.2.2]

theorem keep_Value (v w : VD.T) : FnD Try.prog 81 [.agg (vc v), .agg (vc w)] (· = .c (.bool (.sym (VD.eqb v w)))) := by
  refine fn0 Try.func81 rfl rfl rfl ?_
  conv => whnf
  simp [D.eqb, Bool.and_assoc]

theorem PD_eqb (x y : PD.T) : PD.eqb x y = (decide (x.1 = y.1) && VD.eqb x.2 y.2) := rfl

theorem keep_Props (a b : List PD.T) : FnD Try.prog 68 [.c (.dat PD a), .c (.dat PD b)] (· = .c (.bool (.sym (eqL PD.eqb a b)))) := by
  refine fn0 Try.func68 rfl rfl rfl ?_
  conv => whnf
  intro ha
  conv => whnf
  intro hb
  refine ⟨fun h1 => ?_, fun h1 => ?_⟩
  · conv => whnf
    rw [eqL_len (by simp at h1; omega)]
  have h1 : a.length = b.length := by simp at h1; omega
  conv => whnf
  refine loop0 (α := Nat) (fun i => i ≤ a.length ∧ eqL PD.eqb (a.drop i) (b.drop i) = eqL PD.eqb a b)
    (fun i => ⟨[(0, .c (.dat PD a)), (1, .c (.dat PD b)), (5, .c (.int .i64 i))], [], 0⟩) (fun i => a.length - i) ⟨0, ⟨by omega, rfl⟩, ?_⟩ ?_
  · (conv => whnf); refine ⟨rfl, ?_, ?_, ?_⟩ <;> (repeat' apply And.intro) <;> first | exact trivial | rfl | exact wr_succ _ (by omega) | assumption | exact decide_eq_false (by assumption) | exact decide_eq_true (by assumption)
  · rintro i ⟨hI1, hI2⟩
    conv => whnf
    intro _
    refine ⟨fun h2 => ?_, fun h2 => ?_⟩
    · have h2 : i < a.length := by simp at h2; omega
      conv => whnf
      have hb2 : i < b.length := by omega
      rw [eqL_step h2 hb2, PD_eqb] at hI2
      refine any0 ?_
      conv => whnf
      try (intro _; conv => whnf)
      refine ⟨by omega, ?_⟩
      rw [gt_nat (d := PD) a i h2]
      conv => whnf
      try (intro _; conv => whnf)
      refine ⟨by omega, ?_⟩
      rw [gt_nat (d := PD) b i hb2]
      conv => whnf
      try (intro _; conv => whnf)
      refine ⟨fun _ => by omega, ?_⟩
      rw [gt_nat (d := PD) a i h2]
      conv => whnf
      try (intro _; conv => whnf)
      refine ⟨fun _ => by omega, ?_⟩
      rw [gt_nat (d := PD) b i hb2]
      conv => whnf
      refine callrg0 (fun _ => keep_Value a[i].2 b[i].2) rfl ?_
      conv => whnf
      refine ⟨.inl (by kernel_rfl), after0 ?_⟩
      conv => whnf
      refine ⟨fun h4 => ?_, fun h4 => ?_⟩
      · conv => whnf
        have : (decide (a[i].1 = b[i].1) && VD.eqb a[i].2 b[i].2) = false := by rw [Bool.and_eq_false_iff]; simpa using h4
        rw [← hI2, this, Bool.false_and]
      · conv => whnf
        have : (decide (a[i].1 = b[i].1) && VD.eqb a[i].2 b[i].2) = true := by simpa using h4
        refine ⟨i + 1, ⟨⟨by omega, ?_⟩, by omega⟩, ?_⟩
        · rw [← hI2, this, Bool.true_and]
        · (conv => whnf); refine ⟨rfl, ?_, ?_, ?_⟩ <;> (repeat' apply And.intro) <;> first | exact trivial | rfl | exact wr_succ _ (by omega) | assumption | exact decide_eq_false (by assumption) | exact decide_eq_true (by assumption)
    · conv => whnf
      rw [← hI2, eqL_end (by simp at h2; omega) (by simp at h2; omega)]

theorem keep_Rule (v w : RD.T) : FnD Try.prog 57 [.agg (rc v), .agg (rc w)] (· = .c (.bool (.sym (RD.eqb v w)))) := by
  refine fn0 Try.func57 rfl rfl rfl ?_
  conv => whnf
  simp [D.eqb, Bool.and_assoc]

theorem keep_LargeValue (v : VD.T) : FnD Try.prog 63 [.agg (vc v)] (· = .c (.bool (.sym (decide ((5000 : Int) < v.2.2.length))))) := by
  refine fn0 Try.func63 rfl rfl rfl ?_
  conv => whnf

def largeP (p : PD.T) : Bool := decide ((1000 : Int) < p.1.length) || decide ((5000 : Int) < p.2.2.2.length)
def largeProps (l : List PD.T) : Bool := decide ((60 : Int) < l.length) || l.any largeP
theorem keep_LargeProps (l : List PD.T) : FnD Try.prog 41 [.c (.dat PD l)] (· = .c (.bool (.sym (largeProps l)))) := by
  refine fn0 Try.func41 rfl rfl rfl ?_
  conv => whnf
  intro hl
  refine ⟨fun h1 => ?_, fun h1 => ?_⟩
  · conv => whnf
    simp only [largeProps, h1, Bool.true_or]
  have hm : largeProps l = l.any largeP := by simp only [largeProps, h1, Bool.false_or]
  rw [hm]
  conv => whnf
  refine loop0 (α := Nat) (fun i => i ≤ l.length ∧ (l.drop i).any largeP = l.any largeP)
    (fun i => ⟨[(0, .c (.dat PD l)), (3, .c (.int .i64 i))], [], 0⟩) (fun i => l.length - i) ⟨0, ⟨by omega, rfl⟩, ?_⟩ ?_
  · (conv => whnf); refine ⟨rfl, ?_, ?_, ?_⟩ <;> (repeat' apply And.intro) <;> first | exact trivial | rfl | exact wr_succ _ (by omega) | assumption | exact decide_eq_false (by assumption) | exact decide_eq_true (by assumption)
  · rintro i ⟨hI1, hI2⟩
    conv => whnf
    intro _
    refine ⟨fun h2 => ?_, fun h2 => ?_⟩
    · have h2 : i < l.length := by simp at h2; omega
      rw [any_step h2] at hI2
      conv => whnf
      try (intro _; conv => whnf)
      refine ⟨by omega, ?_⟩
      rw [gt_nat (d := PD) l i h2]
      conv => whnf
      try (intro _; conv => whnf)
      refine ⟨fun _ => by omega, ?_⟩
      rw [gt_nat (d := PD) l i h2]
      conv => whnf
      refine callg0 (fun _ => keep_LargeValue l[i].2) rfl ?_
      conv => whnf
      refine ⟨fun h3 => ?_, fun h3 => ?_⟩
      · conv => whnf
        simp only [← hI2, largeP, h3, Bool.true_or]
      · conv => whnf
        refine ⟨i + 1, ⟨⟨by omega, ?_⟩, by omega⟩, ?_⟩
        · rw [← hI2]; simp only [largeP, h3, Bool.false_or]
        · (conv => whnf); refine ⟨rfl, ?_, ?_, ?_⟩ <;> (repeat' apply And.intro) <;> first | exact trivial | rfl | exact wr_succ _ (by omega) | assumption | exact decide_eq_false (by assumption) | exact decide_eq_true (by assumption)
    · conv => whnf
      rw [← hI2, any_end (by simp at h2; omega)]
end Go.Proofs.Ytnldokebmfojeaa
/- The walks of val.Good, of the three methods behind it, and of the reference's Good and Blank. Own work. -/
set_option linter.unusedVariables false
set_option maxRecDepth 100000
namespace Go.Proofs.Ytnldokebmfojeaa
open Go Go.RowKit OE

def good1 (v : VD.T) : Bool := (decide (v.2.1 = 0) || decide (v.2.1 = 1)) && decide (v.2.2 = [])
def good3 (v : VD.T) : Bool := decide (v.2.1 = 0) && decide ((v.2.2.length : Int) ≤ 1024)
def goodV (v : VD.T) : Bool := if v.1 = 1 then good1 v else if v.1 = 2 then decide (v.2.2 = []) else if v.1 = 3 then good3 v else false
def blankV (v : VD.T) : Bool := decide (v.1 = 0) && decide (v.2.1 = 0) && decide (v.2.2 = [])

theorem own_bool (v : VD.T) : FnD Try.prog 69 [.agg (vc v)] (· = .c (.bool (.sym (good1 v)))) := by
  refine fn0 Try.func69 rfl rfl rfl ?_
  conv => whnf
  rfl
theorem own_int (v : VD.T) : FnD Try.prog 70 [.agg (vc v)] (· = .c (.bool (.sym (decide (v.2.2 = []))))) := by
  refine fn0 Try.func70 rfl rfl rfl ?_
  conv => whnf
theorem own_text (v : VD.T) : FnD Try.prog 71 [.agg (vc v)] (· = .c (.bool (.sym (good3 v)))) := by
  refine fn0 Try.func71 rfl rfl rfl ?_
  conv => whnf
  rfl

theorem val_Good (v : VD.T) (hk : (Lit.int .i64 v.1).wf = true) : FnD Try.prog 58 [.agg (vc v)] (· = .c (.bool (.sym (goodV v)))) := by
  refine fn0 Try.func58 rfl rfl rfl ?_
  conv => whnf
  refine ⟨by decide, ?_⟩
  conv => whnf
  refine ⟨by decide, ?_⟩
  conv => whnf
  refine ⟨by decide, ?_⟩
  conv => whnf
  refine ⟨hk, ⟨fun h1 => ?_, fun h1 => ⟨fun h2 => ?_, fun h2 => ⟨fun h3 => ?_, fun h3 => ?_⟩⟩⟩⟩
  · conv => whnf
    refine call1 (own_bool v) rfl ?_
    conv => whnf
    simp at h1; simp [goodV, h1]
  · conv => whnf
    refine call1 (own_int v) rfl ?_
    conv => whnf
    simp at h1 h2; simp [goodV, h2]
  · conv => whnf
    refine call1 (own_text v) rfl ?_
    conv => whnf
    simp at h1 h2 h3; simp [goodV, h3]
  · conv => whnf
    simp at h1 h2 h3; simp [goodV, h1, h2, h3]

end Go.Proofs.Ytnldokebmfojeaa
/- The walks of val.Name and of the reference's Name. Own work. -/
set_option linter.unusedVariables false
set_option maxRecDepth 100000
namespace Go.Proofs.Ytnldokebmfojeaa
open Go Go.RowKit OE

/-- a byte that a name may hold; one that it may begin with -/
def nameB (c : UInt8) : Bool := (decide (97 ≤ c.toNat) && decide (c.toNat ≤ 122)) || (decide (48 ≤ c.toNat) && decide (c.toNat ≤ 57)) || decide (c.toNat = 95)
def name1 (c : UInt8) : Bool := decide (97 ≤ c.toNat) && decide (c.toNat ≤ 122)
def nameS (s : List UInt8) : Bool := decide (1 ≤ s.length) && decide (s.length ≤ 16) && (match s with | [] => false | c :: _ => name1 c) && s.all nameB

theorem nameS_eq : ∀ {s : List UInt8} (h : 0 < s.length), s.length ≤ 16 → nameS s = (name1 s[0] && s.all nameB)
  | [], h, _ => by simp at h
  | c :: t, _, h => by
    have e2 : decide ((c :: t).length ≤ 16) = true := by simpa using h
    have e1 : decide (1 ≤ (c :: t).length) = true := by simp
    unfold nameS
    rw [e1, e2]
    rfl
theorem nameS_no {s : List UInt8} (h : s.length < 1 ∨ 16 < s.length) : nameS s = false := by
  unfold nameS
  rcases h with h | h
  · simp; omega
  · simp; omega
theorem nameB_ok (c : UInt8) : nameB c = !((decide ((c.toNat : Int) < 97) || decide (122 < (c.toNat : Int))) && (decide ((c.toNat : Int) < 48) || decide (57 < (c.toNat : Int))) && !decide ((c.toNat : Int) = 95)) := by
  rw [Bool.eq_iff_iff]; simp [nameB]; omega

theorem val_Name (s : List UInt8) : FnD Try.prog 37 [.c (.str s)] (· = .c (.bool (.sym (nameS s)))) := by
  refine fn0 Try.func37 rfl rfl rfl ?_
  conv => whnf
  refine ⟨fun h => by simp at h; omega, ?_⟩
  conv => whnf
  refine ⟨fun h => by simp at h; omega, ?_⟩
  conv => whnf
  refine ⟨fun h1 => ?_, fun h1 => ?_⟩
  · conv => whnf
    by_cases hl : s.length < 1 ∨ 16 < s.length
    · rw [nameS_no hl]
    · have hlen : 0 < s.length := by omega
      rw [nameS_eq hlen (by omega)]
      have hb0 : bt s 0 = ((s[0]).toNat : Int) := bt_nat s 0 hlen
      rw [hb0] at h1
      have : name1 s[0] = false := by simp at h1; simp [name1]; omega
      rw [this, Bool.false_and]
  have hlen : 0 < s.length ∧ s.length ≤ 16 := by simp at h1; omega
  have hb0 : bt s 0 = ((s[0]).toNat : Int) := bt_nat s 0 hlen.1
  have hS := nameS_eq hlen.1 hlen.2
  rw [hb0] at h1
  have h0 : name1 s[0] = true := by simp at h1; simp [name1]; omega
  rw [h0, Bool.true_and] at hS
  rw [hS]
  conv => whnf
  refine loop0 (α := Nat) (fun i => i ≤ s.length ∧ (s.drop i).all nameB = s.all nameB) (fun i => ⟨[(0, .c (.str s)), (24, .c (.int .i64 s.length)), (25, .c (.int .i64 i))], [], 0⟩) (fun i => s.length - i) ⟨0, ⟨by omega, rfl⟩, ?_⟩ ?_
  · (conv => whnf); refine ⟨rfl, ?_, ?_, ?_⟩ <;> (repeat' apply And.intro) <;> first | exact trivial | rfl | exact wr_succ _ (by omega) | assumption | exact decide_eq_false (by assumption) | exact decide_eq_true (by assumption)
  · rintro i ⟨hI1, hI2⟩
    conv => whnf
    refine ⟨fun h5 => ?_, fun h5 => ?_⟩
    · have h5 : i < s.length := by simp at h5; omega
      have hbi : bt s ((i : Nat) : Int) = ((s[i]).toNat : Int) := bt_nat s i h5
      rw [all_step h5] at hI2
      conv => whnf
      refine ⟨by omega, ?_⟩
      rw [hbi]
      conv => whnf
      refine ⟨fun h6 => ?_, fun h6 => ?_⟩
      · conv => whnf
        have : nameB s[i] = false := by rw [nameB_ok, h6]; rfl
        rw [← hI2, this, Bool.false_and]
      · conv => whnf
        have : nameB s[i] = true := by rw [nameB_ok, h6]; rfl
        refine ⟨i + 1, ⟨⟨by omega, ?_⟩, by omega⟩, ?_⟩
        · rw [← hI2, this, Bool.true_and]
        · (conv => whnf); refine ⟨rfl, ?_, ?_, ?_⟩ <;> (repeat' apply And.intro) <;> first | exact trivial | rfl | exact wr_succ _ (by omega) | assumption | exact decide_eq_false (by assumption) | exact decide_eq_true (by assumption)
    · conv => whnf
      rw [← hI2, all_end (by simp at h5; omega)]

end Go.Proofs.Ytnldokebmfojeaa
/- The walks of val.Props and of the reference's. Own work. -/
set_option linter.unusedVariables false
set_option maxRecDepth 100000
namespace Go.Proofs.Ytnldokebmfojeaa
open Go Go.RowKit OE

theorem name_len {s : List UInt8} (h : nameS s = true) : s.length ≤ 16 := by
  unfold nameS at h
  simp only [Bool.and_eq_true, decide_eq_true_eq] at h
  exact h.1.1.2
def pv (l : List PD.T) (i : Nat) : List UInt8 := (gt (d := PD) l ((i : Int) - 1)).1
/-- is the i-th property good where it stands? -/
def goodAt (l : List PD.T) (i : Nat) : Bool := nameS (gt (d := PD) l i).1 && goodV (gt (d := PD) l i).2 && (!decide ((0 : Int) < i) || Op.bytesLess (pv l i) (gt (d := PD) l i).1)
def propsS (l : List PD.T) : Bool := !decide ((8 : Int) < l.length) && (List.range l.length).all (goodAt l)

theorem val_Props (l : List PD.T) (hl : ∀ p ∈ l, (Lit.int .i64 p.2.1).wf = true) : FnD Try.prog 38 [.c (.dat PD l)] (· = .c (.bool (.sym (propsS l)))) := by
  refine fn0 Try.func38 rfl rfl rfl ?_
  conv => whnf
  intro _
  refine ⟨fun h0 => ?_, fun h0 => ?_⟩
  · conv => whnf
    rw [propsS, h0]; rfl
  have hP : propsS l = (List.range l.length).all (goodAt l) := by rw [propsS, h0]; rfl
  simp at h0
  rw [hP]
  conv => whnf
  intro _
  conv => whnf
  refine loop0 (α := Nat) (fun i => i ≤ l.length ∧ ((List.range l.length).drop i).all (goodAt l) = (List.range l.length).all (goodAt l))
    (fun i => ⟨[(0, .c (.dat PD l)), (8, .c (.dat PD l)), (9, .c (.int .i64 l.length)), (10, .c (.int .i64 i))], [], 0⟩) (fun i => l.length - i) ⟨0, ⟨by omega, rfl⟩, ?_⟩ ?_
  · (conv => whnf); refine ⟨rfl, ?_, ?_, ?_⟩ <;> (repeat' apply And.intro) <;> first | exact trivial | rfl | exact wr_succ _ (by omega) | assumption | exact decide_eq_false (by assumption) | exact decide_eq_true (by assumption)
  rintro i ⟨hI1, hI2⟩
  conv => whnf
  refine ⟨fun h2 => ?_, fun h2 => ?_⟩
  · have h2 : i < l.length := by simp at h2; omega
    rw [all_step (by rw [List.length_range]; exact h2), List.getElem_range] at hI2
    have hg : gt (d := PD) l (i : Int) = l[i] := gt_nat (d := PD) l i h2
    have hA : goodAt l i = (nameS l[i].1 && goodV l[i].2 && (!decide ((0 : Int) < i) || Op.bytesLess (pv l i) l[i].1)) := by unfold goodAt; rw [hg]
    have hw : IntKind.wrap .i64 ((i : Int) - 1) = (i : Int) - 1 := wr64 _ (by omega) (by omega)
    conv => whnf
    try (intro _; conv => whnf)
    refine ⟨by omega, ?_⟩
    rw [gt_nat (d := PD) l i h2]
    conv => whnf
    refine any0 ?_
    conv => whnf
    refine callr0 (val_Name l[i].1) rfl ?_
    conv => whnf
    refine callrg0 (fun _ => val_Good l[i].2 (hl l[i] (List.getElem_mem h2))) rfl ?_
    conv => whnf
    refine ⟨fun h => by have := h.2; simp at this; rw [hw]; omega, ?_⟩
    conv => whnf
    rw [hw]
    refine ⟨.inl (by kernel_rfl), after0 ?_⟩
    conv => whnf
    have hc : (!nameS l[i].1 || !goodV l[i].2 || (decide ((0 : Int) < i) && (Op.bytesLess l[i].1 (pv l i) || decide (l[i].1 = pv l i)))) = !goodAt l i := by
      rw [bl_not, hA]
      cases nameS l[i].1 <;> cases goodV l[i].2 <;> cases decide ((0 : Int) < i) <;> cases Op.bytesLess (pv l i) l[i].1 <;> rfl
    refine ⟨fun h3 => ?_, fun h3 => ?_⟩
    · have h3 : goodAt l i = false := by have h3' := hc.symm.trans h3; simpa using h3'
      rw [h3, Bool.false_and] at hI2
      conv => whnf
      rw [← hI2]
    · have h3 : goodAt l i = true := by have h3' := hc.symm.trans h3; simpa using h3'
      rw [h3, Bool.true_and] at hI2
      conv => whnf
      refine ⟨i + 1, ⟨⟨by omega, hI2⟩, by omega⟩, ?_⟩
      (conv => whnf); refine ⟨rfl, ?_, ?_, ?_⟩ <;> (repeat' apply And.intro) <;> first | exact trivial | rfl | exact wr_succ _ (by omega) | assumption | exact decide_eq_false (by assumption) | exact decide_eq_true (by assumption)
  · conv => whnf
    rw [← hI2, List.drop_of_length_le (by rw [List.length_range]; simp at h2; omega)]
    rfl

end Go.Proofs.Ytnldokebmfojeaa
/- The walks of val.Encode and of the reference's. Own work. -/
set_option linter.unusedVariables false
set_option maxRecDepth 100000
namespace Go.Proofs.Ytnldokebmfojeaa
open Go Go.RowKit OE

/-- a kind's byte -/
def kb (k : Int) : List UInt8 := byl [IntKind.wrap .u8 k]
/-- a value's bytes -/
def encV (v : VD.T) : List UInt8 :=
  if blankV v = true then kb v.1
  else if goodV v = true then (if v.1 = 1 then kb v.1 ++ byl [IntKind.wrap .u8 v.2.1] else if v.1 = 2 then kb v.1 ++ Num.putZ v.2.1 else kb v.1 ++ Num.putT v.2.2)
  else []
theorem putZ_len (n : Int) (h0 : -9223372036854775808 ≤ n) (h1 : n ≤ 9223372036854775807) : (Num.putZ n).length ≤ 10 := Num.putN_ten (zig_bd n h0 h1)
theorem good_len {v : VD.T} (h : goodV v = true) : v.2.2.length ≤ 1024 := by
  unfold goodV at h
  split at h
  · simp [good1] at h; rw [h.2]; simp
  · split at h
    · simp at h; rw [h]; simp
    · split at h
      · simp only [good3, Bool.and_eq_true, decide_eq_true_eq] at h; omega
      · cases h
theorem blank_eq (v : VD.T) : VD.eqb v (0, 0, []) = blankV v := by
  simp [D.eqb, blankV, Bool.and_assoc]

theorem val_Encode (v : VD.T) (hv : Wf VD v) : FnD Try.prog 65 [.agg (vc v)] (· = .c (.str (encV v))) := by
  refine fn0 Try.func65 rfl rfl rfl ?_
  conv => whnf
  refine eqs0 VD (p := v) (q := (0, 0, [])) 100 rfl (by kernel_rfl) rfl (by kernel_rfl) rfl rfl rfl ?_
  rw [blank_eq]
  conv => whnf
  refine ⟨fun h1 => ?_, fun h1 => ?_⟩
  · conv => whnf
    simp [encV, h1, kb]
  conv => whnf
  refine call1 (val_Good v hv.1) rfl ?_
  conv => whnf
  refine ⟨fun h2 => ?_, fun h2 => ?_⟩
  · conv => whnf
    simp at h2
    simp [encV, h1, h2]
  simp at h2
  have hl := good_len h2
  have hE : encV v = if v.1 = 1 then kb v.1 ++ byl [IntKind.wrap .u8 v.2.1] else if v.1 = 2 then kb v.1 ++ Num.putZ v.2.1 else kb v.1 ++ Num.putT v.2.2 := by
    unfold encV; rw [if_neg (by simp [h1]), if_pos h2]
  rw [hE]
  conv => whnf
  refine ⟨fun h3 => ?_, fun h3 => ?_⟩
  · simp at h3
    rw [if_pos h3]
    conv => whnf
    refine ⟨by show 1 + 1 ≤ _; omega, ?_⟩
    conv => whnf
    rfl
  simp at h3
  rw [if_neg h3]
  conv => whnf
  refine ⟨fun h4 => ?_, fun h4 => ?_⟩
  · simp at h4
    rw [if_pos h4]
    have hz := wf_i64 hv.2.1
    have hzl := putZ_len v.2.1 hz.1 hz.2
    conv => whnf
    refine call1 (num_PutInt v.2.1 hz.1 hz.2) rfl ?_
    conv => whnf
    refine ⟨by show 1 + _ ≤ _; omega, ?_⟩
    conv => whnf
    rfl
  · simp at h4
    rw [if_neg h4]
    conv => whnf
    refine call1 (num_PutText v.2.2 (Nat.le_trans hl (by decide))) rfl ?_
    conv => whnf
    refine ⟨by
      show 1 + (Num.putT v.2.2).length ≤ _
      have := Num.putN_ten (n := v.2.2.length) (Nat.lt_of_le_of_lt hl (by decide))
      unfold Num.putT
      rw [List.length_append]
      omega, ?_⟩
    conv => whnf
    rfl

end Go.Proofs.Ytnldokebmfojeaa
/- The walks of val.EncodeProps and of the reference's. Own work. -/
set_option linter.unusedVariables false
set_option maxRecDepth 100000
namespace Go.Proofs.Ytnldokebmfojeaa
open Go Go.RowKit OE

/-- a property's bytes; properties' bytes -/
def enc1 (p : PD.T) : List UInt8 := Num.putT p.1 ++ encV p.2
def encL (l : List PD.T) : List UInt8 := (l.map enc1).flatten
def encPs (l : List PD.T) : List UInt8 := if propsS l = true then Num.putN l.length ++ encL l else []
def errPs (l : List PD.T) : Int := if propsS l = true then 0 else 142

theorem props_all {l : List PD.T} (h : propsS l = true) : l.length ≤ 8 ∧ ∀ p ∈ l, nameS p.1 = true ∧ goodV p.2 = true := by
  simp only [propsS, Bool.and_eq_true, Bool.not_eq_true', decide_eq_false_iff_not] at h
  refine ⟨by omega, fun p hp => ?_⟩
  obtain ⟨i, hi, rfl⟩ := List.getElem_of_mem hp
  have := List.all_eq_true.1 h.2 i (by simpa using hi)
  have hg : gt (d := PD) l (i : Int) = l[i] := gt_nat (d := PD) l i hi
  simp only [goodAt, hg, Bool.and_eq_true] at this
  exact this.1
theorem encV_len {v : VD.T} (hv : Wf VD v) : (encV v).length ≤ 1040 := by
  have hz := wf_i64 hv.2.1
  have hzl := putZ_len v.2.1 hz.1 hz.2
  unfold encV
  split
  · show 1 ≤ _; omega
  · split
    · rename_i hg
      have hl := good_len hg
      split
      · show 1 + 1 ≤ _; omega
      · split
        · rw [List.length_append]; show 1 + _ ≤ _; omega
        · rw [List.length_append]
          have := Num.putN_ten (n := v.2.2.length) (Nat.lt_of_le_of_lt hl (by decide))
          unfold Num.putT
          rw [List.length_append]
          show 1 + _ ≤ _; omega
    · simp
theorem enc1_len {p : PD.T} (hp : Wf PD p) (hn : p.1.length ≤ 16) : (enc1 p).length ≤ 1066 := by
  have := encV_len hp.2
  have := Num.putN_ten (n := p.1.length) (Nat.lt_of_le_of_lt hn (by decide))
  unfold enc1 Num.putT
  rw [List.length_append, List.length_append]
  have hn : List.length p.1 ≤ 16 := hn
  omega
theorem encL_len : ∀ {l : List PD.T}, (∀ p ∈ l, Wf PD p ∧ p.1.length ≤ 16) → (encL l).length ≤ l.length * 1066
  | [], _ => by simp [encL]
  | p :: l, h => by
    have h1 := enc1_len (h p (by simp)).1 (h p (by simp)).2
    have h2 := encL_len (l := l) fun q hq => h q (by simp [hq])
    unfold encL at h2 ⊢
    rw [List.map_cons, List.flatten_cons, List.length_append, List.length_cons, Nat.add_mul]
    omega
theorem encL_step {l : List PD.T} {i : Nat} (h : i < l.length) : encL (l.take (i + 1)) = encL (l.take i) ++ enc1 l[i] := by
  rw [take_step h]
  unfold encL
  rw [List.map_append, List.flatten_append]
  simp only [List.map_cons, List.map_nil, List.flatten_cons, List.flatten_nil, List.append_nil]

theorem val_EncodeProps (l : List PD.T) (hl : Wf (.list PD) l) : FnD Try.prog 47 [.c (.dat PD l)] (· = .tup [(false, [.str (encPs l)]), (false, [.int .i64 (errPs l)])]) := by
  refine fn0 Try.func47 rfl rfl rfl ?_
  conv => whnf
  refine call1 (val_Props l (fun p hp => (hl.2 p hp).2.1)) rfl ?_
  conv => whnf
  refine ⟨fun h1 => ?_, fun h1 => ?_⟩
  · conv => whnf
    simp at h1
    simp [encPs, errPs, h1]
  simp at h1
  obtain ⟨hn, hall⟩ := props_all h1
  have hE : encPs l = Num.putN l.length ++ encL l := if_pos h1
  have hR : errPs l = 0 := if_pos h1
  rw [hE, hR]
  have hbd : ∀ i, (encL (l.take i)).length ≤ 8528 := fun i => by
    refine Nat.le_trans (encL_len fun p hp => ⟨hl.2 p (List.mem_of_mem_take hp), name_len (hall p (List.mem_of_mem_take hp)).1⟩) ?_
    rw [List.length_take]; omega
  have hpl := Num.putN_ten (n := l.length) (by omega)
  have hcat : ∀ i (h : i < l.length), (Num.putT l[i].1).length + (encV l[i].2).length ≤ 1066 := fun i h => by
    have := enc1_len (hl.2 l[i] (List.getElem_mem h)) (name_len (hall l[i] (List.getElem_mem h)).1)
    unfold enc1 at this
    rw [List.length_append] at this
    exact this
  have hnl : ∀ i (h : i < l.length), l[i].1.length ≤ 140737488355327 := fun i h => Nat.le_trans (name_len (hall l[i] (List.getElem_mem h)).1) (by decide)
  conv => whnf
  intro _
  conv => whnf
  rw [wru64 _ (by omega) (by omega)]
  refine call1 (num_Put l.length (by omega)) rfl ?_
  conv => whnf
  intro _
  conv => whnf
  refine loop0 (α := Nat) (fun i => i ≤ l.length) (fun i => ⟨[(4, .c (.str (Num.putN l.length ++ encL (l.take i)))), (14, .c (.dat PD l)), (15, .c (.int .i64 l.length)), (16, .c (.int .i64 i))], [], 0⟩) (fun i => l.length - i) ⟨0, by omega, ?_⟩ ?_
  · (conv => whnf); exact ⟨rfl, ⟨by simp [encL], rfl, rfl, rfl, trivial⟩, trivial, trivial⟩
  intro i hI
  have hb := hbd i
  conv => whnf
  refine ⟨fun h2 => ?_, fun h2 => ?_⟩
  · have h2 : i < l.length := by simp at h2; omega
    have hc := hcat i h2
    conv => whnf
    try (intro _; conv => whnf)
    refine ⟨by omega, ?_⟩
    rw [gt_nat (d := PD) l i h2]
    conv => whnf
    refine any0 ?_
    conv => whnf
    refine callr0 (num_PutText l[i].1 (hnl i h2)) rfl ?_
    conv => whnf
    refine callr0 (val_Encode l[i].2 (hl.2 l[i] (List.getElem_mem h2)).2) rfl ?_
    conv => whnf
    refine ⟨by omega, ?_⟩
    conv => whnf
    refine ⟨by rw [List.length_append, List.length_append]; omega, ?_⟩
    conv => whnf
    refine ⟨.inl (by kernel_rfl), after0 ?_⟩
    conv => whnf
    refine ⟨i + 1, ⟨by omega, by omega⟩, ?_⟩
    rw [encL_step h2]
    (conv => whnf); exact ⟨rfl, ⟨by rw [← List.append_assoc]; rfl, rfl, rfl, wr_succ _ (by omega), trivial⟩, trivial, trivial⟩
  · conv => whnf
    rw [List.take_of_length_le (by simp at h2; omega)]
end Go.Proofs.Ytnldokebmfojeaa
/- The walks of val.Decode and of the reference's. Own work. -/
set_option linter.unusedVariables false
set_option maxRecDepth 100000
namespace Go.Proofs.Ytnldokebmfojeaa
open Go Go.RowKit OE

/-- the value that stands somewhere, and its size -/
def decB (s : List UInt8) (k : Int) : Option (VD.T × Nat) :=
  if bt s k = 0 then some ((0, 0, []), 1)
  else if bt s k = 1 then (if k + 1 < s.length ∧ bt s (k + 1) ≤ 1 then some ((1, bt s (k + 1), []), 2) else none)
  else if bt s k = 2 then (match Num.getN s (k + 1) with | none => none | some p => some ((2, Num.zag p.1, []), p.2 + 1))
  else if bt s k = 3 then (match Num.getT s (k + 1) 1024 with | none => none | some p => some ((3, 0, p.1), p.2 + 1))
  else none
def decV (s : List UInt8) (k : Int) : Option (VD.T × Nat) := if k < 0 ∨ (s.length : Int) ≤ k then none else decB s k
theorem getT_bd {s : List UInt8} {k m : Int} {t : List UInt8} {i : Nat} (h : Num.getT s k m = some (t, i)) : 0 ≤ k ∧ k + i ≤ s.length := by
  unfold Num.getT at h
  cases hg : Num.getN s k with
  | none => rw [hg] at h; cases h
  | some p =>
    have hb := Num.getN_bd (m := p.1) (k := p.2) hg
    rw [hg] at h
    dsimp only at h
    split at h
    · cases h
    · simp only [Option.some.injEq, Prod.mk.injEq] at h
      omega
def V0 : VD.T := VD.df
def decVR (o : Option (VD.T × Nat)) : SV := .tup [(true, vc (o.getD (V0, 0)).1), (false, [.int .i64 ((o.getD (V0, 0)).2 : Nat)]), (false, [.bool (.sym o.isSome)])]

theorem val_Decode (s : List UInt8) (k : Int) (hs : s.length ≤ 100000000) : FnD Try.prog 80 [.c (.str s), .c (.int .i64 k)] (· = decVR (decV s k)) := by
  refine fn0 Try.func80 rfl rfl rfl ?_
  conv => whnf
  refine ⟨fun h1 => ?_, fun h1 => ?_⟩
  · conv => whnf
    simp at h1
    have : decV s k = none := by unfold decV; rw [if_pos h1]
    rw [this]
    rfl
  simp at h1
  have hD : decV s k = decB s k := by unfold decV; rw [if_neg (by omega)]
  rw [hD]
  unfold decB
  have hb := bt_rng s k
  have e1 : IntKind.wrap .i64 (bt s k) = bt s k := wr64 _ (by omega) (by omega)
  have e2 : IntKind.wrap .i64 (k + 1) = k + 1 := wr64 _ (by omega) (by omega)
  conv => whnf
  refine ⟨by omega, ?_⟩
  conv => whnf
  rw [e1]
  refine ⟨fun h2 => ?_, fun h2 => ?_⟩
  · simp at h2
    rw [if_pos h2, h2]
    conv => whnf
    rfl
  simp at h2
  rw [if_neg h2]
  conv => whnf
  refine ⟨fun h3 => ?_, fun h3 => ?_⟩
  · simp at h3
    rw [if_pos h3, h3]
    conv => whnf
    rw [e2]
    refine ⟨fun h4 => ?_, fun h4 => ?_⟩
    · simp at h4
      conv => whnf
      have hb1 := bt_rng s (k + 1)
      have e3 : IntKind.wrap .i64 (bt s (k + 1)) = bt s (k + 1) := wr64 _ (by omega) (by omega)
      refine any0 ?_
      conv => whnf
      rw [e2]
      refine ⟨by omega, ?_⟩
      conv => whnf
      try rw [e3]
      refine ⟨by omega, ?_⟩
      conv => whnf
      refine ⟨.inl (by kernel_rfl), after0 ?_⟩
      conv => whnf
      try rw [e2]
      refine ⟨fun h5 => ?_, fun h5 => ?_⟩
      · try rw [e2] at h5
        simp at h5
        rw [if_neg (by omega)]
        conv => whnf
        rfl
      · try rw [e2] at h5
        simp at h5
        rw [if_pos ⟨h4, h5⟩]
        conv => whnf
        rfl
    · simp at h4
      rw [if_neg (by omega)]
      conv => whnf
      rfl
  simp at h3
  rw [if_neg h3]
  conv => whnf
  refine ⟨fun h4 => ?_, fun h4 => ?_⟩
  · simp at h4
    rw [if_pos h4, h4]
    conv => whnf
    rw [e2]
    refine call1 (num_GetInt s (k + 1) (by omega)) rfl ?_
    conv => whnf
    cases hg : Num.getN s (k + 1) with
    | none =>
      refine tk rfl ?_
      conv => whnf
      rfl
    | some p =>
      have hbd := Num.getN_bd (m := p.1) (k := p.2) hg
      refine fk rfl ?_
      conv => whnf
      have e4 : IntKind.wrap .i64 ((p.2 : Nat) + 1 : Int) = ((p.2 + 1 : Nat) : Int) := by rw [wr64 _ (by omega) (by omega)]; omega
      show SV.tup [(true, [.int .i64 2, .int .i64 (Num.zag p.1), .str []]), (false, [.int .i64 (IntKind.wrap .i64 ((p.2 : Nat) + 1 : Int))]), (false, [.bool (.sym true)])] = _
      rw [e4]
      rfl
  simp at h4
  rw [if_neg h4]
  conv => whnf
  refine ⟨fun h5 => ?_, fun h5 => ?_⟩
  · simp at h5
    rw [if_pos h5, h5]
    conv => whnf
    rw [e2]
    refine call1 (num_GetText s (k + 1) 1024 (by omega) (by decide)) rfl ?_
    conv => whnf
    cases hg : Num.getT s (k + 1) 1024 with
    | none =>
      refine tk rfl ?_
      conv => whnf
      rfl
    | some p =>
      have hbd := getT_bd (t := p.1) (i := p.2) hg
      refine fk rfl ?_
      conv => whnf
      have e4 : IntKind.wrap .i64 ((p.2 : Nat) + 1 : Int) = ((p.2 + 1 : Nat) : Int) := by rw [wr64 _ (by omega) (by omega)]; omega
      show SV.tup [(true, [.int .i64 3, .int .i64 0, .str p.1]), (false, [.int .i64 (IntKind.wrap .i64 ((p.2 : Nat) + 1 : Int))]), (false, [.bool (.sym true)])] = _
      rw [e4]
      rfl
  · simp at h5
    rw [if_neg h5]
    conv => whnf
    rfl

def decVA (o : Option (VD.T × Nat)) : SV := .agg (vc (o.getD (V0, 0)).1 ++ [.int .i64 ((o.getD (V0, 0)).2 : Nat), .bool (.sym o.isSome)])

end Go.Proofs.Ytnldokebmfojeaa
/- What properties' bytes say; no program in sight. Own work. -/
set_option linter.unusedVariables false
set_option maxRecDepth 100000
namespace Go.Proofs.Ytnldokebmfojeaa
open Go Go.RowKit OE

/-- n properties that stand from a place on, and how many bytes they have -/
def decL : Nat → List UInt8 → Int → Option (List PD.T × Nat)
  | 0, _, _ => some ([], 0)
  | n + 1, s, k => match Num.getT s k 16 with
    | none => none
    | some (t, i) => match decV s (k + i) with
      | none => none
      | some (v, j) => match decL n s (k + i + j) with
        | none => none
        | some (l, m) => some ((t, v) :: l, i + j + m)
def decPs (s : List UInt8) (k : Int) : Option (List PD.T × Nat) := match Num.getN s k with
  | none => none
  | some (n, i) => if 8 < n then none else match decL n s (k + i) with
    | none => none
    | some (l, m) => if propsS l = true then some (l, i + m) else none

/-- properties behind those that were read already -/
def joinD (done : List PD.T) (z : Nat) : Option (List PD.T × Nat) → Option (List PD.T × Nat)
  | none => none
  | some (l, m) => some (done ++ l, z + m)
theorem joinD_step (n : Nat) (s : List UInt8) (k : Int) (done : List PD.T) (z : Nat) : joinD done z (decL (n + 1) s k) = match Num.getT s k 16 with
    | none => none
    | some (t, i) => match decV s (k + i) with
      | none => none
      | some (v, j) => joinD (done ++ [(t, v)]) (z + (i + j)) (decL n s (k + i + j)) := by
  rw [decL]
  cases Num.getT s k 16 with
  | none => rfl
  | some p =>
    dsimp only
    cases decV s (k + p.2) with
    | none => rfl
    | some q =>
      dsimp only
      cases decL n s (k + p.2 + q.2) with
      | none => rfl
      | some r =>
        simp only [joinD, List.append_assoc, List.singleton_append, Nat.add_assoc]
theorem joinD_nil (o : Option (List PD.T × Nat)) : joinD [] 0 o = o := by
  cases o with
  | none => rfl
  | some p => simp [joinD]
theorem decV_bd {s : List UInt8} {k : Int} {v : VD.T} {j : Nat} (h : decV s k = some (v, j)) : 0 ≤ k ∧ k + j ≤ s.length := by
  unfold decV at h
  split at h
  · cases h
  · rename_i hr
    unfold decB at h
    split at h
    · simp only [Option.some.injEq, Prod.mk.injEq] at h; omega
    · split at h
      · split at h
        · rename_i h2; simp only [Option.some.injEq, Prod.mk.injEq] at h; omega
        · cases h
      · split at h
        · cases hg : Num.getN s (k + 1) with
          | none => rw [hg] at h; cases h
          | some p =>
            have hb := Num.getN_bd (m := p.1) (k := p.2) hg
            rw [hg] at h
            simp only [Option.some.injEq, Prod.mk.injEq] at h
            omega
        · split at h
          · cases hg : Num.getT s (k + 1) 1024 with
            | none => rw [hg] at h; cases h
            | some p =>
              have hb := getT_bd (t := p.1) (i := p.2) hg
              rw [hg] at h
              simp only [Option.some.injEq, Prod.mk.injEq] at h
              omega
          · cases h
theorem decV_kind {s : List UInt8} {k : Int} {v : VD.T} {j : Nat} (h : decV s k = some (v, j)) : (Lit.int .i64 v.1).wf = true := by
  unfold decV at h
  split at h
  · cases h
  · unfold decB at h
    split at h
    · simp only [Option.some.injEq, Prod.mk.injEq] at h; rw [← h.1]; rfl
    · split at h
      · split at h
        · simp only [Option.some.injEq, Prod.mk.injEq] at h; rw [← h.1]; rfl
        · cases h
      · split at h
        · cases hg : Num.getN s (k + 1) with
          | none => rw [hg] at h; cases h
          | some p =>
            rw [hg] at h
            simp only [Option.some.injEq, Prod.mk.injEq] at h
            rw [← h.1]; rfl
        · split at h
          · cases hg : Num.getT s (k + 1) 1024 with
            | none => rw [hg] at h; cases h
            | some p =>
              rw [hg] at h
              simp only [Option.some.injEq, Prod.mk.injEq] at h
              rw [← h.1]; rfl
          · cases h
end Go.Proofs.Ytnldokebmfojeaa
/- The walk of val.DecodeProps. Own work. -/
set_option linter.unusedVariables false
set_option maxRecDepth 100000
namespace Go.Proofs.Ytnldokebmfojeaa
open Go Go.RowKit OE

def decPR (o : Option (List PD.T × Nat)) (r : SV) : Prop := ∃ c, (c = .dat PD (o.getD ([], 0)).1 ∨ ((o.getD ([], 0)).1 = [] ∧ c = .val (.slice none 0 0))) ∧
  r = .tup [(false, [c]), (false, [.int .i64 ((o.getD ([], 0)).2 : Nat)]), (false, [.bool (.sym o.isSome)])]
def dpSt (s : List UInt8) (k : Int) (n j z : Nat) : List PD.T → St
  | [] => ⟨[(0, .c (.str s)), (1, .c (.int .i64 k)), (4, .c (.val (.slice none 0 0))), (5, .c (.int .i64 z)), (25, .c (.int .u64 n)), (26, .c (.int .u64 j))], [], 0⟩
  | x :: xs => ⟨[(0, .c (.str s)), (1, .c (.int .i64 k)), (4, .c (.row 0)), (5, .c (.int .i64 z)), (25, .c (.int .u64 n)), (26, .c (.int .u64 j))], [(0, .row 121 PD (x :: xs))], 1⟩

theorem val_DecodeProps' (s : List UInt8) (k : Int) (hs : s.length ≤ 100000000) : FnD Try.prog 67 [.c (.str s), .c (.int .i64 k)] (decPR (decPs s k)) := by
  refine fn0 Try.func67 rfl rfl rfl ?_
  conv => whnf
  refine call1 (num_Get s k (by omega)) rfl ?_
  conv => whnf
  unfold decPs
  cases hg : Num.getN s k with
  | none =>
    refine tk rfl ?_
    conv => whnf
    exact ⟨_, .inr ⟨rfl, rfl⟩, rfl⟩
  | some p =>
    obtain ⟨n, i0⟩ := p
    obtain ⟨b1, b2, b3, b4, b5⟩ := Num.getN_bd hg
    dsimp only [Option.getD_some, Option.isSome_some]
    refine ⟨fun h1 => ?_, fun h1 => ?_⟩
    · simp at h1
      rw [if_pos (by omega)]
      conv => whnf
      exact ⟨_, .inr ⟨rfl, rfl⟩, rfl⟩
    simp at h1
    rw [if_neg (by omega)]
    conv => whnf
    refine loop0 (α := Nat × List PD.T × Nat) (fun p => p.1 ≤ n ∧ p.2.1.length = p.1 ∧ i0 ≤ p.2.2 ∧ k + p.2.2 ≤ s.length ∧ joinD p.2.1 (p.2.2 - i0) (decL (n - p.1) s (k + p.2.2)) = decL n s (k + i0) ∧ ∀ q ∈ p.2.1, (Lit.int .i64 q.2.1).wf = true)
      (fun p => dpSt s k n p.1 p.2.2 p.2.1) (fun p => n - p.1) ⟨(0, [], i0), ⟨by simp, rfl, Nat.le_refl _, by dsimp only; omega, by simp only [Nat.sub_self, Nat.sub_zero]; exact joinD_nil _, by simp⟩, ?_⟩ ?_
    · (conv => whnf); refine ⟨rfl, ?_, ?_, ?_⟩ <;> (repeat' apply And.intro) <;> first | exact trivial | rfl | exact wr_succ _ (by omega) | assumption | exact decide_eq_false (by assumption) | exact decide_eq_true (by assumption)
    rintro ⟨j, done, z⟩ ⟨hI1, hI2, hI3, hI4, hI5, hI6⟩
    dsimp only at hI1 hI2 hI3 hI4 hI5 hI6 ⊢
    cases done with
    | nil =>
      conv => whnf
      refine ⟨fun h2 => ?_, fun h2 => ?_⟩
      · have h2 : j < n := by simp at h2; omega
        rw [show n - j = (n - j - 1) + 1 by omega, joinD_step] at hI5
        have e1 : IntKind.wrap .i64 (k + z) = k + z := wr64 _ (by omega) (by omega)
        conv => whnf
        rw [e1]
        refine call1 (num_GetText s (k + z) 16 (by omega) (by decide)) rfl ?_
        conv => whnf
        cases gt : Num.getT s (k + z) 16 with
        | none =>
          rw [gt] at hI5
          refine tk rfl ?_
          conv => whnf
          rw [← hI5]
          exact ⟨_, .inr ⟨rfl, rfl⟩, rfl⟩
        | some q =>
          obtain ⟨t, i⟩ := q
          have hb := getT_bd gt
          rw [gt] at hI5
          dsimp only [Option.getD_some, Option.isSome_some] at hI5 ⊢
          refine fk rfl ?_
          conv => whnf
          have e2 : IntKind.wrap .i64 ((z : Int) + i) = ((z + i : Nat) : Int) := by rw [wr64 _ (by omega) (by omega)]; omega
          rw [e2]
          have e3 : IntKind.wrap .i64 (k + ((z + i : Nat) : Int)) = k + z + i := by rw [wr64 _ (by omega) (by omega)]; omega
          rw [e3]
          refine call1 (val_Decode s (k + z + i) hs) rfl ?_
          conv => whnf
          cases gd : decV s (k + z + i) with
          | none =>
            rw [gd] at hI5
            refine tk rfl ?_
            conv => whnf
            rw [← hI5]
            exact ⟨_, .inr ⟨rfl, rfl⟩, rfl⟩
          | some q =>
            obtain ⟨v, m⟩ := q
            have hb2 := decV_bd gd
            rw [gd] at hI5
            dsimp only [Option.getD_some, Option.isSome_some] at hI5 ⊢
            refine fk rfl ?_
            conv => whnf
            have e4 : IntKind.wrap .i64 (((z + i : Nat) : Int) + m) = ((z + i + m : Nat) : Int) := by rw [wr64 _ (by omega) (by omega)]; omega
            rw [e4]
            refine ⟨by show (0 + 1) * 48 ≤ 140737488355328; omega, ?_⟩
            conv => whnf
            refine ⟨(j + 1, [] ++ [(t, v)], z + i + m), ⟨⟨by dsimp only; omega, by dsimp only; rw [List.length_append, List.length_singleton, hI2], by dsimp only; omega, by dsimp only; omega, ?_, ?_⟩, by dsimp only; omega⟩, ?_⟩
            · dsimp only
              rw [← hI5, show n - (j + 1) = n - j - 1 by omega, show z + i + m - i0 = z - i0 + (i + m) by omega, show k + ((z + i + m : Nat) : Int) = k + z + i + m by omega]
            · intro p hp
              rcases List.mem_append.1 hp with hp | hp
              · cases hp
              · rw [List.mem_singleton.1 hp]; exact decV_kind gd
            · (conv => whnf)
              exact ⟨rfl, ⟨rfl, rfl, trivial, rfl, rfl, (by show ((j + 1 : Nat) : Int) = IntKind.wrap .u64 ((j : Int) + 1); rw [wru64 _ (by omega) (by omega)]; omega), trivial⟩, trivial, rfl, trivial⟩
      · have h2 : j = n := by simp at h2; omega
        rw [show n - j = 0 by omega] at hI5
        have hL : decL n s (k + i0) = some ([], z - i0) := by rw [← hI5]; simp [decL, joinD]
        rw [hL]
        dsimp only
        conv => whnf
        refine call1 ((val_Props [] (by simp)).args fun w ok => ⟨nilA, trivial⟩) rfl ?_
        conv => whnf
        refine ⟨fun h3 => ?_, fun h3 => ?_⟩
        · have h3 : propsS [] = false := by simpa using h3
          rw [if_neg (by rw [h3]; decide)]
          conv => whnf
          exact ⟨_, .inr ⟨rfl, rfl⟩, rfl⟩
        · have h3 : propsS [] = true := by simpa using h3
          rw [if_pos h3]
          conv => whnf
          refine ⟨_, .inr ⟨rfl, rfl⟩, ?_⟩
          show SV.tup [(false, [_]), (false, [.int .i64 z]), (false, [_])] = SV.tup [(false, [_]), (false, [.int .i64 ((i0 + (z - i0) : Nat) : Int)]), (false, [_])]
          rw [show i0 + (z - i0) = z by omega]
          rfl
    | cons x xs =>
      conv => whnf
      refine ⟨fun h2 => ?_, fun h2 => ?_⟩
      · have h2 : j < n := by simp at h2; omega
        rw [show n - j = (n - j - 1) + 1 by omega, joinD_step] at hI5
        have e1 : IntKind.wrap .i64 (k + z) = k + z := wr64 _ (by omega) (by omega)
        conv => whnf
        rw [e1]
        refine call1 (num_GetText s (k + z) 16 (by omega) (by decide)) rfl ?_
        conv => whnf
        cases gt : Num.getT s (k + z) 16 with
        | none =>
          rw [gt] at hI5
          refine tk rfl ?_
          conv => whnf
          rw [← hI5]
          exact ⟨_, .inr ⟨rfl, rfl⟩, rfl⟩
        | some q =>
          obtain ⟨t, i⟩ := q
          have hb := getT_bd gt
          rw [gt] at hI5
          dsimp only [Option.getD_some, Option.isSome_some] at hI5 ⊢
          refine fk rfl ?_
          conv => whnf
          have e2 : IntKind.wrap .i64 ((z : Int) + i) = ((z + i : Nat) : Int) := by rw [wr64 _ (by omega) (by omega)]; omega
          rw [e2]
          have e3 : IntKind.wrap .i64 (k + ((z + i : Nat) : Int)) = k + z + i := by rw [wr64 _ (by omega) (by omega)]; omega
          rw [e3]
          refine call1 (val_Decode s (k + z + i) hs) rfl ?_
          conv => whnf
          cases gd : decV s (k + z + i) with
          | none =>
            rw [gd] at hI5
            refine tk rfl ?_
            conv => whnf
            rw [← hI5]
            exact ⟨_, .inr ⟨rfl, rfl⟩, rfl⟩
          | some q =>
            obtain ⟨v, m⟩ := q
            have hb2 := decV_bd gd
            rw [gd] at hI5
            dsimp only [Option.getD_some, Option.isSome_some] at hI5 ⊢
            refine fk rfl ?_
            conv => whnf
            have e4 : IntKind.wrap .i64 (((z + i : Nat) : Int) + m) = ((z + i + m : Nat) : Int) := by rw [wr64 _ (by omega) (by omega)]; omega
            rw [e4]
            refine ⟨by show ((x :: xs).length + 1) * 48 ≤ 140737488355328; omega, ?_⟩
            conv => whnf
            refine ⟨(j + 1, (x :: xs) ++ [(t, v)], z + i + m), ⟨⟨by dsimp only; omega, by dsimp only; rw [List.length_append, List.length_singleton, hI2], by dsimp only; omega, by dsimp only; omega, ?_, ?_⟩, by dsimp only; omega⟩, ?_⟩
            · dsimp only
              rw [← hI5, show n - (j + 1) = n - j - 1 by omega, show z + i + m - i0 = z - i0 + (i + m) by omega, show k + ((z + i + m : Nat) : Int) = k + z + i + m by omega]
            · intro p hp
              rcases List.mem_append.1 hp with hp | hp
              · exact hI6 p hp
              · rw [List.mem_singleton.1 hp]; exact decV_kind gd
            · (conv => whnf)
              exact ⟨rfl, ⟨rfl, rfl, trivial, rfl, rfl, (by show ((j + 1 : Nat) : Int) = IntKind.wrap .u64 ((j : Int) + 1); rw [wru64 _ (by omega) (by omega)]; omega), trivial⟩, trivial, rfl, trivial⟩
      · have h2 : j = n := by simp at h2; omega
        rw [show n - j = 0 by omega] at hI5
        have hL : decL n s (k + i0) = some ((x :: xs), z - i0) := by rw [← hI5]; simp [decL, joinD]
        rw [hL]
        dsimp only
        conv => whnf
        refine lend0 (val_Props (x :: xs) hI6) rfl rfl ?_
        conv => whnf
        refine ⟨fun h3 => ?_, fun h3 => ?_⟩
        · have h3 : propsS (x :: xs) = false := by simpa using h3
          rw [if_neg (by rw [h3]; decide)]
          conv => whnf
          exact ⟨_, .inr ⟨rfl, rfl⟩, rfl⟩
        · have h3 : propsS (x :: xs) = true := by simpa using h3
          rw [if_pos h3]
          conv => whnf
          refine ⟨_, .inl rfl, ?_⟩
          show SV.tup [(false, [_]), (false, [.int .i64 z]), (false, [_])] = SV.tup [(false, [_]), (false, [.int .i64 ((i0 + (z - i0) : Nat) : Int)]), (false, [_])]
          rw [show i0 + (z - i0) = z by omega]
          rfl

def decPT (o : Option (List PD.T × Nat)) : SV := .tup [(false, [.dat PD (o.getD ([], 0)).1]), (false, [.int .i64 ((o.getD ([], 0)).2 : Nat)]), (false, [.bool (.sym o.isSome)])]
theorem val_DecodeProps (s : List UInt8) (k : Int) (hs : s.length ≤ 100000000) : FnD Try.prog 67 [.c (.str s), .c (.int .i64 k)] (· = decPT (decPs s k)) :=
  (val_DecodeProps' s k hs).res fun r hr w ok v hv => by
    obtain ⟨c, hc, rfl⟩ := hr
    rcases hc with rfl | ⟨h0, rfl⟩
    · exact hv
    · obtain ⟨vs, e, hl⟩ := hv
      obtain ⟨v1, m, e1, h1, h2⟩ := rl_cons hl
      refine ⟨vs, e, ?_⟩
      rw [e1]
      refine ⟨?_, h2⟩
      unfold RP at h1 ⊢
      simp only [Bool.false_eq_true, if_false] at h1 ⊢
      obtain ⟨y, hy, h3⟩ := h1
      cases hy
      exact ⟨_, rfl, by rw [h0]; exact nilA v1 h3⟩
end Go.Proofs.Ytnldokebmfojeaa
/- The walk of the reference's DecodeProps. Own work; written by gendr.py. -/
set_option linter.unusedVariables false
set_option maxRecDepth 100000
namespace Go.Proofs.Ytnldokebmfojeaa
open Go Go.RowKit OE

def decPA' (o : Option (List PD.T × Nat)) (r : SV) : Prop := ∃ c, (c = .dat PD (o.getD ([], 0)).1 ∨ ((o.getD ([], 0)).1 = [] ∧ c = .val (.slice none 0 0))) ∧
  r = .agg [c, .int .i64 ((o.getD ([], 0)).2 : Nat), .bool (.sym o.isSome)]
def decPA (o : Option (List PD.T × Nat)) : SV := .agg [.dat PD (o.getD ([], 0)).1, .int .i64 ((o.getD ([], 0)).2 : Nat), .bool (.sym o.isSome)]
end Go.Proofs.Ytnldokebmfojeaa
/- The walks of hedgerowkeep: nodes, edges, graphs. Own work. -/
set_option linter.unusedVariables false
set_option maxRecDepth 100000
namespace Go.Proofs.Ytnldokebmfojeaa
open Go Go.RowKit OE

abbrev ND : D := .pair (.int .i64) (.pair .str (.list PD))
abbrev nc (n : ND.T) : List C := [.int .i64 n.1, .str n.2.1, .dat PD n.2.2]
abbrev ED : D := .pair (.int .i64) (.pair .str (.pair (.int .i64) (.pair (.int .i64) (.list PD))))
abbrev ec (e : ED.T) : List C := [.int .i64 e.1, .str e.2.1, .int .i64 e.2.2.1, .int .i64 e.2.2.2.1, .dat PD e.2.2.2.2]

theorem keep_Node (v w : ND.T) : FnD Try.prog 54 [.agg (nc v), .agg (nc w)] (· = .c (.bool (.sym (ND.eqb v w)))) := by
  refine fn0 Try.func54 rfl rfl rfl ?_
  conv => whnf
  refine callg0 (fun _ => keep_Props v.2.2 w.2.2) rfl ?_
  conv => whnf
  simp [D.eqb, Bool.and_assoc]
theorem keep_Edge (v w : ED.T) : FnD Try.prog 55 [.agg (ec v), .agg (ec w)] (· = .c (.bool (.sym (ED.eqb v w)))) := by
  refine fn0 Try.func55 rfl rfl rfl ?_
  conv => whnf
  refine callg0 (fun _ => keep_Props v.2.2.2.2 w.2.2.2.2) rfl ?_
  conv => whnf
  simp [D.eqb, Bool.and_assoc]

theorem keep_Nodes (a b : List ND.T) : FnD Try.prog 32 [.c (.dat ND a), .c (.dat ND b)] (· = .c (.bool (.sym (eqL ND.eqb a b)))) := by
  refine fn0 Try.func32 rfl rfl rfl ?_
  conv => whnf
  intro ha
  conv => whnf
  intro hb
  refine ⟨fun h1 => ?_, fun h1 => ?_⟩
  · conv => whnf
    rw [eqL_len (by simp at h1; omega)]
  have h1 : a.length = b.length := by simp at h1; omega
  conv => whnf
  refine loop0 (α := Nat) (fun i => i ≤ a.length ∧ eqL ND.eqb (a.drop i) (b.drop i) = eqL ND.eqb a b)
    (fun i => ⟨[(0, .c (.dat ND a)), (1, .c (.dat ND b)), (5, .c (.int .i64 i))], [], 0⟩) (fun i => a.length - i) ⟨0, ⟨by omega, rfl⟩, ?_⟩ ?_
  · (conv => whnf); refine ⟨rfl, ?_, ?_, ?_⟩ <;> (repeat' apply And.intro) <;> first | exact trivial | rfl | exact wr_succ _ (by omega) | assumption | exact decide_eq_false (by assumption) | exact decide_eq_true (by assumption)
  · rintro i ⟨hI1, hI2⟩
    conv => whnf
    intro _
    refine ⟨fun h2 => ?_, fun h2 => ?_⟩
    · have h2 : i < a.length := by simp at h2; omega
      conv => whnf
      have hb2 : i < b.length := by omega
      rw [eqL_step h2 hb2] at hI2
      refine any0 ?_
      conv => whnf
      try (intro _; conv => whnf)
      refine ⟨by omega, ?_⟩
      rw [gt_nat (d := ND) a i h2]
      conv => whnf
      try (intro _; conv => whnf)
      refine ⟨by omega, ?_⟩
      rw [gt_nat (d := ND) b i hb2]
      conv => whnf
      refine callr0 (keep_Node a[i] b[i]) rfl ?_
      conv => whnf
      refine ⟨.inl (by kernel_rfl), after0 ?_⟩
      conv => whnf
      refine ⟨fun h4 => ?_, fun h4 => ?_⟩
      · conv => whnf
        simp only [Bool.not_eq_true'] at h4
        simp only [← hI2, h4, Bool.false_and]
      · conv => whnf
        simp only [Bool.not_eq_false'] at h4
        refine ⟨i + 1, ⟨⟨by omega, ?_⟩, by omega⟩, ?_⟩
        · rw [← hI2, h4]; simp
        · (conv => whnf); refine ⟨rfl, ?_, ?_, ?_⟩ <;> (repeat' apply And.intro) <;> first | exact trivial | rfl | exact wr_succ _ (by omega) | assumption | exact decide_eq_false (by assumption) | exact decide_eq_true (by assumption)
    · conv => whnf
      rw [← hI2, eqL_end (by simp at h2; omega) (by simp at h2; omega)]

theorem keep_Edges (a b : List ED.T) : FnD Try.prog 33 [.c (.dat ED a), .c (.dat ED b)] (· = .c (.bool (.sym (eqL ED.eqb a b)))) := by
  refine fn0 Try.func33 rfl rfl rfl ?_
  conv => whnf
  intro ha
  conv => whnf
  intro hb
  refine ⟨fun h1 => ?_, fun h1 => ?_⟩
  · conv => whnf
    rw [eqL_len (by simp at h1; omega)]
  have h1 : a.length = b.length := by simp at h1; omega
  conv => whnf
  refine loop0 (α := Nat) (fun i => i ≤ a.length ∧ eqL ED.eqb (a.drop i) (b.drop i) = eqL ED.eqb a b)
    (fun i => ⟨[(0, .c (.dat ED a)), (1, .c (.dat ED b)), (5, .c (.int .i64 i))], [], 0⟩) (fun i => a.length - i) ⟨0, ⟨by omega, rfl⟩, ?_⟩ ?_
  · (conv => whnf); refine ⟨rfl, ?_, ?_, ?_⟩ <;> (repeat' apply And.intro) <;> first | exact trivial | rfl | exact wr_succ _ (by omega) | assumption | exact decide_eq_false (by assumption) | exact decide_eq_true (by assumption)
  · rintro i ⟨hI1, hI2⟩
    conv => whnf
    intro _
    refine ⟨fun h2 => ?_, fun h2 => ?_⟩
    · have h2 : i < a.length := by simp at h2; omega
      conv => whnf
      have hb2 : i < b.length := by omega
      rw [eqL_step h2 hb2] at hI2
      refine any0 ?_
      conv => whnf
      try (intro _; conv => whnf)
      refine ⟨by omega, ?_⟩
      rw [gt_nat (d := ED) a i h2]
      conv => whnf
      try (intro _; conv => whnf)
      refine ⟨by omega, ?_⟩
      rw [gt_nat (d := ED) b i hb2]
      conv => whnf
      refine callr0 (keep_Edge a[i] b[i]) rfl ?_
      conv => whnf
      refine ⟨.inl (by kernel_rfl), after0 ?_⟩
      conv => whnf
      refine ⟨fun h4 => ?_, fun h4 => ?_⟩
      · conv => whnf
        simp only [Bool.not_eq_true'] at h4
        simp only [← hI2, h4, Bool.false_and]
      · conv => whnf
        simp only [Bool.not_eq_false'] at h4
        refine ⟨i + 1, ⟨⟨by omega, ?_⟩, by omega⟩, ?_⟩
        · rw [← hI2, h4]; simp
        · (conv => whnf); refine ⟨rfl, ?_, ?_, ?_⟩ <;> (repeat' apply And.intro) <;> first | exact trivial | rfl | exact wr_succ _ (by omega) | assumption | exact decide_eq_false (by assumption) | exact decide_eq_true (by assumption)
    · conv => whnf
      rw [← hI2, eqL_end (by simp at h2; omega) (by simp at h2; omega)]

def largeRule (r : RD.T) : Bool := decide ((1000 : Int) < r.2.2.1.length) || decide ((1000 : Int) < r.2.2.2.1.length) || decide ((1000 : Int) < r.2.2.2.2.1.length) || decide ((1000 : Int) < r.2.2.2.2.2.1.length)
theorem keep_LargeRule (r : RD.T) : FnD Try.prog 42 [.agg (rc r)] (· = .c (.bool (.sym (largeRule r)))) := by
  refine fn0 Try.func42 rfl rfl rfl ?_
  conv => whnf
  rfl

def largeN (n : ND.T) : Bool := decide ((1000 : Int) < n.2.1.length) || largeProps n.2.2
def largeE (e : ED.T) : Bool := decide ((1000 : Int) < e.2.1.length) || largeProps e.2.2.2.2
def largeGraph (n : List ND.T) (e : List ED.T) : Bool := decide ((300 : Int) < n.length) || decide ((300 : Int) < e.length) || (n.any largeN || e.any largeE)
theorem keep_LargeGraph (n : List ND.T) (e : List ED.T) : FnD Try.prog 11 [.c (.dat ND n), .c (.dat ED e)] (· = .c (.bool (.sym (largeGraph n e)))) := by
  refine fn0 Try.func11 rfl rfl rfl ?_
  conv => whnf
  intro hn
  conv => whnf
  intro he
  refine ⟨fun h1 => ?_, fun h1 => ?_⟩
  · conv => whnf
    simp only [largeGraph, h1, Bool.true_or]
  have hm : largeGraph n e = (n.any largeN || e.any largeE) := by simp only [largeGraph, h1, Bool.false_or]
  have hn3 : n.length ≤ 300 ∧ e.length ≤ 300 := by simp at h1; omega
  rw [hm]
  conv => whnf
  refine loop0 (α := Nat) (fun i => i ≤ n.length ∧ (n.drop i).any largeN = n.any largeN)
    (fun i => ⟨[(0, .c (.dat ND n)), (1, .c (.dat ED e)), (5, .c (.int .i64 i))], [], 0⟩) (fun i => n.length - i) ⟨0, ⟨by omega, rfl⟩, ?_⟩ ?_
  · (conv => whnf); refine ⟨rfl, ?_, ?_, ?_⟩ <;> (repeat' apply And.intro) <;> first | exact trivial | rfl | exact wr_succ _ (by omega) | assumption | exact decide_eq_false (by assumption) | exact decide_eq_true (by assumption)
  · rintro i ⟨hI1, hI2⟩
    conv => whnf
    intro _
    refine ⟨fun h2 => ?_, fun h2 => ?_⟩
    · have h2 : i < n.length := by simp at h2; omega
      rw [any_step h2] at hI2
      conv => whnf
      try (intro _; conv => whnf)
      refine ⟨by omega, ?_⟩
      rw [gt_nat (d := ND) n i h2]
      conv => whnf
      try (intro _; conv => whnf)
      refine ⟨fun _ => by omega, ?_⟩
      rw [gt_nat (d := ND) n i h2]
      conv => whnf
      refine callg0 (fun _ => keep_LargeProps n[i].2.2) rfl ?_
      conv => whnf
      refine ⟨fun h3 => ?_, fun h3 => ?_⟩
      · conv => whnf
        have : largeN n[i] = true := h3
        simp only [← hI2, this, Bool.true_or]
      · conv => whnf
        refine ⟨i + 1, ⟨⟨by omega, ?_⟩, by omega⟩, ?_⟩
        · have : largeN n[i] = false := h3
          rw [← hI2]; simp only [this, Bool.false_or]
        · (conv => whnf); refine ⟨rfl, ?_, ?_, ?_⟩ <;> (repeat' apply And.intro) <;> first | exact trivial | rfl | exact wr_succ _ (by omega) | assumption | exact decide_eq_false (by assumption) | exact decide_eq_true (by assumption)
    · conv => whnf
      rw [← hI2, any_end (by simp at h2; omega), Bool.false_or]
      refine loop0 (α := Nat) (fun i => i ≤ e.length ∧ (e.drop i).any largeE = e.any largeE)
        (fun i => ⟨[(0, .c (.dat ND n)), (1, .c (.dat ED e)), (6, .c (.int .i64 i))], [], 0⟩) (fun i => e.length - i) ⟨0, ⟨by omega, rfl⟩, ?_⟩ ?_
      · (conv => whnf); refine ⟨rfl, ?_, ?_, ?_⟩ <;> (repeat' apply And.intro) <;> first | exact trivial | rfl | exact wr_succ _ (by omega) | assumption | exact decide_eq_false (by assumption) | exact decide_eq_true (by assumption)
      · rintro i ⟨hI1, hI2⟩
        conv => whnf
        intro _
        refine ⟨fun h2 => ?_, fun h2 => ?_⟩
        · have h2 : i < e.length := by simp at h2; omega
          rw [any_step h2] at hI2
          conv => whnf
          try (intro _; conv => whnf)
          refine ⟨by omega, ?_⟩
          rw [gt_nat (d := ED) e i h2]
          conv => whnf
          try (intro _; conv => whnf)
          refine ⟨fun _ => by omega, ?_⟩
          rw [gt_nat (d := ED) e i h2]
          conv => whnf
          refine callg0 (fun _ => keep_LargeProps e[i].2.2.2.2) rfl ?_
          conv => whnf
          refine ⟨fun h3 => ?_, fun h3 => ?_⟩
          · conv => whnf
            have : largeE e[i] = true := h3
            simp only [← hI2, this, Bool.true_or]
          · conv => whnf
            refine ⟨i + 1, ⟨⟨by omega, ?_⟩, by omega⟩, ?_⟩
            · have : largeE e[i] = false := h3
              rw [← hI2]; simp only [this, Bool.false_or]
            · (conv => whnf); refine ⟨rfl, ?_, ?_, ?_⟩ <;> (repeat' apply And.intro) <;> first | exact trivial | rfl | exact wr_succ _ (by omega) | assumption | exact decide_eq_false (by assumption) | exact decide_eq_true (by assumption)
        · conv => whnf
          rw [← hI2, any_end (by simp at h2; omega)]

theorem keep_CopyNodes (l : List ND.T) (hl : l.length ≤ 1000) (hp : ∀ n ∈ l, n.2.2.length ≤ 1000) : FnD Try.prog 20 [.c (.dat ND l)] (· = .c (.dat ND l)) := by
  refine fn0 Try.func20 rfl rfl rfl ?_
  conv => whnf
  refine loop0 (α := Nat) (fun i => i ≤ l.length)
    (fun i => ⟨[(0, .c (.dat ND l)), (3, .c (.row 0)), (4, .c (.int .i64 i))], [(0, .row 56 ND (l.take i))], 1⟩) (fun i => l.length - i) ⟨0, by omega, ?_⟩ ?_
  · (conv => whnf); refine ⟨rfl, ?_, ?_, ?_⟩ <;> (repeat' apply And.intro) <;> first | exact trivial | rfl | exact wr_succ _ (by omega) | assumption | exact decide_eq_false (by assumption) | exact decide_eq_true (by assumption)
  · rintro i hI1
    conv => whnf
    intro _
    refine ⟨fun h2 => ?_, fun h2 => ?_⟩
    · have h2 : i < l.length := by simp at h2; omega
      conv => whnf
      try (intro _; conv => whnf)
      refine ⟨by omega, ?_⟩
      rw [gt_nat (d := ND) l i h2]
      conv => whnf
      have hq := hp l[i] (List.getElem_mem h2)
      have ht : (l.take i).length = i := by simp; omega
      refine ⟨by show (0 + l[i].2.2.length) * 48 ≤ 140737488355328; omega, ?_⟩
      conv => whnf
      refine fzs 3 rfl ?_
      conv => whnf
      refine ⟨by show ((l.take i).length + 1) * _ ≤ 140737488355328; rw [ht]; show _ * 48 ≤ _; omega, ?_⟩
      conv => whnf
      refine ⟨i + 1, ⟨by omega, by omega⟩, ?_⟩
      have hs : l.take (i + 1) = l.take i ++ [l[i]] := take_step h2
      (conv => whnf); refine ⟨rfl, ?_, ?_, ?_⟩ <;> (repeat' apply And.intro) <;> first | exact trivial | rfl | exact wr_succ _ (by omega) | assumption | exact decide_eq_false (by assumption) | exact decide_eq_true (by assumption)
    · conv => whnf
      rw [List.take_of_length_le (by simp at h2; omega)]
theorem keep_CopyEdges (l : List ED.T) (hl : l.length ≤ 1000) (hp : ∀ n ∈ l, n.2.2.2.2.length ≤ 1000) : FnD Try.prog 21 [.c (.dat ED l)] (· = .c (.dat ED l)) := by
  refine fn0 Try.func21 rfl rfl rfl ?_
  conv => whnf
  refine loop0 (α := Nat) (fun i => i ≤ l.length)
    (fun i => ⟨[(0, .c (.dat ED l)), (3, .c (.row 0)), (4, .c (.int .i64 i))], [(0, .row 64 ED (l.take i))], 1⟩) (fun i => l.length - i) ⟨0, by omega, ?_⟩ ?_
  · (conv => whnf); refine ⟨rfl, ?_, ?_, ?_⟩ <;> (repeat' apply And.intro) <;> first | exact trivial | rfl | exact wr_succ _ (by omega) | assumption | exact decide_eq_false (by assumption) | exact decide_eq_true (by assumption)
  · rintro i hI1
    conv => whnf
    intro _
    refine ⟨fun h2 => ?_, fun h2 => ?_⟩
    · have h2 : i < l.length := by simp at h2; omega
      conv => whnf
      try (intro _; conv => whnf)
      refine ⟨by omega, ?_⟩
      rw [gt_nat (d := ED) l i h2]
      conv => whnf
      have hq := hp l[i] (List.getElem_mem h2)
      have ht : (l.take i).length = i := by simp; omega
      refine ⟨by show (0 + l[i].2.2.2.2.length) * 48 ≤ 140737488355328; omega, ?_⟩
      conv => whnf
      refine fzs 3 rfl ?_
      conv => whnf
      refine ⟨by show ((l.take i).length + 1) * _ ≤ 140737488355328; rw [ht]; show _ * 64 ≤ _; omega, ?_⟩
      conv => whnf
      refine ⟨i + 1, ⟨by omega, by omega⟩, ?_⟩
      have hs : l.take (i + 1) = l.take i ++ [l[i]] := take_step h2
      (conv => whnf); refine ⟨rfl, ?_, ?_, ?_⟩ <;> (repeat' apply And.intro) <;> first | exact trivial | rfl | exact wr_succ _ (by omega) | assumption | exact decide_eq_false (by assumption) | exact decide_eq_true (by assumption)
    · conv => whnf
      rw [List.take_of_length_le (by simp at h2; omega)]
end Go.Proofs.Ytnldokebmfojeaa
/- The walks of val.Get, rule.Form and of the reference's. Own work. -/
set_option linter.unusedVariables false
set_option maxRecDepth 100000
namespace Go.Proofs.Ytnldokebmfojeaa
open Go Go.RowKit OE

/-- a property's value -/
def getS : List PD.T → List UInt8 → VD.T × Bool
  | [], _ => (VD.df, false)
  | p :: l, n => if p.1 = n then (p.2, true) else getS l n
theorem getS_step {l : List PD.T} {n : List UInt8} {i : Nat} (h : i < l.length) : getS (l.drop i) n = if l[i].1 = n then (l[i].2, true) else getS (l.drop (i + 1)) n := by
  rw [List.drop_eq_getElem_cons h]; rfl
theorem getS_end {l : List PD.T} {n : List UInt8} {i : Nat} (h : l.length ≤ i) : getS (l.drop i) n = (VD.df, false) := by
  rw [List.drop_of_length_le h]; rfl

/-- has a rule a form? -/
def formS (r : RD.T) : Bool :=
  nameS r.2.2.1 &&
  if r.2.1 = 1 ∨ r.2.1 = 2 then nameS r.2.2.2.1 && decide (r.2.2.2.2.1 = []) && decide (r.2.2.2.2.2.1 = []) && decide (r.2.2.2.2.2.2.1 = 0)
  else if r.2.1 = 3 then nameS r.2.2.2.2.1 && nameS r.2.2.2.2.2.1 && decide (r.2.2.2.1 = []) && decide (r.2.2.2.2.2.2.1 = 0)
  else if r.2.1 = 4 then decide (r.2.2.2.1 = []) && decide (r.2.2.2.2.1 = []) && decide (r.2.2.2.2.2.1 = []) && decide (0 ≤ r.2.2.2.2.2.2.1) && decide (r.2.2.2.2.2.2.1 ≤ 1024)
  else false

theorem rule_Form (r : RD.T) : FnD Try.prog 66 [.agg (rc r)] (· = .c (.bool (.sym (formS r)))) := by
  refine fn0 Try.func66 rfl rfl rfl ?_
  conv => whnf
  refine any0 ?_
  conv => whnf
  refine callr0 (val_Name r.2.2.1) rfl ?_
  conv => whnf
  refine callr0 (val_Name r.2.2.2.1) rfl ?_
  conv => whnf
  refine ⟨.inl (by kernel_rfl), after0 ?_⟩
  conv => whnf
  refine ⟨fun h1 => ?_, fun h1 => ?_⟩
  · conv => whnf
    simp at h1
    simp [formS, h1, Bool.and_assoc]
  · conv => whnf
    refine ⟨fun h2 => ?_, fun h2 => ?_⟩
    · conv => whnf
      simp at h1 h2
      simp [formS, h2, Bool.and_assoc]
    · conv => whnf
      refine ⟨fun h3 => ?_, fun h3 => ?_⟩
      · conv => whnf
        refine callg0 (fun _ => val_Name r.2.2.2.2.1) rfl ?_
        conv => whnf
        refine callg0 (fun _ => val_Name r.2.2.2.2.2.1) rfl ?_
        conv => whnf
        simp at h1 h2 h3
        simp [formS, h3, Bool.and_assoc]
      · conv => whnf
        refine ⟨fun h4 => ?_, fun h4 => ?_⟩
        · conv => whnf
          simp at h1 h2 h3 h4
          simp [formS, h4, Bool.and_assoc]
        · conv => whnf
          simp at h1 h2 h3 h4
          simp [formS, h1, h2, h3, h4]

end Go.Proofs.Ytnldokebmfojeaa
/- The walks of rule.Encode and of the reference's. Own work. -/
set_option linter.unusedVariables false
set_option maxRecDepth 100000
namespace Go.Proofs.Ytnldokebmfojeaa
open Go Go.RowKit OE

theorem nameS_len {s : List UInt8} (h : nameS s = true) : s.length ≤ 16 := by
  unfold nameS at h
  simp only [Bool.and_eq_true, decide_eq_true_eq] at h
  exact h.1.1.2
/-- is a rule good? -/
def okS (r : RD.T) : Bool := formS r && decide (0 ≤ r.1) && decide (r.1 ≤ 1000000) && decide (0 ≤ r.2.2.2.2.2.2.2) && decide (r.2.2.2.2.2.2.2 ≤ 2)
/-- a good rule's bytes -/
def bytS (r : RD.T) : List UInt8 := Num.putN r.1.toNat ++ Num.putN r.2.1.toNat ++ Num.putN r.2.2.2.2.2.2.2.toNat ++ Num.putN r.2.2.2.2.2.2.1.toNat ++ Num.putT r.2.2.1 ++ Num.putT r.2.2.2.1 ++ Num.putT r.2.2.2.2.1 ++ Num.putT r.2.2.2.2.2.1
def encS (r : RD.T) : List UInt8 := if okS r = true then bytS r else []
def errS (r : RD.T) : Int := if okS r = true then 0 else 11

structure OkR (r : RD.T) : Prop where
  i0 : 0 ≤ r.1
  i1 : r.1 ≤ 1000000
  k0 : 1 ≤ r.2.1
  k1 : r.2.1 ≤ 4
  n0 : 0 ≤ r.2.2.2.2.2.2.1
  n1 : r.2.2.2.2.2.2.1 ≤ 1024
  s0 : 0 ≤ r.2.2.2.2.2.2.2
  s1 : r.2.2.2.2.2.2.2 ≤ 2
  t0 : r.2.2.1.length ≤ 16
  t1 : r.2.2.2.1.length ≤ 16
  t2 : r.2.2.2.2.1.length ≤ 16
  t3 : r.2.2.2.2.2.1.length ≤ 16
theorem okR {r : RD.T} (h : okS r = true) : OkR r := by
  simp only [okS, Bool.and_eq_true, decide_eq_true_eq] at h
  obtain ⟨⟨⟨⟨hf, h1⟩, h2⟩, h3⟩, h4⟩ := h
  unfold formS at hf
  rw [Bool.and_eq_true] at hf
  obtain ⟨hn, hf⟩ := hf
  have hn := nameS_len hn
  split at hf
  · rename_i hk
    simp only [Bool.and_eq_true, decide_eq_true_eq] at hf
    obtain ⟨⟨⟨f1, f2⟩, f3⟩, f4⟩ := hf
    have := nameS_len f1
    exact ⟨h1, h2, by rcases hk with hk | hk <;> rw [hk] <;> decide, by rcases hk with hk | hk <;> rw [hk] <;> decide, by rw [f4]; decide, by rw [f4]; decide, h3, h4, hn, this, by rw [f2]; decide, by rw [f3]; decide⟩
  · split at hf
    · rename_i hk
      simp only [Bool.and_eq_true, decide_eq_true_eq] at hf
      obtain ⟨⟨⟨f1, f2⟩, f3⟩, f4⟩ := hf
      have f1 := nameS_len f1
      have f2 := nameS_len f2
      exact ⟨h1, h2, by rw [hk]; decide, by rw [hk]; decide, by rw [f4]; decide, by rw [f4]; decide, h3, h4, hn, by rw [f3]; decide, f1, f2⟩
    · split at hf
      · rename_i hk
        simp only [Bool.and_eq_true, decide_eq_true_eq] at hf
        obtain ⟨⟨⟨⟨f1, f2⟩, f3⟩, f4⟩, f5⟩ := hf
        exact ⟨h1, h2, by rw [hk]; decide, by rw [hk]; decide, f4, f5, h3, h4, hn, by rw [f1]; decide, by rw [f2]; decide, by rw [f3]; decide⟩
      · cases hf

theorem wuN (x : Int) (h0 : 0 ≤ x) (h1 : x ≤ 1000000) : IntKind.wrap .u64 x = ((x.toNat : Nat) : Int) := by rw [wru64 x h0 (by omega)]; omega
theorem putN_b (x : Int) (h : x ≤ 1000000) : (Num.putN x.toNat).length ≤ 10 := Num.putN_ten (by omega)
theorem putT_b {s : List UInt8} (h : s.length ≤ 16) : (Num.putT s).length ≤ 26 := by
  have := Num.putN_ten (n := s.length) (by omega)
  unfold Num.putT
  rw [List.length_append]
  omega

theorem num_PutI (x : Int) (h0 : 0 ≤ x) (h1 : x ≤ 1000000) : FnD Try.prog 45 [.c (.int .u64 (IntKind.wrap .u64 x))] (· = .c (.str (Num.putN x.toNat))) := by
  rw [wuN x h0 h1]
  exact num_Put _ (by omega)

theorem rule_Encode (r : RD.T) : FnD Try.prog 48 [.agg (rc r)] (· = .tup [(false, [.str (encS r)]), (false, [.int .i64 (errS r)])]) := by
  refine fn0 Try.func48 rfl rfl rfl ?_
  conv => whnf
  refine call1 (rule_Form r) rfl ?_
  conv => whnf
  have hok : okS r = !(!formS r || decide (r.1 < 0) || decide (1000000 < r.1) || decide (r.2.2.2.2.2.2.2 < 0) || decide (2 < r.2.2.2.2.2.2.2)) := by
    rw [Bool.eq_iff_iff]; simp [okS]
  refine ⟨fun h1 => ?_, fun h1 => ?_⟩
  · conv => whnf
    rw [h1] at hok
    simp [encS, errS, hok]
  rw [h1] at hok
  have hO := okR hok
  obtain ⟨i0, i1, k0, k1, n0, n1, s0, s1, t0, t1, t2, t3⟩ := hO
  have k2 : 0 ≤ r.2.1 := Int.le_trans (by decide) k0
  have k3 : r.2.1 ≤ 1000000 := Int.le_trans k1 (by decide)
  have n2 : r.2.2.2.2.2.2.1 ≤ 1000000 := Int.le_trans n1 (by decide)
  have s2 : r.2.2.2.2.2.2.2 ≤ 1000000 := Int.le_trans s1 (by decide)
  have p1 := putN_b r.1 i1
  have p2 := putN_b r.2.1 k3
  have p3 := putN_b r.2.2.2.2.2.2.2 s2
  have p4 := putN_b r.2.2.2.2.2.2.1 n2
  have q1 := putT_b t0
  have q2 := putT_b t1
  have q3 := putT_b t2
  have q4 := putT_b t3
  conv => whnf
  intro _
  conv => whnf
  refine unroll0 5 ?_
  conv => whnf
  refine tk rfl ?_
  conv => whnf
  intro _
  conv => whnf
  refine ⟨show (0 : Int) ≤ 0 ∧ (0 : Int) < 4 from by decide, ?_⟩
  conv => whnf
  refine ⟨show (0 : Int) ≤ 0 ∧ (0 : Int) < 4 from by decide, ?_⟩
  conv => whnf
  refine call1 (num_PutI r.1 i0 i1) rfl ?_
  conv => whnf
  refine ⟨by show 0 + _ ≤ _; omega, ?_⟩
  conv => whnf
  refine tk rfl ?_
  conv => whnf
  intro _
  conv => whnf
  refine ⟨show (0 : Int) ≤ 1 ∧ (1 : Int) < 4 from by decide, ?_⟩
  conv => whnf
  refine ⟨show (0 : Int) ≤ 1 ∧ (1 : Int) < 4 from by decide, ?_⟩
  conv => whnf
  refine call1 (num_PutI r.2.1 k2 k3) rfl ?_
  conv => whnf
  refine ⟨by simp only [List.length_append, List.length_nil]; omega, ?_⟩
  conv => whnf
  refine tk rfl ?_
  conv => whnf
  intro _
  conv => whnf
  refine ⟨show (0 : Int) ≤ 2 ∧ (2 : Int) < 4 from by decide, ?_⟩
  conv => whnf
  refine ⟨show (0 : Int) ≤ 2 ∧ (2 : Int) < 4 from by decide, ?_⟩
  conv => whnf
  refine call1 (num_PutI r.2.2.2.2.2.2.2 s0 s2) rfl ?_
  conv => whnf
  refine ⟨by simp only [List.length_append, List.length_nil]; omega, ?_⟩
  conv => whnf
  refine tk rfl ?_
  conv => whnf
  intro _
  conv => whnf
  refine ⟨show (0 : Int) ≤ 3 ∧ (3 : Int) < 4 from by decide, ?_⟩
  conv => whnf
  refine ⟨show (0 : Int) ≤ 3 ∧ (3 : Int) < 4 from by decide, ?_⟩
  conv => whnf
  refine call1 (num_PutI r.2.2.2.2.2.2.1 n0 n2) rfl ?_
  conv => whnf
  refine ⟨by simp only [List.length_append, List.length_nil]; omega, ?_⟩
  conv => whnf
  refine fk rfl ?_
  conv => whnf
  intro _
  conv => whnf
  refine unroll0 5 ?_
  conv => whnf
  refine tk rfl ?_
  conv => whnf
  intro _
  conv => whnf
  refine ⟨show (0 : Int) ≤ 0 ∧ (0 : Int) < 4 from by decide, ?_⟩
  conv => whnf
  refine ⟨show (0 : Int) ≤ 0 ∧ (0 : Int) < 4 from by decide, ?_⟩
  conv => whnf
  refine call1 (num_PutText r.2.2.1 (Nat.le_trans t0 (by decide))) rfl ?_
  conv => whnf
  refine ⟨by simp only [List.length_append, List.length_nil]; omega, ?_⟩
  conv => whnf
  refine tk rfl ?_
  conv => whnf
  intro _
  conv => whnf
  refine ⟨show (0 : Int) ≤ 1 ∧ (1 : Int) < 4 from by decide, ?_⟩
  conv => whnf
  refine ⟨show (0 : Int) ≤ 1 ∧ (1 : Int) < 4 from by decide, ?_⟩
  conv => whnf
  refine call1 (num_PutText r.2.2.2.1 (Nat.le_trans t1 (by decide))) rfl ?_
  conv => whnf
  refine ⟨by simp only [List.length_append, List.length_nil]; omega, ?_⟩
  conv => whnf
  refine tk rfl ?_
  conv => whnf
  intro _
  conv => whnf
  refine ⟨show (0 : Int) ≤ 2 ∧ (2 : Int) < 4 from by decide, ?_⟩
  conv => whnf
  refine ⟨show (0 : Int) ≤ 2 ∧ (2 : Int) < 4 from by decide, ?_⟩
  conv => whnf
  refine call1 (num_PutText r.2.2.2.2.1 (Nat.le_trans t2 (by decide))) rfl ?_
  conv => whnf
  refine ⟨by simp only [List.length_append, List.length_nil]; omega, ?_⟩
  conv => whnf
  refine tk rfl ?_
  conv => whnf
  intro _
  conv => whnf
  refine ⟨show (0 : Int) ≤ 3 ∧ (3 : Int) < 4 from by decide, ?_⟩
  conv => whnf
  refine ⟨show (0 : Int) ≤ 3 ∧ (3 : Int) < 4 from by decide, ?_⟩
  conv => whnf
  refine call1 (num_PutText r.2.2.2.2.2.1 (Nat.le_trans t3 (by decide))) rfl ?_
  conv => whnf
  refine ⟨by simp only [List.length_append, List.length_nil]; omega, ?_⟩
  conv => whnf
  refine fk rfl ?_
  conv => whnf
  have hok' : okS r = true := hok
  rw [encS, errS, if_pos hok', if_pos hok']
  rfl

end Go.Proofs.Ytnldokebmfojeaa
/- The walks of rule.Decode and of the reference's. Own work. -/
set_option linter.unusedVariables false
set_option maxRecDepth 100000
namespace Go.Proofs.Ytnldokebmfojeaa
open Go Go.RowKit OE

/-- a number that is no greater than a million -/
def gnS (s : List UInt8) (k : Int) : Option (Nat × Nat) := match Num.getN s k with | none => none | some p => if p.1 ≤ 1000000 then some p else none
/-- what a place holds, by its parts -/
def decP (s : List UInt8) (k : Int) : Option (RD.T × Nat) :=
  match gnS s k with
  | none => none
  | some (a, i1) =>
  match gnS s (k + i1) with
  | none => none
  | some (b, i2) =>
  match gnS s (k + i1 + i2) with
  | none => none
  | some (c, i3) =>
  match gnS s (k + i1 + i2 + i3) with
  | none => none
  | some (d, i4) =>
  match Num.getT s (k + i1 + i2 + i3 + i4) 16 with
  | none => none
  | some (t, i5) =>
  match Num.getT s (k + i1 + i2 + i3 + i4 + i5) 16 with
  | none => none
  | some (n, i6) =>
  match Num.getT s (k + i1 + i2 + i3 + i4 + i5 + i6) 16 with
  | none => none
  | some (f, i7) =>
  match Num.getT s (k + i1 + i2 + i3 + i4 + i5 + i6 + i7) 16 with
  | none => none
  | some (o, i8) => some ((((a : Nat) : Int), ((b : Nat) : Int), t, n, f, o, ((d : Nat) : Int), ((c : Nat) : Int)), i1 + i2 + i3 + i4 + i5 + i6 + i7 + i8)
/-- the rule that stands at a place -/
def decS (s : List UInt8) (k : Int) : Option (RD.T × Nat) := match decP s k with | none => none | some p => if okS p.1 = true then some p else none
def R0 : RD.T := RD.df
def decR (o : Option (RD.T × Nat)) : SV := .tup [(true, rc (o.getD (R0, 0)).1), (false, [.int .i64 ((o.getD (R0, 0)).2 : Nat)]), (false, [.bool (.sym o.isSome)])]

theorem gn_no {s : List UInt8} {k : Int} (h : (!(Num.getN s k).isSome || decide (1000000 < (((Num.getN s k).getD (0, 0)).1 : Int))) = true) : gnS s k = none := by
  unfold gnS
  revert h
  cases Num.getN s k with
  | none => intro _; rfl
  | some p => intro h; simp at h; exact if_neg (by omega)
theorem gn_yes {s : List UInt8} {k : Int} (h : (!(Num.getN s k).isSome || decide (1000000 < (((Num.getN s k).getD (0, 0)).1 : Int))) = false) (hs : s.length ≤ 100000000) :
    ∃ a i : Nat, Num.getN s k = some (a, i) ∧ gnS s k = some (a, i) ∧ IntKind.wrap .i64 (a : Int) = a ∧ IntKind.wrap .i64 (k + i) = k + i ∧ 0 ≤ k ∧ k + i ≤ s.length := by
  cases hg : Num.getN s k with
  | none => rw [hg] at h; simp at h
  | some p =>
    have hb := Num.getN_bd (m := p.1) (k := p.2) hg
    rw [hg] at h
    simp at h
    refine ⟨p.1, p.2, rfl, ?_, wr64 _ (by omega) (by omega), wr64 _ (by omega) (by omega), by omega, by omega⟩
    unfold gnS
    rw [hg]
    exact if_pos (by omega)
theorem gt_bd {s : List UInt8} {k : Int} {t : List UInt8} {i : Nat} (h : Num.getT s k 16 = some (t, i)) : 0 ≤ k ∧ k + i ≤ s.length := by
  unfold Num.getT at h
  cases hg : Num.getN s k with
  | none => rw [hg] at h; cases h
  | some p =>
    have hb := Num.getN_bd (m := p.1) (k := p.2) hg
    rw [hg] at h
    dsimp only at h
    split at h
    · cases h
    · simp only [Option.some.injEq, Prod.mk.injEq] at h
      omega
theorem gt_yes {s : List UInt8} {k : Int} (h : (!(Num.getT s k 16).isSome) = false) (hs : s.length ≤ 100000000) :
    ∃ (t : List UInt8) (i : Nat), Num.getT s k 16 = some (t, i) ∧ IntKind.wrap .i64 (k + i) = k + i ∧ 0 ≤ k ∧ k + i ≤ s.length := by
  cases hg : Num.getT s k 16 with
  | none => rw [hg] at h; simp at h
  | some p =>
    have hb := gt_bd (t := p.1) (i := p.2) hg
    exact ⟨p.1, p.2, rfl, wr64 _ (by omega) (by omega), by omega, by omega⟩
theorem gt_no {s : List UInt8} {k : Int} (h : (!(Num.getT s k 16).isSome) = true) : Num.getT s k 16 = none := by
  simpa using h

theorem rule_Decode (s : List UInt8) (k : Int) (hs : s.length ≤ 100000000) : FnD Try.prog 53 [.c (.str s), .c (.int .i64 k)] (· = decR (decS s k)) := by
  refine fn0 Try.func53 rfl rfl rfl ?_
  conv => whnf
  refine unroll0 5 ?_
  conv => whnf
  refine tk rfl ?_
  conv => whnf
  refine call1 (num_Get s (k) (by omega)) rfl ?_
  conv => whnf
  refine ⟨fun c1 => ?_, fun c1 => ?_⟩
  · conv => whnf
    have hd : decS s k = none := by simp only [decS, decP, gn_no c1]
    rw [hd]
    rfl
  obtain ⟨a1, i1, g1, h1, w1, u1, l1, m1⟩ := gn_yes c1 hs
  clear c1
  rw [g1]
  dsimp only [Option.getD_some, Option.isSome_some]
  conv => whnf
  rw [w1, u1]
  refine tk rfl ?_
  conv => whnf
  refine call1 (num_Get s (k + i1) (by omega)) rfl ?_
  conv => whnf
  refine ⟨fun c2 => ?_, fun c2 => ?_⟩
  · conv => whnf
    have hd : decS s k = none := by simp only [decS, decP, h1, gn_no c2]
    rw [hd]
    rfl
  obtain ⟨a2, i2, g2, h2, w2, u2, l2, m2⟩ := gn_yes c2 hs
  clear c2
  rw [g2]
  dsimp only [Option.getD_some, Option.isSome_some]
  conv => whnf
  rw [w2, u2]
  refine tk rfl ?_
  conv => whnf
  refine call1 (num_Get s (k + i1 + i2) (by omega)) rfl ?_
  conv => whnf
  refine ⟨fun c3 => ?_, fun c3 => ?_⟩
  · conv => whnf
    have hd : decS s k = none := by simp only [decS, decP, h1, h2, gn_no c3]
    rw [hd]
    rfl
  obtain ⟨a3, i3, g3, h3, w3, u3, l3, m3⟩ := gn_yes c3 hs
  clear c3
  rw [g3]
  dsimp only [Option.getD_some, Option.isSome_some]
  conv => whnf
  rw [w3, u3]
  refine tk rfl ?_
  conv => whnf
  refine call1 (num_Get s (k + i1 + i2 + i3) (by omega)) rfl ?_
  conv => whnf
  refine ⟨fun c4 => ?_, fun c4 => ?_⟩
  · conv => whnf
    have hd : decS s k = none := by simp only [decS, decP, h1, h2, h3, gn_no c4]
    rw [hd]
    rfl
  obtain ⟨a4, i4, g4, h4, w4, u4, l4, m4⟩ := gn_yes c4 hs
  clear c4
  rw [g4]
  dsimp only [Option.getD_some, Option.isSome_some]
  conv => whnf
  rw [w4, u4]
  refine fk rfl ?_
  conv => whnf
  refine unroll0 5 ?_
  conv => whnf
  refine tk rfl ?_
  conv => whnf
  refine call1 (num_GetText s (k + i1 + i2 + i3 + i4) 16 (by omega) (by decide)) rfl ?_
  conv => whnf
  refine ⟨fun c5 => ?_, fun c5 => ?_⟩
  · conv => whnf
    have hd : decS s k = none := by simp only [decS, decP, h1, h2, h3, h4, gt_no c5]
    rw [hd]
    rfl
  obtain ⟨a5, i5, g5, u5, l5, m5⟩ := gt_yes c5 hs
  clear c5
  rw [g5]
  dsimp only [Option.getD_some, Option.isSome_some]
  conv => whnf
  rw [u5]
  refine tk rfl ?_
  conv => whnf
  refine call1 (num_GetText s (k + i1 + i2 + i3 + i4 + i5) 16 (by omega) (by decide)) rfl ?_
  conv => whnf
  refine ⟨fun c6 => ?_, fun c6 => ?_⟩
  · conv => whnf
    have hd : decS s k = none := by simp only [decS, decP, h1, h2, h3, h4, g5, gt_no c6]
    rw [hd]
    rfl
  obtain ⟨a6, i6, g6, u6, l6, m6⟩ := gt_yes c6 hs
  clear c6
  rw [g6]
  dsimp only [Option.getD_some, Option.isSome_some]
  conv => whnf
  rw [u6]
  refine tk rfl ?_
  conv => whnf
  refine call1 (num_GetText s (k + i1 + i2 + i3 + i4 + i5 + i6) 16 (by omega) (by decide)) rfl ?_
  conv => whnf
  refine ⟨fun c7 => ?_, fun c7 => ?_⟩
  · conv => whnf
    have hd : decS s k = none := by simp only [decS, decP, h1, h2, h3, h4, g5, g6, gt_no c7]
    rw [hd]
    rfl
  obtain ⟨a7, i7, g7, u7, l7, m7⟩ := gt_yes c7 hs
  clear c7
  rw [g7]
  dsimp only [Option.getD_some, Option.isSome_some]
  conv => whnf
  rw [u7]
  refine tk rfl ?_
  conv => whnf
  refine call1 (num_GetText s (k + i1 + i2 + i3 + i4 + i5 + i6 + i7) 16 (by omega) (by decide)) rfl ?_
  conv => whnf
  refine ⟨fun c8 => ?_, fun c8 => ?_⟩
  · conv => whnf
    have hd : decS s k = none := by simp only [decS, decP, h1, h2, h3, h4, g5, g6, g7, gt_no c8]
    rw [hd]
    rfl
  obtain ⟨a8, i8, g8, u8, l8, m8⟩ := gt_yes c8 hs
  clear c8
  rw [g8]
  dsimp only [Option.getD_some, Option.isSome_some]
  conv => whnf
  rw [u8]
  refine fk rfl ?_
  conv => whnf
  have hp : decP s k = some ((((a1 : Nat) : Int), ((a2 : Nat) : Int), a5, a6, a7, a8, ((a4 : Nat) : Int), ((a3 : Nat) : Int)), i1 + i2 + i3 + i4 + i5 + i6 + i7 + i8) := by
    simp only [decP, h1, h2, h3, h4, g5, g6, g7, g8]
  refine call1 (rule_Encode ((((a1 : Nat) : Int), ((a2 : Nat) : Int), a5, a6, a7, a8, ((a4 : Nat) : Int), ((a3 : Nat) : Int)) : RD.T)) rfl ?_
  conv => whnf
  refine ⟨fun c9 => ?_, fun c9 => ?_⟩
  · conv => whnf
    have hn : okS ((((a1 : Nat) : Int), ((a2 : Nat) : Int), a5, a6, a7, a8, ((a4 : Nat) : Int), ((a3 : Nat) : Int)) : RD.T) = false := by
      cases h : okS ((((a1 : Nat) : Int), ((a2 : Nat) : Int), a5, a6, a7, a8, ((a4 : Nat) : Int), ((a3 : Nat) : Int)) : RD.T) with
      | false => rfl
      | true => simp [errS, h] at c9
    have hd : decS s k = none := by simp only [decS, hp, hn]; rfl
    rw [hd]
    rfl
  have hn : okS ((((a1 : Nat) : Int), ((a2 : Nat) : Int), a5, a6, a7, a8, ((a4 : Nat) : Int), ((a3 : Nat) : Int)) : RD.T) = true := by
    cases h : okS ((((a1 : Nat) : Int), ((a2 : Nat) : Int), a5, a6, a7, a8, ((a4 : Nat) : Int), ((a3 : Nat) : Int)) : RD.T) with
    | true => rfl
    | false => simp [errS, h] at c9
  have hd : decS s k = some (((((a1 : Nat) : Int), ((a2 : Nat) : Int), a5, a6, a7, a8, ((a4 : Nat) : Int), ((a3 : Nat) : Int)) : RD.T), i1 + i2 + i3 + i4 + i5 + i6 + i7 + i8) := by simp only [decS, hp, hn, if_true]
  have hz : IntKind.wrap .i64 (k + i1 + i2 + i3 + i4 + i5 + i6 + i7 + i8 - k) = ((i1 + i2 + i3 + i4 + i5 + i6 + i7 + i8 : Nat) : Int) := by
    rw [wr64 _ (by omega) (by omega)]; omega
  conv => whnf
  rw [hd, hz]
  rfl
end Go.Proofs.Ytnldokebmfojeaa
/- Rules' bytes: what was encoded is decoded as it was, what was decoded is encoded as it stood; no program in sight. Own work. -/
set_option linter.unusedVariables false
set_option maxRecDepth 100000
namespace Go.Proofs.Ytnldokebmfojeaa
open Go Go.RowKit OE

theorem gnS_at {s : List UInt8} {k : Int} (p : List UInt8) (n : Nat) (r : List UInt8) (hn : n ≤ 1000000) (hs : s = p ++ Num.putN n ++ r) (hk : k = p.length) : gnS s k = some (n, (Num.putN n).length) := by
  unfold gnS
  rw [hs, hk, Num.getN_put n p r (by omega)]
  exact if_pos hn
theorem gtS_at {s : List UInt8} {k : Int} (p : List UInt8) (t : List UInt8) (r : List UInt8) (hn : t.length ≤ 16) (hs : s = p ++ Num.putT t ++ r) (hk : k = p.length) : Num.getT s k 16 = some (t, (Num.putT t).length) := by
  rw [hs, hk, Num.getT_put t p r 16 (by omega) (by omega)]
theorem gnS_take {s : List UInt8} {k : Int} {n i : Nat} (h : gnS s k = some (n, i)) (j : Nat) (hj : k.toNat = j) : (s.drop j).take i = Num.putN n ∧ j + i ≤ s.length := by
  unfold gnS at h
  cases hg : Num.getN s k with
  | none => rw [hg] at h; cases h
  | some p =>
    rw [hg] at h
    dsimp only at h
    split at h
    · simp only [Option.some.injEq] at h
      rw [h] at hg
      have hb := Num.getN_bd hg
      rw [← hj]
      exact ⟨Num.getN_take hg, by omega⟩
    · cases h
theorem gtS_take {s : List UInt8} {k most : Int} {t : List UInt8} {i : Nat} (h : Num.getT s k most = some (t, i)) (j : Nat) (hj : k.toNat = j) : (s.drop j).take i = Num.putT t ∧ j + i ≤ s.length := by
  unfold Num.getT at h
  cases hg : Num.getN s k with
  | none => rw [hg] at h; cases h
  | some p =>
    have hb := Num.getN_bd (m := p.1) (k := p.2) hg
    have ht := Num.getN_take (m := p.1) (k := p.2) hg
    rw [hg] at h
    dsimp only at h
    split at h
    · cases h
    · rename_i hc
      simp only [Option.some.injEq, Prod.mk.injEq] at h
      obtain ⟨h1, h2⟩ := h
      rw [hj] at h1 ht hc hb
      have hl : t.length = p.1 := by rw [← h1, List.length_take, List.length_drop, List.length_drop]; omega
      refine ⟨?_, by omega⟩
      unfold Num.putT
      rw [← h2, List.take_add, ht, h1, hl]

theorem toNat_le (x : Int) (h : x ≤ 1000000) : x.toNat ≤ 1000000 := by omega

theorem bytS_len {r : RD.T} (h : okS r = true) : (bytS r).length ≤ 144 := by
  obtain ⟨i0, i1, k0, k1, n0, n1, s0, s1, t0, t1, t2, t3⟩ := okR h
  have p1 := putN_b r.1 i1
  have p2 := putN_b r.2.1 (Int.le_trans k1 (by decide))
  have p3 := putN_b r.2.2.2.2.2.2.2 (Int.le_trans s1 (by decide))
  have p4 := putN_b r.2.2.2.2.2.2.1 (Int.le_trans n1 (by decide))
  have q1 := putT_b t0
  have q2 := putT_b t1
  have q3 := putT_b t2
  have q4 := putT_b t3
  simp only [bytS, List.length_append]
  omega

theorem back1 (r : RD.T) (h : okS r = true) : decS ([120] ++ encS r ++ [120]) 1 = some (r, (encS r).length) := by
  obtain ⟨i0, i1, k0, k1, n0, n1, s0, s1, t0, t1, t2, t3⟩ := okR h
  have k1 : r.2.1 ≤ 1000000 := Int.le_trans k1 (by decide)
  have n1 : r.2.2.2.2.2.2.1 ≤ 1000000 := Int.le_trans n1 (by decide)
  have s1 : r.2.2.2.2.2.2.2 ≤ 1000000 := Int.le_trans s1 (by decide)
  have k0 : 0 ≤ r.2.1 := Int.le_trans (by decide) k0
  have e : encS r = bytS r := by unfold encS; rw [if_pos h]
  rw [e]
  have hd : decP ([120] ++ bytS r ++ [120]) 1 = some (r, (bytS r).length) := by
    obtain ⟨x1, x2, x3, x4, x5, x6, x7, x8⟩ := r
    dsimp only at *
    unfold bytS
    dsimp only
    have y1 := Int.toNat_of_nonneg i0
    have y2 := Int.toNat_of_nonneg k0
    have y7 := Int.toNat_of_nonneg n0
    have y8 := Int.toNat_of_nonneg s0
    generalize hS : ([120] ++ (Num.putN x1.toNat ++ Num.putN x2.toNat ++ Num.putN x8.toNat ++ Num.putN x7.toNat ++ Num.putT x3 ++ Num.putT x4 ++ Num.putT x5 ++ Num.putT x6) ++ [120] : List UInt8) = S
    have g1 := gnS_at (s := S) (k := 1) [120] x1.toNat (Num.putN x2.toNat ++ Num.putN x8.toNat ++ Num.putN x7.toNat ++ Num.putT x3 ++ Num.putT x4 ++ Num.putT x5 ++ Num.putT x6 ++ [120]) (toNat_le _ i1) (by rw [← hS]; simp only [List.append_assoc]) (by simp)
    have g2 := gnS_at (s := S) (k := 1 + ((Num.putN x1.toNat).length : Int)) ([120] ++ Num.putN x1.toNat) x2.toNat (Num.putN x8.toNat ++ Num.putN x7.toNat ++ Num.putT x3 ++ Num.putT x4 ++ Num.putT x5 ++ Num.putT x6 ++ [120]) (toNat_le _ k1) (by rw [← hS]; simp only [List.append_assoc]) (by simp only [List.length_append, List.length_singleton]; omega)
    have g3 := gnS_at (s := S) (k := 1 + ((Num.putN x1.toNat).length : Int) + ((Num.putN x2.toNat).length : Int)) ([120] ++ Num.putN x1.toNat ++ Num.putN x2.toNat) x8.toNat (Num.putN x7.toNat ++ Num.putT x3 ++ Num.putT x4 ++ Num.putT x5 ++ Num.putT x6 ++ [120]) (toNat_le _ s1) (by rw [← hS]; simp only [List.append_assoc]) (by simp only [List.length_append, List.length_singleton]; omega)
    have g4 := gnS_at (s := S) (k := 1 + ((Num.putN x1.toNat).length : Int) + ((Num.putN x2.toNat).length : Int) + ((Num.putN x8.toNat).length : Int)) ([120] ++ Num.putN x1.toNat ++ Num.putN x2.toNat ++ Num.putN x8.toNat) x7.toNat (Num.putT x3 ++ Num.putT x4 ++ Num.putT x5 ++ Num.putT x6 ++ [120]) (toNat_le _ n1) (by rw [← hS]; simp only [List.append_assoc]) (by simp only [List.length_append, List.length_singleton]; omega)
    have g5 := gtS_at (s := S) (k := 1 + ((Num.putN x1.toNat).length : Int) + ((Num.putN x2.toNat).length : Int) + ((Num.putN x8.toNat).length : Int) + ((Num.putN x7.toNat).length : Int)) ([120] ++ Num.putN x1.toNat ++ Num.putN x2.toNat ++ Num.putN x8.toNat ++ Num.putN x7.toNat) x3 (Num.putT x4 ++ Num.putT x5 ++ Num.putT x6 ++ [120]) t0 (by rw [← hS]; simp only [List.append_assoc]) (by simp only [List.length_append, List.length_singleton]; omega)
    have g6 := gtS_at (s := S) (k := 1 + ((Num.putN x1.toNat).length : Int) + ((Num.putN x2.toNat).length : Int) + ((Num.putN x8.toNat).length : Int) + ((Num.putN x7.toNat).length : Int) + ((Num.putT x3).length : Int)) ([120] ++ Num.putN x1.toNat ++ Num.putN x2.toNat ++ Num.putN x8.toNat ++ Num.putN x7.toNat ++ Num.putT x3) x4 (Num.putT x5 ++ Num.putT x6 ++ [120]) t1 (by rw [← hS]; simp only [List.append_assoc]) (by simp only [List.length_append, List.length_singleton]; omega)
    have g7 := gtS_at (s := S) (k := 1 + ((Num.putN x1.toNat).length : Int) + ((Num.putN x2.toNat).length : Int) + ((Num.putN x8.toNat).length : Int) + ((Num.putN x7.toNat).length : Int) + ((Num.putT x3).length : Int) + ((Num.putT x4).length : Int)) ([120] ++ Num.putN x1.toNat ++ Num.putN x2.toNat ++ Num.putN x8.toNat ++ Num.putN x7.toNat ++ Num.putT x3 ++ Num.putT x4) x5 (Num.putT x6 ++ [120]) t2 (by rw [← hS]; simp only [List.append_assoc]) (by simp only [List.length_append, List.length_singleton]; omega)
    have g8 := gtS_at (s := S) (k := 1 + ((Num.putN x1.toNat).length : Int) + ((Num.putN x2.toNat).length : Int) + ((Num.putN x8.toNat).length : Int) + ((Num.putN x7.toNat).length : Int) + ((Num.putT x3).length : Int) + ((Num.putT x4).length : Int) + ((Num.putT x5).length : Int)) ([120] ++ Num.putN x1.toNat ++ Num.putN x2.toNat ++ Num.putN x8.toNat ++ Num.putN x7.toNat ++ Num.putT x3 ++ Num.putT x4 ++ Num.putT x5) x6 [120] t3 (by rw [← hS]; simp only [List.append_assoc]) (by simp only [List.length_append, List.length_singleton]; omega)
    simp only [decP, g1, g2, g3, g4, g5, g6, g7, g8, List.length_append]
    rw [y1, y2, y7, y8]
  simp only [decS, hd, h, if_true]

theorem back2 {s : List UInt8} {q : RD.T} {n : Nat} (h : decS s 0 = some (q, n)) : okS q = true ∧ encS q = s.take n ∧ n ≤ s.length := by
  unfold decS at h
  cases hp : decP s 0 with
  | none => rw [hp] at h; cases h
  | some p =>
    rw [hp] at h
    dsimp only at h
    split at h
    case isFalse => cases h
    rename_i hok
    simp only [Option.some.injEq] at h
    rw [h] at hp hok
    refine ⟨hok, ?_⟩
    unfold encS
    rw [if_pos hok]
    unfold decP at hp
    cases g1 : gnS s 0 with
    | none => rw [g1] at hp; cases hp
    | some p1 =>
    rw [g1] at hp; dsimp only at hp
    cases g2 : gnS s (0 + p1.2) with
    | none => rw [g2] at hp; cases hp
    | some p2 =>
    rw [g2] at hp; dsimp only at hp
    cases g3 : gnS s (0 + p1.2 + p2.2) with
    | none => rw [g3] at hp; cases hp
    | some p3 =>
    rw [g3] at hp; dsimp only at hp
    cases g4 : gnS s (0 + p1.2 + p2.2 + p3.2) with
    | none => rw [g4] at hp; cases hp
    | some p4 =>
    rw [g4] at hp; dsimp only at hp
    cases g5 : Num.getT s (0 + p1.2 + p2.2 + p3.2 + p4.2) 16 with
    | none => rw [g5] at hp; cases hp
    | some p5 =>
    rw [g5] at hp; dsimp only at hp
    cases g6 : Num.getT s (0 + p1.2 + p2.2 + p3.2 + p4.2 + p5.2) 16 with
    | none => rw [g6] at hp; cases hp
    | some p6 =>
    rw [g6] at hp; dsimp only at hp
    cases g7 : Num.getT s (0 + p1.2 + p2.2 + p3.2 + p4.2 + p5.2 + p6.2) 16 with
    | none => rw [g7] at hp; cases hp
    | some p7 =>
    rw [g7] at hp; dsimp only at hp
    cases g8 : Num.getT s (0 + p1.2 + p2.2 + p3.2 + p4.2 + p5.2 + p6.2 + p7.2) 16 with
    | none => rw [g8] at hp; cases hp
    | some p8 =>
    rw [g8] at hp; dsimp only at hp
    simp only [Option.some.injEq, Prod.mk.injEq] at hp
    obtain ⟨rfl, rfl⟩ := hp
    have t1 := gnS_take (n := p1.1) (i := p1.2) g1 0 rfl
    have t2 := gnS_take (n := p2.1) (i := p2.2) g2 p1.2 (by omega)
    have t3 := gnS_take (n := p3.1) (i := p3.2) g3 (p1.2 + p2.2) (by omega)
    have t4 := gnS_take (n := p4.1) (i := p4.2) g4 (p1.2 + p2.2 + p3.2) (by omega)
    have t5 := gtS_take (t := p5.1) (i := p5.2) g5 (p1.2 + p2.2 + p3.2 + p4.2) (by omega)
    have t6 := gtS_take (t := p6.1) (i := p6.2) g6 (p1.2 + p2.2 + p3.2 + p4.2 + p5.2) (by omega)
    have t7 := gtS_take (t := p7.1) (i := p7.2) g7 (p1.2 + p2.2 + p3.2 + p4.2 + p5.2 + p6.2) (by omega)
    have t8 := gtS_take (t := p8.1) (i := p8.2) g8 (p1.2 + p2.2 + p3.2 + p4.2 + p5.2 + p6.2 + p7.2) (by omega)
    refine ⟨?_, t8.2⟩
    unfold bytS
    rw [List.take_add, List.take_add, List.take_add, List.take_add, List.take_add, List.take_add, List.take_add, t2.1, t3.1, t4.1, t5.1, t6.1, t7.1, t8.1, show s.take p1.2 = Num.putN p1.1 from t1.1]
    rfl
end Go.Proofs.Ytnldokebmfojeaa
/- Values' and properties' bytes: what was encoded is decoded as it was, what was decoded is encoded as it stood; no program in sight. Own work. -/
set_option linter.unusedVariables false
set_option maxRecDepth 100000
namespace Go.Proofs.Ytnldokebmfojeaa
open Go Go.RowKit OE

theorem zag_zig' (b : Int) : Num.zag (Num.zig b) = b := by
  unfold Num.zag Num.zig
  split <;> split <;> omega
theorem zig_zag' (u : Nat) : Num.zig (Num.zag u) = u := by
  unfold Num.zag Num.zig
  split <;> split <;> omega
theorem kb_small {n : Nat} (h : n < 256) : kb (n : Int) = [UInt8.ofNat n] := by
  unfold kb
  rw [wru8, show ((n : Int) % 256) = n by omega]
  rfl
theorem bt_at (p : List UInt8) (c : UInt8) (r : List UInt8) : bt (p ++ c :: r) (p.length : Int) = (c.toNat : Int) := by
  rw [bt_nat _ _ (by simp)]
  simp
theorem bt_at' {s : List UInt8} {k : Int} (p : List UInt8) (c : UInt8) (r : List UInt8) (hs : s = p ++ c :: r) (hk : k = p.length) : bt s k = (c.toNat : Int) := by
  rw [hs, hk, bt_at]
theorem blank_is {v : VD.T} (h : blankV v = true) : v = (0, 0, []) := by
  rw [← blank_eq] at h
  exact (D.eqb_iff VD v (0, 0, [])).1 h
theorem encV_blank : encV ((0, 0, []) : VD.T) = [0] := rfl

theorem decV_enc {v : VD.T} (hv : Wf VD v) (h : blankV v = true ∨ goodV v = true) (p r : List UInt8) {s : List UInt8} {k : Int} (hs : s = p ++ encV v ++ r) (hk : k = p.length) :
    decV s k = some (v, (encV v).length) := by
  by_cases hb : blankV v = true
  · have e := blank_is hb
    subst e
    rw [encV_blank] at hs ⊢
    have h0 : bt s k = 0 := by rw [bt_at' (s := s) (k := k) p 0 r (by rw [hs]; simp) hk]; rfl
    have hr : ¬ (k < 0 ∨ (s.length : Int) ≤ k) := by rw [hs, hk]; simp; omega
    unfold decV decB
    rw [if_neg hr, if_pos h0]
    rfl
  have hg : goodV v = true := h.resolve_left hb
  obtain ⟨x, y, t⟩ := v
  have hz := wf_i64 hv.2.1
  have hx : x = 1 ∨ x = 2 ∨ x = 3 := by
    unfold goodV at hg
    dsimp only at hg
    split at hg
    · exact .inl (by assumption)
    · split at hg
      · exact .inr (.inl (by assumption))
      · split at hg
        · exact .inr (.inr (by assumption))
        · cases hg
  rcases hx with rfl | rfl | rfl
  · have hE : encV ((1, y, t) : VD.T) = [1] ++ byl [IntKind.wrap .u8 y] := by
      unfold encV; rw [if_neg hb, if_pos hg]; rfl
    have hgg : (y = 0 ∨ y = 1) ∧ t = [] := by
      have : good1 ((1, y, t) : VD.T) = true := hg
      simpa [good1] using this
    obtain ⟨hy, rfl⟩ := hgg
    rw [hE] at hs ⊢
    have hby : byl [IntKind.wrap .u8 y] = [UInt8.ofNat y.toNat] := by rcases hy with rfl | rfl <;> rfl
    rw [hby] at hs ⊢
    have h0 : bt s k = 1 := by rw [bt_at' (s := s) (k := k) p 1 (UInt8.ofNat y.toNat :: r) (by rw [hs]; simp) hk]; rfl
    have h1 : bt s (k + 1) = y := by
      rw [bt_at' (s := s) (k := k + 1) (p ++ [1]) (UInt8.ofNat y.toNat) r (by rw [hs]; simp) (by rw [hk]; simp)]
      rcases hy with rfl | rfl <;> rfl
    have hr : ¬ (k < 0 ∨ (s.length : Int) ≤ k) := by rw [hs, hk]; simp; omega
    have hr2 : k + 1 < s.length := by rw [hs, hk]; simp; omega
    unfold decV decB
    rw [if_neg hr, h0, h1]
    rw [if_neg (by decide), if_pos rfl, if_pos ⟨hr2, by rcases hy with rfl | rfl <;> decide⟩]
    rfl
  · have hE : encV ((2, y, t) : VD.T) = [2] ++ Num.putZ y := by
      unfold encV; rw [if_neg hb, if_pos hg]; rfl
    have ht : t = [] := by
      have : decide (t = []) = true := hg
      simpa using this
    subst ht
    rw [hE] at hs ⊢
    have h0 : bt s k = 2 := by rw [bt_at' (s := s) (k := k) p 2 (Num.putZ y ++ r) (by rw [hs]; simp) hk]; rfl
    have hr : ¬ (k < 0 ∨ (s.length : Int) ≤ k) := by rw [hs, hk]; simp; omega
    have hgn : Num.getN s (k + 1) = some (Num.zig y, (Num.putZ y).length) := by
      have := Num.getN_put (Num.zig y) (p ++ [2]) r (zig_bd y hz.1 hz.2)
      rw [show s = p ++ [2] ++ Num.putN (Num.zig y) ++ r by rw [hs]; simp [Num.putZ], show k + 1 = ((p ++ [2]).length : Int) by rw [hk]; simp]
      exact this
    unfold decV decB
    rw [if_neg hr, h0, hgn]
    dsimp only
    rw [if_neg (by decide), if_neg (by decide), if_pos rfl, zag_zig', List.length_append]
    rw [Nat.add_comm]; rfl
  · have hE : encV ((3, y, t) : VD.T) = [3] ++ Num.putT t := by
      unfold encV; rw [if_neg hb, if_pos hg]; rfl
    have hgg : y = 0 ∧ (t.length : Int) ≤ 1024 := by
      have : good3 ((3, y, t) : VD.T) = true := hg
      simpa [good3] using this
    obtain ⟨rfl, hl⟩ := hgg
    rw [hE] at hs ⊢
    have h0 : bt s k = 3 := by rw [bt_at' (s := s) (k := k) p 3 (Num.putT t ++ r) (by rw [hs]; simp) hk]; rfl
    have hr : ¬ (k < 0 ∨ (s.length : Int) ≤ k) := by rw [hs, hk]; simp; omega
    have hgn : Num.getT s (k + 1) 1024 = some (t, (Num.putT t).length) := by
      have := Num.getT_put t (p ++ [3]) r 1024 hl (by omega)
      rw [show s = p ++ [3] ++ Num.putT t ++ r by rw [hs]; simp, show k + 1 = ((p ++ [3]).length : Int) by rw [hk]; simp]
      exact this
    unfold decV decB
    rw [if_neg hr, h0, hgn]
    dsimp only
    rw [if_neg (by decide), if_neg (by decide), if_neg (by decide), if_pos rfl, List.length_append]
    rw [Nat.add_comm]; rfl

theorem drop_take1 {s : List UInt8} {k : Nat} (h : k < s.length) (j : Nat) : (s.drop k).take (j + 1) = s[k] :: (s.drop (k + 1)).take j := by
  rw [List.drop_eq_getElem_cons h, List.take_succ_cons]
theorem kb_bt {s : List UInt8} {k : Nat} (h : k < s.length) : kb (bt s (k : Int)) = [s[k]] := by
  rw [bt_nat s k h, kb_small (UInt8.toNat_lt _)]
  simp
theorem getT_take' {s : List UInt8} {k most : Int} {t : List UInt8} {i : Nat} (h : Num.getT s k most = some (t, i)) (hk : 0 ≤ most) : (t.length : Int) ≤ most := by
  unfold Num.getT at h
  cases hg : Num.getN s k with
  | none => rw [hg] at h; cases h
  | some p =>
    rw [hg] at h
    dsimp only at h
    split at h
    · cases h
    · rename_i hc
      simp only [Option.some.injEq, Prod.mk.injEq] at h
      obtain ⟨h1, h2⟩ := h
      have : t.length ≤ p.1 := by rw [← h1, List.length_take]; omega
      omega
theorem decV_take {s : List UInt8} {k : Int} {v : VD.T} {j : Nat} (h : decV s k = some (v, j)) : (s.drop k.toNat).take j = encV v := by
  unfold decV at h
  split at h
  · cases h
  rename_i hr
  obtain ⟨n, rfl⟩ : ∃ n : Nat, k = n := ⟨k.toNat, by omega⟩
  have hn : n < s.length := by omega
  have hkb := kb_bt hn
  rw [Int.toNat_natCast]
  unfold decB at h
  split at h
  · rename_i h0
    simp only [Option.some.injEq, Prod.mk.injEq] at h
    obtain ⟨rfl, rfl⟩ := h
    rw [h0] at hkb
    rw [drop_take1 hn 0, encV_blank, List.take_zero]
    exact hkb.symm
  split at h
  · rename_i h0
    split at h
    · rename_i h1
      simp only [Option.some.injEq, Prod.mk.injEq] at h
      obtain ⟨rfl, rfl⟩ := h
      have hn1 : n + 1 < s.length := by omega
      have hb1 : bt s ((n : Int) + 1) = (s[n + 1].toNat : Int) := bt_nat s (n + 1) hn1
      have hkb1 := kb_bt hn1
      rw [h0] at hkb
      have h2 := h1.2
      rw [hb1] at h2 ⊢
      rw [show (bt s (((n + 1 : Nat)) : Int)) = (s[n + 1].toNat : Int) from hb1] at hkb1
      have hy : (s[n + 1].toNat : Int) = 0 ∨ (s[n + 1].toNat : Int) = 1 := by omega
      have hg : goodV ((1, (s[n + 1].toNat : Int), []) : VD.T) = true := by
        show good1 ((1, (s[n + 1].toNat : Int), []) : VD.T) = true
        simp only [good1, decide_true, Bool.and_true, Bool.or_eq_true, decide_eq_true_eq]
        exact hy
      have hb : ¬ blankV ((1, (s[n + 1].toNat : Int), []) : VD.T) = true := by simp [blankV]
      unfold encV
      rw [if_neg hb, if_pos hg]
      dsimp only
      rw [if_pos rfl, drop_take1 hn 1, drop_take1 hn1 0, List.take_zero]
      unfold kb at hkb hkb1 ⊢
      rw [hkb, hkb1]; rfl
    · cases h
  split at h
  · rename_i h0
    cases hg : Num.getN s ((n : Int) + 1) with
    | none => rw [hg] at h; cases h
    | some p =>
      rw [hg] at h
      simp only [Option.some.injEq, Prod.mk.injEq] at h
      obtain ⟨rfl, rfl⟩ := h
      have ht := Num.getN_take (m := p.1) (k := p.2) hg
      rw [show ((n : Int) + 1).toNat = n + 1 by omega] at ht
      rw [h0] at hkb
      have hgd : goodV ((2, Num.zag p.1, []) : VD.T) = true := rfl
      have hb : ¬ blankV ((2, Num.zag p.1, []) : VD.T) = true := by simp [blankV]
      unfold encV
      rw [if_neg hb, if_pos hgd]
      dsimp only
      rw [if_neg (by decide), if_pos rfl, drop_take1 hn p.2, ht]
      unfold Num.putZ
      rw [zig_zag', hkb]; rfl
  split at h
  · rename_i h0
    cases hg : Num.getT s ((n : Int) + 1) 1024 with
    | none => rw [hg] at h; cases h
    | some p =>
      rw [hg] at h
      simp only [Option.some.injEq, Prod.mk.injEq] at h
      obtain ⟨rfl, rfl⟩ := h
      have ht := (gtS_take (t := p.1) (i := p.2) hg (n + 1) (by omega)).1
      have hl := getT_take' (t := p.1) (i := p.2) hg (by decide)
      rw [h0] at hkb
      have hgd : goodV ((3, 0, p.1) : VD.T) = true := by
        show good3 ((3, 0, p.1) : VD.T) = true
        simp only [good3, decide_true, Bool.true_and, decide_eq_true_eq]
        exact hl
      have hb : ¬ blankV ((3, 0, p.1) : VD.T) = true := by simp [blankV]
      unfold encV
      rw [if_neg hb, if_pos hgd]
      dsimp only
      rw [if_neg (by decide), if_neg (by decide), drop_take1 hn p.2, ht, hkb]; rfl
  · cases h

theorem encL_cons (p : PD.T) (l : List PD.T) : encL (p :: l) = enc1 p ++ encL l := by
  unfold encL; rw [List.map_cons, List.flatten_cons]
theorem decL_enc : ∀ {l : List PD.T} (_ : ∀ p ∈ l, Wf PD p ∧ nameS p.1 = true ∧ goodV p.2 = true) (p r : List UInt8) {s : List UInt8} {k : Int} (_ : s = p ++ encL l ++ r) (_ : k = p.length),
    decL l.length s k = some (l, (encL l).length)
  | [], _, _, _, _, _, _, _ => rfl
  | q :: l, h, p, r, s, k, hs, hk => by
    have hq := h q (by simp)
    have hl := name_len hq.2.1
    rw [encL_cons] at hs ⊢
    unfold enc1 at hs ⊢
    have g1 := gtS_at (s := s) (k := k) p q.1 (encV q.2 ++ encL l ++ r) (by omega) (by rw [hs]; simp only [List.append_assoc]) hk
    have g2 := decV_enc (s := s) (k := k + ((Num.putT q.1).length : Int)) hq.1.2 (.inr hq.2.2) (p ++ Num.putT q.1) (encL l ++ r) (by rw [hs]; simp only [List.append_assoc]) (by rw [hk, List.length_append]; omega)
    have g3 := decL_enc (l := l) (fun x hx => h x (by simp [hx])) (p ++ Num.putT q.1 ++ encV q.2) r (s := s) (k := k + ((Num.putT q.1).length : Int) + ((encV q.2).length : Int)) (by rw [hs]; simp only [List.append_assoc]) (by rw [hk, List.length_append, List.length_append]; omega)
    rw [List.length_cons, decL, g1]
    dsimp only
    rw [g2]
    dsimp only
    rw [g3]
    dsimp only
    rw [List.length_append, List.length_append]
theorem decL_take : ∀ {n : Nat} {s : List UInt8} {k : Int} {l : List PD.T} {m : Nat}, 0 ≤ k → decL n s k = some (l, m) → (s.drop k.toNat).take m = encL l ∧ l.length = n ∧ ∀ p ∈ l, (Lit.int .i64 p.2.1).wf = true
  | 0, s, k, l, m, _, h => by
    simp only [decL, Option.some.injEq, Prod.mk.injEq] at h
    obtain ⟨rfl, rfl⟩ := h
    exact ⟨rfl, rfl, by simp⟩
  | n + 1, s, k, l, m, h0, h => by
    rw [decL] at h
    cases g1 : Num.getT s k 16 with
    | none => rw [g1] at h; cases h
    | some p1 =>
    rw [g1] at h; dsimp only at h
    cases g2 : decV s (k + p1.2) with
    | none => rw [g2] at h; cases h
    | some p2 =>
    rw [g2] at h; dsimp only at h
    cases g3 : decL n s (k + p1.2 + p2.2) with
    | none => rw [g3] at h; cases h
    | some p3 =>
    rw [g3] at h; dsimp only at h
    simp only [Option.some.injEq, Prod.mk.injEq] at h
    obtain ⟨rfl, rfl⟩ := h
    have t1 := (gtS_take (t := p1.1) (i := p1.2) g1 k.toNat rfl).1
    have t2 := decV_take (v := p2.1) (j := p2.2) g2
    have t3 := decL_take (l := p3.1) (m := p3.2) (by omega) g3
    rw [show (k + (p1.2 : Int)).toNat = k.toNat + p1.2 by omega] at t2
    rw [show (k + (p1.2 : Int) + (p2.2 : Int)).toNat = k.toNat + p1.2 + p2.2 by omega] at t3
    refine ⟨?_, by rw [List.length_cons, t3.2.1], fun q hq => ?_⟩
    · rw [encL_cons, List.take_add, List.take_add, List.drop_drop, List.drop_drop, ← Nat.add_assoc, t1, t2, t3.1]; rfl
    · rcases List.mem_cons.1 hq with rfl | hq
      · exact decV_kind (v := p2.1) (j := p2.2) g2
      · exact t3.2.2 q hq
theorem decPs_enc {l : List PD.T} (hl : Wf (.list PD) l) (h : propsS l = true) (p r : List UInt8) {s : List UInt8} {k : Int} (hs : s = p ++ encPs l ++ r) (hk : k = p.length) : decPs s k = some (l, (encPs l).length) := by
  have ha := props_all h
  have hE : encPs l = Num.putN l.length ++ encL l := if_pos h
  rw [hE] at hs ⊢
  have g1 : Num.getN s k = some (l.length, (Num.putN l.length).length) := by
    rw [show s = p ++ Num.putN l.length ++ (encL l ++ r) by rw [hs]; simp only [List.append_assoc], hk]
    exact Num.getN_put l.length p _ (by omega)
  have g2 := decL_enc (l := l) (fun q hq => ⟨hl.2 q hq, ha.2 q hq⟩) (p ++ Num.putN l.length) r (s := s) (k := k + ((Num.putN l.length).length : Int)) (by rw [hs]; simp only [List.append_assoc]) (by rw [hk, List.length_append]; omega)
  unfold decPs
  rw [g1]
  dsimp only
  rw [if_neg (by omega), g2]
  dsimp only
  rw [if_pos h, List.length_append]
theorem decL_bd : ∀ {n : Nat} {s : List UInt8} {k : Int} {l : List PD.T} {m : Nat}, decL n s k = some (l, m) → k ≤ s.length → k + m ≤ s.length
  | 0, s, k, l, m, h, h0 => by
    simp only [decL, Option.some.injEq, Prod.mk.injEq] at h
    omega
  | n + 1, s, k, l, m, h, h0 => by
    rw [decL] at h
    cases g1 : Num.getT s k 16 with
    | none => rw [g1] at h; cases h
    | some p1 =>
    rw [g1] at h; dsimp only at h
    cases g2 : decV s (k + p1.2) with
    | none => rw [g2] at h; cases h
    | some p2 =>
    rw [g2] at h; dsimp only at h
    cases g3 : decL n s (k + p1.2 + p2.2) with
    | none => rw [g3] at h; cases h
    | some p3 =>
    rw [g3] at h; dsimp only at h
    simp only [Option.some.injEq, Prod.mk.injEq] at h
    have b2 := decV_bd (v := p2.1) (j := p2.2) g2
    have b3 := decL_bd (l := p3.1) (m := p3.2) g3 (by omega)
    omega
theorem decPs_take {s : List UInt8} {l : List PD.T} {m : Nat} (h : decPs s 0 = some (l, m)) : propsS l = true ∧ s.take m = encPs l ∧ m ≤ s.length ∧ ∀ p ∈ l, (Lit.int .i64 p.2.1).wf = true := by
  unfold decPs at h
  cases g1 : Num.getN s 0 with
  | none => rw [g1] at h; cases h
  | some p1 =>
  rw [g1] at h; dsimp only at h
  split at h
  · cases h
  cases g2 : decL p1.1 s (0 + p1.2) with
  | none => rw [g2] at h; cases h
  | some p2 =>
  rw [g2] at h; dsimp only at h
  split at h
  case isFalse => cases h
  rename_i hp
  simp only [Option.some.injEq, Prod.mk.injEq] at h
  obtain ⟨rfl, rfl⟩ := h
  have t1 := Num.getN_take (m := p1.1) (k := p1.2) g1
  have t2 := decL_take (l := p2.1) (m := p2.2) (by omega) g2
  rw [show ((0 : Int) + (p1.2 : Int)).toNat = p1.2 by omega] at t2
  refine ⟨hp, ?_, ?_, t2.2.2⟩
  · unfold encPs
    rw [if_pos hp, List.take_add, t2.1, t2.2.1, show s.take p1.2 = Num.putN p1.1 from t1]
  · have b1 := Num.getN_bd (m := p1.1) (k := p1.2) g1
    have b2 := decL_bd (l := p2.1) (m := p2.2) g2 (by omega)
    omega

theorem i64_ok {a : Int} (h0 : -9223372036854775808 ≤ a) (h1 : a ≤ 9223372036854775807) : (Lit.int .i64 a).wf = true := by
  simpa [Lit.wf, IntKind.min, IntKind.max, IntKind.bits, IntKind.signed] using ⟨h0, h1⟩
theorem zag_bd (u : Nat) (h : u < 18446744073709551616) : -9223372036854775808 ≤ Num.zag u ∧ Num.zag u ≤ 9223372036854775807 := by
  unfold Num.zag; split <;> omega
theorem decV_wf {s : List UInt8} {k : Int} {v : VD.T} {j : Nat} (h : decV s k = some (v, j)) : Wf VD v := by
  have hk := decV_kind h
  refine ⟨hk, ?_⟩
  clear hk
  unfold decV at h
  split at h
  · cases h
  unfold decB at h
  split at h
  · simp only [Option.some.injEq, Prod.mk.injEq] at h
    rw [← h.1]; exact ⟨rfl, by simp [Wf]⟩
  split at h
  · split at h
    · simp only [Option.some.injEq, Prod.mk.injEq] at h
      have hb := bt_rng s (k + 1)
      rw [← h.1]; exact ⟨show (Lit.int .i64 (bt s (k + 1))).wf = true from i64_ok (by omega) (by omega), by simp [Wf]⟩
    · cases h
  split at h
  · cases hg : Num.getN s (k + 1) with
    | none => rw [hg] at h; cases h
    | some p =>
      have hb := Num.getN_bd (m := p.1) (k := p.2) hg
      have hz := zag_bd p.1 (Nat.lt_of_lt_of_le hb.1 (by decide))
      rw [hg] at h
      simp only [Option.some.injEq, Prod.mk.injEq] at h
      rw [← h.1]; exact ⟨i64_ok hz.1 hz.2, by simp [Wf]⟩
  split at h
  · cases hg : Num.getT s (k + 1) 1024 with
    | none => rw [hg] at h; cases h
    | some p =>
      have hl := getT_take' (t := p.1) (i := p.2) hg (by decide)
      rw [hg] at h
      simp only [Option.some.injEq, Prod.mk.injEq] at h
      rw [← h.1]; exact ⟨rfl, by show p.1.length ≤ _; omega⟩
  · cases h
theorem decL_wf : ∀ {n : Nat} {s : List UInt8} {k : Int} {l : List PD.T} {m : Nat}, decL n s k = some (l, m) → ∀ p ∈ l, Wf PD p
  | 0, s, k, l, m, h => by
    simp only [decL, Option.some.injEq, Prod.mk.injEq] at h
    rw [← h.1]; simp
  | n + 1, s, k, l, m, h => by
    rw [decL] at h
    cases g1 : Num.getT s k 16 with
    | none => rw [g1] at h; cases h
    | some p1 =>
    rw [g1] at h; dsimp only at h
    cases g2 : decV s (k + p1.2) with
    | none => rw [g2] at h; cases h
    | some p2 =>
    rw [g2] at h; dsimp only at h
    cases g3 : decL n s (k + p1.2 + p2.2) with
    | none => rw [g3] at h; cases h
    | some p3 =>
    rw [g3] at h; dsimp only at h
    simp only [Option.some.injEq, Prod.mk.injEq] at h
    intro q hq
    rw [← h.1] at hq
    rcases List.mem_cons.1 hq with rfl | hq
    · have hl := getT_take' (t := p1.1) (i := p1.2) g1 (by decide)
      exact ⟨by show p1.1.length ≤ _; omega, decV_wf (v := p2.1) (j := p2.2) g2⟩
    · exact decL_wf (l := p3.1) (m := p3.2) g3 q hq
theorem decPs_wf {s : List UInt8} {k : Int} {l : List PD.T} {m : Nat} (h : decPs s k = some (l, m)) : Wf (.list PD) l := by
  unfold decPs at h
  cases g1 : Num.getN s k with
  | none => rw [g1] at h; cases h
  | some p1 =>
  rw [g1] at h; dsimp only at h
  split at h
  · cases h
  cases g2 : decL p1.1 s (k + p1.2) with
  | none => rw [g2] at h; cases h
  | some p2 =>
  rw [g2] at h; dsimp only at h
  split at h
  case isFalse => cases h
  rename_i hp
  simp only [Option.some.injEq, Prod.mk.injEq] at h
  rw [← h.1]
  exact ⟨by have := (props_all hp).1; show p2.1.length ≤ _; omega, decL_wf (l := p2.1) (m := p2.2) g2⟩
end Go.Proofs.Ytnldokebmfojeaa
