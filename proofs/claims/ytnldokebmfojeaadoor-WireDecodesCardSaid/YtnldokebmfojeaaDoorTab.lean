/- The types of this seat's translation, as the engine wants them; short rules. Written by a program of the session (oegen.py). -/
import Derived.Test.YtnldokebmfojeaaDoorProg
import Derived.KernelRfl
import Derived.Test.YtnldokebmfojeaaDoorOeRange
import Derived.Test.YtnldokebmfojeaaDoorOePart
set_option linter.unusedVariables false
namespace Go.Proofs.YtnldokebmfojeaaDoor
open Go Go.RowKit OE
def tab : List (Nat × TI) := [
  (1, ⟨.other, 1, 8, [.val .nilFunc], .bool⟩),
  (2, ⟨.int .i64, 1, 8, [.int .i64 0], (.int .i64)⟩),
  (3, ⟨.int .i64, 1, 8, [.int .i64 0], (.int .i64)⟩),
  (4, ⟨.bool, 1, 1, [.bool .ff], .bool⟩),
  (5, ⟨.int .u8, 1, 1, [.int .u8 0], (.int .u8)⟩),
  (6, ⟨.int .u8, 1, 1, [.int .u8 0], (.int .u8)⟩),
  (7, ⟨.strct [(0, 1, false), (1, 1, false), (2, 1, false), (3, 1, false)], 4, 24, [.int .i64 0, .int .i64 0, .bool .ff, .int .u8 0], (.pair (.int .i64) (.pair (.int .i64) (.pair .bool (.int .u8))))⟩),
  (8, ⟨.strct [(0, 1, false), (1, 1, false), (2, 1, false), (3, 1, false)], 4, 24, [.int .i64 0, .int .i64 0, .bool .ff, .int .u8 0], (.pair (.int .i64) (.pair (.int .i64) (.pair .bool (.int .u8))))⟩),
  (9, ⟨.str, 1, 16, [.str []], .str⟩),
  (10, ⟨.str, 1, 16, [.str []], .str⟩),
  (11, ⟨.str, 1, 16, [.str []], .str⟩),
  (12, ⟨.int .u64, 1, 8, [.int .u64 0], (.int .u64)⟩),
  (13, ⟨.strct [(0, 1, false), (1, 1, false)], 2, 24, [.str [], .int .u64 0], (.pair .str (.int .u64))⟩),
  (14, ⟨.strct [(0, 1, false), (1, 1, false)], 2, 24, [.str [], .int .u64 0], (.pair .str (.int .u64))⟩),
  (15, ⟨.ptr 147, 1, 8, [.val (.pointer none)], .bool⟩),
  (16, ⟨.ptr 150, 1, 8, [.val (.pointer none)], .bool⟩),
  (17, ⟨.ptr 159, 1, 8, [.val (.pointer none)], .bool⟩),
  (18, ⟨.strct [(0, 1, false)], 1, 8, [.val (.pointer none)], .bool⟩),
  (19, ⟨.strct [(0, 1, false)], 1, 8, [.val (.pointer none)], .bool⟩),
  (20, ⟨.other, 1, 16, [.val .nilIface], .bool⟩),
  (21, ⟨.int .i32, 1, 4, [.int .i32 0], (.int .i32)⟩),
  (22, ⟨.strct [(0, 1, false), (1, 1, false), (2, 1, false)], 3, 32, [.int .i64 0, .int .i64 0, .str []], (.pair (.int .i64) (.pair (.int .i64) .str))⟩),
  (23, ⟨.strct [(0, 1, false), (1, 1, false), (2, 1, false)], 3, 32, [.int .i64 0, .int .i64 0, .str []], (.pair (.int .i64) (.pair (.int .i64) .str))⟩),
  (24, ⟨.strct [(0, 1, false), (1, 1, false), (2, 1, false), (3, 1, false), (4, 1, false), (5, 1, false), (6, 3, true), (9, 1, false)], 10, 104, [.int .i64 0, .int .i64 0, .str [], .int .i64 0, .int .i64 0, .str [], .int .i64 0, .int .i64 0, .str [], .bool .ff], (.pair (.int .i64) (.pair (.int .i64) (.pair .str (.pair (.int .i64) (.pair (.int .i64) (.pair .str (.pair (.pair (.int .i64) (.pair (.int .i64) .str)) .bool)))))))⟩),
  (25, ⟨.strct [(0, 1, false), (1, 1, false), (2, 1, false), (3, 1, false), (4, 1, false), (5, 1, false), (6, 3, true), (9, 1, false)], 10, 104, [.int .i64 0, .int .i64 0, .str [], .int .i64 0, .int .i64 0, .str [], .int .i64 0, .int .i64 0, .str [], .bool .ff], (.pair (.int .i64) (.pair (.int .i64) (.pair .str (.pair (.int .i64) (.pair (.int .i64) (.pair .str (.pair (.pair (.int .i64) (.pair (.int .i64) .str)) .bool)))))))⟩),
  (26, ⟨.strct [(0, 1, false), (1, 1, false), (2, 1, false), (3, 1, false), (4, 1, false), (5, 1, false), (6, 1, false), (7, 1, false)], 8, 96, [.int .i64 0, .int .i64 0, .str [], .str [], .str [], .str [], .int .i64 0, .int .i64 0], (.pair (.int .i64) (.pair (.int .i64) (.pair .str (.pair .str (.pair .str (.pair .str (.pair (.int .i64) (.int .i64))))))))⟩),
  (27, ⟨.strct [(0, 1, false), (1, 1, false), (2, 1, false), (3, 1, false), (4, 1, false), (5, 1, false), (6, 1, false), (7, 1, false)], 8, 96, [.int .i64 0, .int .i64 0, .str [], .str [], .str [], .str [], .int .i64 0, .int .i64 0], (.pair (.int .i64) (.pair (.int .i64) (.pair .str (.pair .str (.pair .str (.pair .str (.pair (.int .i64) (.int .i64))))))))⟩),
  (28, ⟨.strct [(0, 1, false), (1, 1, false), (2, 1, false), (3, 1, false), (4, 3, true), (7, 3, true), (10, 1, false), (11, 10, true), (21, 8, true)], 29, 320, [.int .i64 0, .int .i64 0, .str [], .str [], .int .i64 0, .int .i64 0, .str [], .int .i64 0, .int .i64 0, .str [], .int .i64 0, .int .i64 0, .int .i64 0, .str [], .int .i64 0, .int .i64 0, .str [], .int .i64 0, .int .i64 0, .str [], .bool .ff, .int .i64 0, .int .i64 0, .str [], .str [], .str [], .str [], .int .i64 0, .int .i64 0], (.pair (.int .i64) (.pair (.int .i64) (.pair .str (.pair .str (.pair (.pair (.int .i64) (.pair (.int .i64) .str)) (.pair (.pair (.int .i64) (.pair (.int .i64) .str)) (.pair (.int .i64) (.pair (.pair (.int .i64) (.pair (.int .i64) (.pair .str (.pair (.int .i64) (.pair (.int .i64) (.pair .str (.pair (.pair (.int .i64) (.pair (.int .i64) .str)) .bool))))))) (.pair (.int .i64) (.pair (.int .i64) (.pair .str (.pair .str (.pair .str (.pair .str (.pair (.int .i64) (.int .i64))))))))))))))))⟩),
  (29, ⟨.strct [(0, 1, false), (1, 1, false), (2, 1, false), (3, 1, false), (4, 3, true), (7, 3, true), (10, 1, false), (11, 10, true), (21, 8, true)], 29, 320, [.int .i64 0, .int .i64 0, .str [], .str [], .int .i64 0, .int .i64 0, .str [], .int .i64 0, .int .i64 0, .str [], .int .i64 0, .int .i64 0, .int .i64 0, .str [], .int .i64 0, .int .i64 0, .str [], .int .i64 0, .int .i64 0, .str [], .bool .ff, .int .i64 0, .int .i64 0, .str [], .str [], .str [], .str [], .int .i64 0, .int .i64 0], (.pair (.int .i64) (.pair (.int .i64) (.pair .str (.pair .str (.pair (.pair (.int .i64) (.pair (.int .i64) .str)) (.pair (.pair (.int .i64) (.pair (.int .i64) .str)) (.pair (.int .i64) (.pair (.pair (.int .i64) (.pair (.int .i64) (.pair .str (.pair (.int .i64) (.pair (.int .i64) (.pair .str (.pair (.pair (.int .i64) (.pair (.int .i64) .str)) .bool))))))) (.pair (.int .i64) (.pair (.int .i64) (.pair .str (.pair .str (.pair .str (.pair .str (.pair (.int .i64) (.int .i64))))))))))))))))⟩),
  (30, ⟨.other, 1, 8, [.val .nilFunc], .bool⟩),
  (31, ⟨.other, 1, 8, [.val .nilFunc], .bool⟩),
  (32, ⟨.int .i64, 1, 8, [.int .i64 0], (.int .i64)⟩),
  (34, ⟨.other, 1, 8, [.val .nilFunc], .bool⟩),
  (36, ⟨.other, 1, 8, [.val .nilFunc], .bool⟩),
  (38, ⟨.other, 1, 8, [.val .nilFunc], .bool⟩),
  (40, ⟨.other, 1, 8, [.val .nilFunc], .bool⟩),
  (41, ⟨.other, 1, 8, [.val .nilFunc], .bool⟩),
  (42, ⟨.other, 1, 8, [.val .nilFunc], .bool⟩),
  (44, ⟨.other, 1, 8, [.val .nilFunc], .bool⟩),
  (45, ⟨.strct [(0, 1, false), (1, 1, false)], 2, 24, [.str [], .int .i64 0], (.pair .str (.int .i64))⟩),
  (46, ⟨.strct [(0, 1, false), (1, 1, false)], 2, 24, [.str [], .int .i64 0], (.pair .str (.int .i64))⟩),
  (48, ⟨.other, 1, 8, [.val .nilFunc], .bool⟩),
  (49, ⟨.other, 1, 8, [.val .nilFunc], .bool⟩),
  (50, ⟨.slice 29, 1, 24, [.val (.slice none 0 0)], (.list (.pair (.int .i64) (.pair (.int .i64) (.pair .str (.pair .str (.pair (.pair (.int .i64) (.pair (.int .i64) .str)) (.pair (.pair (.int .i64) (.pair (.int .i64) .str)) (.pair (.int .i64) (.pair (.pair (.int .i64) (.pair (.int .i64) (.pair .str (.pair (.int .i64) (.pair (.int .i64) (.pair .str (.pair (.pair (.int .i64) (.pair (.int .i64) .str)) .bool))))))) (.pair (.int .i64) (.pair (.int .i64) (.pair .str (.pair .str (.pair .str (.pair .str (.pair (.int .i64) (.int .i64)))))))))))))))))⟩),
  (51, ⟨.slice 9, 1, 24, [.val (.slice none 0 0)], (.list .str)⟩),
  (52, ⟨.other, 1, 8, [.val .nilFunc], .bool⟩),
  (53, ⟨.other, 1, 8, [.val .nilFunc], .bool⟩),
  (54, ⟨.other, 1, 8, [.val .nilFunc], .bool⟩),
  (55, ⟨.other, 1, 8, [.val .nilFunc], .bool⟩),
  (56, ⟨.other, 1, 8, [.val .nilFunc], .bool⟩),
  (58, ⟨.other, 1, 8, [.val .nilFunc], .bool⟩),
  (59, ⟨.other, 1, 8, [.val .nilFunc], .bool⟩),
  (60, ⟨.other, 1, 8, [.val .nilFunc], .bool⟩),
  (61, ⟨.other, 1, 8, [.val .nilFunc], .bool⟩),
  (62, ⟨.other, 1, 8, [.val .nilFunc], .bool⟩),
  (63, ⟨.other, 1, 8, [.val .nilFunc], .bool⟩),
  (64, ⟨.other, 1, 8, [.val .nilFunc], .bool⟩),
  (66, ⟨.other, 1, 8, [.val .nilFunc], .bool⟩),
  (67, ⟨.other, 1, 8, [.val .nilFunc], .bool⟩),
  (68, ⟨.ptr 70, 1, 8, [.val (.pointer none)], .bool⟩),
  (69, ⟨.strct [(0, 1, false), (1, 1, false), (2, 1, false)], 3, 32, [.str [], .int .i64 0, .bool .ff], (.pair .str (.pair (.int .i64) .bool))⟩),
  (70, ⟨.strct [(0, 1, false), (1, 1, false), (2, 1, false)], 3, 32, [.str [], .int .i64 0, .bool .ff], (.pair .str (.pair (.int .i64) .bool))⟩),
  (71, ⟨.other, 1, 8, [.val .nilFunc], .bool⟩),
  (72, ⟨.other, 1, 8, [.val .nilFunc], .bool⟩),
  (73, ⟨.other, 1, 8, [.val .nilFunc], .bool⟩),
  (74, ⟨.int .u64, 1, 8, [.int .u64 0], (.int .u64)⟩),
  (75, ⟨.other, 1, 8, [.val .nilFunc], .bool⟩),
  (76, ⟨.strct [(0, 8, true), (8, 1, false), (9, 1, false)], 10, 112, [.int .i64 0, .int .i64 0, .str [], .str [], .str [], .str [], .int .i64 0, .int .i64 0, .int .i64 0, .bool .ff], (.pair (.pair (.int .i64) (.pair (.int .i64) (.pair .str (.pair .str (.pair .str (.pair .str (.pair (.int .i64) (.int .i64)))))))) (.pair (.int .i64) .bool))⟩),
  (77, ⟨.strct [(0, 8, true), (8, 1, false), (9, 1, false)], 10, 112, [.int .i64 0, .int .i64 0, .str [], .str [], .str [], .str [], .int .i64 0, .int .i64 0, .int .i64 0, .bool .ff], (.pair (.pair (.int .i64) (.pair (.int .i64) (.pair .str (.pair .str (.pair .str (.pair .str (.pair (.int .i64) (.int .i64)))))))) (.pair (.int .i64) .bool))⟩),
  (78, ⟨.other, 1, 8, [.val .nilFunc], .bool⟩),
  (79, ⟨.other, 1, 8, [.val .nilFunc], .bool⟩),
  (80, ⟨.other, 1, 8, [.val .nilFunc], .bool⟩),
  (81, ⟨.other, 1, 8, [.val .nilFunc], .bool⟩),
  (83, ⟨.other, 1, 8, [.val .nilFunc], .bool⟩),
  (84, ⟨.other, 1, 8, [.val .nilFunc], .bool⟩),
  (85, ⟨.other, 1, 8, [.val .nilFunc], .bool⟩),
  (86, ⟨.other, 1, 8, [.val .nilFunc], .bool⟩),
  (87, ⟨.array 21 9, 21, 336, [.str [], .str [], .str [], .str [], .str [], .str [], .str [], .str [], .str [], .str [], .str [], .str [], .str [], .str [], .str [], .str [], .str [], .str [], .str [], .str [], .str []], .bool⟩),
  (88, ⟨.ptr 9, 1, 8, [.val (.pointer none)], .bool⟩),
  (89, ⟨.ptr 2, 1, 8, [.val (.pointer none)], .bool⟩),
  (90, ⟨.ptr 23, 1, 8, [.val (.pointer none)], .bool⟩),
  (91, ⟨.ptr 3, 1, 8, [.val (.pointer none)], .bool⟩),
  (92, ⟨.ptr 4, 1, 8, [.val (.pointer none)], .bool⟩),
  (93, ⟨.ptr 27, 1, 8, [.val (.pointer none)], .bool⟩),
  (94, ⟨.ptr 25, 1, 8, [.val (.pointer none)], .bool⟩),
  (95, ⟨.strct [(0, 1, false), (1, 1, false), (2, 1, false), (3, 1, false), (4, 1, false), (5, 1, false), (6, 1, false), (7, 1, false), (8, 1, false), (9, 1, false), (10, 1, false)], 11, 88, [.val (.pointer none), .val (.pointer none), .val (.pointer none), .val (.pointer none), .val (.pointer none), .val (.pointer none), .val (.pointer none), .val (.pointer none), .val (.pointer none), .val (.pointer none), .val (.pointer none)], (.pair .bool (.pair .bool (.pair .bool (.pair .bool (.pair .bool (.pair .bool (.pair .bool (.pair .bool (.pair .bool (.pair .bool .bool))))))))))⟩),
  (96, ⟨.strct [(0, 1, false), (1, 1, false), (2, 1, false), (3, 1, false), (4, 1, false), (5, 1, false), (6, 1, false), (7, 1, false), (8, 1, false), (9, 1, false), (10, 1, false)], 11, 88, [.val (.pointer none), .val (.pointer none), .val (.pointer none), .val (.pointer none), .val (.pointer none), .val (.pointer none), .val (.pointer none), .val (.pointer none), .val (.pointer none), .val (.pointer none), .val (.pointer none)], (.pair .bool (.pair .bool (.pair .bool (.pair .bool (.pair .bool (.pair .bool (.pair .bool (.pair .bool (.pair .bool (.pair .bool .bool))))))))))⟩),
  (97, ⟨.other, 1, 8, [.val .nilFunc], .bool⟩),
  (98, ⟨.ptr 29, 1, 8, [.val (.pointer none)], .bool⟩),
  (99, ⟨.slice 5, 1, 24, [.val (.slice none 0 0)], (.list (.int .u8))⟩),
  (100, ⟨.other, 1, 8, [.val .nilFunc], .bool⟩),
  (102, ⟨.other, 1, 8, [.val .nilFunc], .bool⟩),
  (104, ⟨.other, 1, 8, [.val .nilFunc], .bool⟩),
  (105, ⟨.strct [(0, 1, false), (1, 1, false), (2, 1, false)], 3, 32, [.str [], .int .i64 0, .bool .ff], (.pair .str (.pair (.int .i64) .bool))⟩),
  (106, ⟨.strct [(0, 1, false), (1, 1, false), (2, 1, false)], 3, 32, [.str [], .int .i64 0, .bool .ff], (.pair .str (.pair (.int .i64) .bool))⟩),
  (107, ⟨.other, 1, 8, [.val .nilFunc], .bool⟩),
  (108, ⟨.strct [(0, 1, false), (1, 1, false), (2, 1, false)], 3, 24, [.int .u64 0, .int .i64 0, .bool .ff], (.pair (.int .u64) (.pair (.int .i64) .bool))⟩),
  (109, ⟨.strct [(0, 1, false), (1, 1, false), (2, 1, false)], 3, 24, [.int .u64 0, .int .i64 0, .bool .ff], (.pair (.int .u64) (.pair (.int .i64) .bool))⟩),
  (110, ⟨.other, 1, 8, [.val .nilFunc], .bool⟩),
  (111, ⟨.strct [(0, 3, true), (3, 1, false), (4, 1, false)], 5, 48, [.int .i64 0, .int .i64 0, .str [], .int .i64 0, .bool .ff], (.pair (.pair (.int .i64) (.pair (.int .i64) .str)) (.pair (.int .i64) .bool))⟩),
  (112, ⟨.strct [(0, 3, true), (3, 1, false), (4, 1, false)], 5, 48, [.int .i64 0, .int .i64 0, .str [], .int .i64 0, .bool .ff], (.pair (.pair (.int .i64) (.pair (.int .i64) .str)) (.pair (.int .i64) .bool))⟩),
  (113, ⟨.other, 1, 8, [.val .nilFunc], .bool⟩),
  (114, ⟨.array 4 3, 4, 32, [.int .i64 0, .int .i64 0, .int .i64 0, .int .i64 0], (.pair (.int .i64) (.pair (.int .i64) (.pair (.int .i64) (.int .i64))))⟩),
  (115, ⟨.array 4 9, 4, 64, [.str [], .str [], .str [], .str []], (.pair .str (.pair .str (.pair .str .str)))⟩),
  (116, ⟨.other, 1, 8, [.val .nilFunc], .bool⟩),
  (117, ⟨.int .u64, 1, 8, [.int .u64 0], (.int .u64)⟩),
  (118, ⟨.other, 1, 8, [.val .nilFunc], .bool⟩),
  (119, ⟨.strct [(0, 1, false), (1, 1, false), (2, 1, false)], 3, 24, [.int .i64 0, .int .i64 0, .bool .ff], (.pair (.int .i64) (.pair (.int .i64) .bool))⟩),
  (120, ⟨.strct [(0, 1, false), (1, 1, false), (2, 1, false)], 3, 24, [.int .i64 0, .int .i64 0, .bool .ff], (.pair (.int .i64) (.pair (.int .i64) .bool))⟩),
  (121, ⟨.other, 1, 8, [.val .nilFunc], .bool⟩),
  (122, ⟨.other, 1, 8, [.val .nilFunc], .bool⟩),
  (123, ⟨.other, 1, 8, [.val .nilFunc], .bool⟩),
  (124, ⟨.other, 1, 8, [.val .nilFunc], .bool⟩),
  (125, ⟨.other, 1, 8, [.val .nilFunc], .bool⟩),
  (126, ⟨.other, 1, 8, [.val .nilFunc], .bool⟩),
  (128, ⟨.other, 1, 8, [.val .nilFunc], .bool⟩),
  (130, ⟨.other, 1, 8, [.val .nilFunc], .bool⟩),
  (132, ⟨.other, 1, 8, [.val .nilFunc], .bool⟩),
  (133, ⟨.other, 1, 8, [.val .nilFunc], .bool⟩),
  (134, ⟨.slice 3, 1, 24, [.val (.slice none 0 0)], (.list (.int .i64))⟩),
  (135, ⟨.array 6 9, 6, 96, [.str [], .str [], .str [], .str [], .str [], .str []], (.pair .str (.pair .str (.pair .str (.pair .str (.pair .str .str)))))⟩),
  (136, ⟨.other, 1, 8, [.val .nilFunc], .bool⟩),
  (138, ⟨.other, 1, 8, [.val .nilFunc], .bool⟩),
  (139, ⟨.slice 91, 1, 24, [.val (.slice none 0 0)], (.list .bool)⟩),
  (140, ⟨.slice 88, 1, 24, [.val (.slice none 0 0)], (.list .bool)⟩),
  (141, ⟨.other, 1, 8, [.val .nilFunc], .bool⟩),
  (143, ⟨.strct [(0, 1, false), (1, 1, false), (2, 1, false)], 3, 32, [.int .i64 0, .int .i64 0, .str []], (.pair (.int .i64) (.pair (.int .i64) .str))⟩),
  (144, ⟨.map 3 141 (.int .i64), 1, 8, [.val (.map none)], .bool⟩),
  (145, ⟨.other, 1, 8, [.val .nilFunc], .bool⟩),
  (146, ⟨.strct [(0, 1, false), (1, 1, false), (2, 1, false), (3, 1, false)], 4, 40, [.val (.pointer none), .val (.pointer none), .val (.pointer none), .str []], (.pair .bool (.pair .bool (.pair .bool .str)))⟩),
  (147, ⟨.strct [(0, 1, false), (1, 1, false), (2, 1, false), (3, 1, false)], 4, 40, [.val (.pointer none), .val (.pointer none), .val (.pointer none), .str []], (.pair .bool (.pair .bool (.pair .bool .str)))⟩),
  (151, ⟨.int .u32, 1, 4, [.int .u32 0], (.int .u32)⟩),
  (152, ⟨.int .u8, 1, 1, [.int .u8 0], (.int .u8)⟩),
  (153, ⟨.int .u8, 1, 1, [.int .u8 0], (.int .u8)⟩),
  (154, ⟨.other, 1, 8, [.val .nilFunc], .bool⟩),
  (155, ⟨.ptr 5, 1, 8, [.val (.pointer none)], .bool⟩),
  (156, ⟨.int .i32, 1, 4, [.int .i32 0], (.int .i32)⟩),
  (157, ⟨.int .i32, 1, 4, [.int .i32 0], (.int .i32)⟩),
  (158, ⟨.strct [(0, 1, false), (1, 1, false), (2, 1, false), (3, 1, false), (4, 1, false), (5, 1, false), (6, 1, false), (7, 1, false), (8, 1, false), (9, 1, false), (10, 1, false)], 11, 48, [.int .u64 0, .int .u64 0, .int .u32 0, .int .u8 0, .int .u8 0, .int .u8 0, .int .u8 0, .val .nilFunc, .val (.pointer none), .int .i32 0, .int .i32 0], (.pair (.int .u64) (.pair (.int .u64) (.pair (.int .u32) (.pair (.int .u8) (.pair (.int .u8) (.pair (.int .u8) (.pair (.int .u8) (.pair .bool (.pair .bool (.pair (.int .i32) (.int .i32)))))))))))⟩),
  (159, ⟨.strct [(0, 1, false), (1, 1, false), (2, 1, false), (3, 1, false), (4, 1, false), (5, 1, false), (6, 1, false), (7, 1, false), (8, 1, false), (9, 1, false), (10, 1, false)], 11, 48, [.int .u64 0, .int .u64 0, .int .u32 0, .int .u8 0, .int .u8 0, .int .u8 0, .int .u8 0, .val .nilFunc, .val (.pointer none), .int .i32 0, .int .i32 0], (.pair (.int .u64) (.pair (.int .u64) (.pair (.int .u32) (.pair (.int .u8) (.pair (.int .u8) (.pair (.int .u8) (.pair (.int .u8) (.pair .bool (.pair .bool (.pair (.int .i32) (.int .i32)))))))))))⟩)]
theorem tab_ok : TabOk Tryd.prog (lk tab) := tab_of (by kernel_rfl)
noncomputable def EnI (inl : Nat → Option (FI × Code)) (post : SV → St → Prop) : En := ⟨Tryd.prog, lk tab, inl, post⟩
def noI : Nat → Option (FI × Code) := fun _ => none
noncomputable def fiOf (f : Func) : FI := ⟨f, f.ntmps, f.results.toList⟩
noncomputable def bodyOf (f : Func) : Code := f.body.getD .skip
/-- the functions that are gone through where they are called -/
class InlOk (inl : Nat → Option (FI × Code)) : Prop where
  out : ∀ post, EnOk (EnI inl post)
instance : InlOk noI := ⟨fun _ => ⟨tab_ok, fun _ _ _ h => by cases h⟩⟩
theorem inl_nil : InlOk (lk []) := ⟨fun _ => ⟨tab_ok, fun _ _ _ h => by cases h⟩⟩
theorem inl_cons {f : Nat} {fn : Func} {c : Code} {l : List (Nat × FI × Code)} (hf : Tryd.prog.funcs[f]? = some fn) (hb : fn.body = some c) (hn : (fn.name == "runtime.NumGoroutine") = false) (h : InlOk (lk l)) : InlOk (lk ((f, fiOf fn, c) :: l)) := by
  refine ⟨fun post => ⟨tab_ok, fun g fi c' hg => ?_⟩⟩
  have hg : lk ((f, fiOf fn, c) :: l) g = some (fi, c') := hg
  simp only [lk] at hg
  by_cases e : g = f
  · rw [if_pos e] at hg
    simp only [Option.some.injEq, Prod.mk.injEq] at hg
    obtain ⟨rfl, rfl⟩ := hg
    subst e
    exact ⟨hf, hb, hn, rfl, rfl⟩
  · rw [if_neg e] at hg
    exact (h.out post).inl g fi c' hg
theorem mixed : Tryd.prog.follows .mixedOrders = true := by kernel_rfl
theorem fnI (inl : Nat → Option (FI × Code)) [hI : InlOk inl] {f : Nat} {fn : Func} {c : Code} {args : List SV} {post : SV → Prop} (hf : Tryd.prog.funcs[f]? = some fn) (hb : fn.body = some c) (hn : (fn.name == "runtime.NumGoroutine") = false)
    (hl : Nat.ble args.length fn.ntmps = true) (h : fcN (fun fr => go (EnI inl (Post post)) 100000 (fiOf fn) [.code c] ⟨fr, [], 0⟩ []) (num args 0)) : FnD Tryd.prog f args post :=
  fn_of (E := EnI inl (Post post)) (fi := fiOf fn) hf hb hn rfl rfl (Nat.le_of_ble_eq_true hl) rfl (go_sound (hI.out (Post post)) _ _ _ _ _ (by rw [fcN_eq] at h; exact h))
theorem fn0 {f : Nat} {fn : Func} {c : Code} {args : List SV} {post : SV → Prop} (hf : Tryd.prog.funcs[f]? = some fn) (hb : fn.body = some c) (hn : (fn.name == "runtime.NumGoroutine") = false)
    (hl : Nat.ble args.length fn.ntmps = true) (h : fcN (fun fr => go (EnI noI (Post post)) 100000 (fiOf fn) [.code c] ⟨fr, [], 0⟩ []) (num args 0)) : FnD Tryd.prog f args post := fnI noI hf hb hn hl h
theorem fnO (inl : Nat → Option (FI × Code)) [hI : InlOk inl] {f : Nat} {fn : Func} {c : Code} {args : List SV} {s : SV} {hp : List (Nat × Ob)} {n : Nat} (hf : Tryd.prog.funcs[f]? = some fn) (hb : fn.body = some c) (hn : (fn.name == "runtime.NumGoroutine") = false)
    (hl : Nat.ble args.length fn.ntmps = true) (h : fcN (fun fr => go (EnI inl (PostO s hp n)) 100000 (fiOf fn) [.code c] ⟨fr, [], 0⟩ []) (num args 0)) : FnO Tryd.prog f args s hp n :=
  fno_of (E := EnI inl (PostO s hp n)) (fi := fiOf fn) hf hb hn rfl rfl (Nat.le_of_ble_eq_true hl) rfl (go_sound (hI.out _) _ _ _ _ _ (by rw [fcN_eq] at h; exact h))
theorem fnH (inl : Nat → Option (FI × Code)) [hI : InlOk inl] {f : Nat} {fn : Func} {c : Code} {args : List SV} {T : TypeId} {l l2 : List C} {s : SV} (hf : Tryd.prog.funcs[f]? = some fn) (hb : fn.body = some c) (hn : (fn.name == "runtime.NumGoroutine") = false)
    (hl : Nat.ble args.length fn.ntmps = true) (h : fcN (fun fr => go (EnI inl (fun _ _ => False)) 100000 (fiOf fn) [.code c] ⟨fr, [(0, .cells T l)], 1⟩ [frmH (fiOf fn) (PostH T s l2)]) (num args 0)) : FnH Tryd.prog f args T l s l2 :=
  fnh_of (E := EnI inl (fun _ _ => False)) (fi := fiOf fn) hf hb hn rfl rfl (Nat.le_of_ble_eq_true hl) (go_sound (hI.out _) _ _ _ _ _ (by rw [fcN_eq] at h; exact h))
theorem fnM (inl : Nat → Option (FI × Code)) [hI : InlOk inl] {f : Nat} {fn : Func} {c : Code} {args : List SV} {T : TypeId} {d : D} {xs : List d.T} {s : SV} (hf : Tryd.prog.funcs[f]? = some fn) (hb : fn.body = some c) (hn : (fn.name == "runtime.NumGoroutine") = false)
    (hl : Nat.ble args.length fn.ntmps = true) (h : fcN (fun fr => go (EnI inl (Post (· = s))) 100000 (fiOf fn) [.code c] ⟨fr, [(0, .row T d xs)], 1⟩ []) (num args 0)) : FnM Tryd.prog f args T d xs s :=
  fnm_of (E := EnI inl (Post (· = s))) (fi := fiOf fn) hf hb hn rfl rfl (Nat.le_of_ble_eq_true hl) rfl (go_sound (hI.out _) _ _ _ _ _ (by rw [fcN_eq] at h; exact h))
theorem fnM2 (inl : Nat → Option (FI × Code)) [hI : InlOk inl] {f : Nat} {fn : Func} {c : Code} {args : List SV} {T : TypeId} {d : D} {xs : List d.T} {T2 : TypeId} {d2 : D} {ys : List d2.T} {s : SV} (hf : Tryd.prog.funcs[f]? = some fn) (hb : fn.body = some c) (hn : (fn.name == "runtime.NumGoroutine") = false)
    (hl : Nat.ble args.length fn.ntmps = true) (h : fcN (fun fr => go (EnI inl (Post (· = s))) 100000 (fiOf fn) [.code c] ⟨fr, [(0, .row T d xs), (1, .row T2 d2 ys)], 2⟩ []) (num args 0)) : FnM2 Tryd.prog f args T d xs T2 d2 ys s :=
  fnm2_of (E := EnI inl (Post (· = s))) (fi := fiOf fn) hf hb hn rfl rfl (Nat.le_of_ble_eq_true hl) rfl (go_sound (hI.out _) _ _ _ _ _ (by rw [fcN_eq] at h; exact h))
theorem fnP (inl : Nat → Option (FI × Code)) [hI : InlOk inl] {f : Nat} {fn : Func} {c : Code} {args : List SV} {hpI hpO : List (Nat × Ob)} {n n2 : Nat} {kp : List (Nat × Bool)} {s : SV} (hf : Tryd.prog.funcs[f]? = some fn) (hb : fn.body = some c) (hn : (fn.name == "runtime.NumGoroutine") = false)
    (hl : Nat.ble args.length fn.ntmps = true) (hk : (kpOk hpI kp && kpOk hpO kp) = true) (h : fcN (fun fr => fcN (fun fr0 => go (EnI inl (fun _ _ => False)) 100000 (fiOf fn) [.code c] ⟨fr, hpI, n⟩ [⟨⟨fn, kp.length + 1, fn.results.toList⟩, fr0, [.fin (PostP kp s hpO n2)], some 0⟩]) (num (.un :: kp.map slP) 0)) (num args 0)) : FnP Tryd.prog f args hpI n kp s hpO n2 :=
  fnp_of (E := EnI inl (fun _ _ => False)) (fi := fiOf fn) hf hb hn rfl rfl (Nat.le_of_ble_eq_true hl) (by simp only [Bool.and_eq_true] at hk; exact hk.1) (by simp only [Bool.and_eq_true] at hk; exact hk.2) (go_sound (hI.out _) _ _ _ _ _ (by rw [fcN_eq, fcN_eq] at h; exact h))
section
variable {inl : Nat → Option (FI × Code)} [hI : InlOk inl]
theorem go0 {post : SV → St → Prop} {cur : FI} {t : List It} {st : St} {stk : List Fm} (h : go (EnI inl post) 100000 cur t st stk) : Mean (EnI inl post) cur t st stk := go_sound (hI.out post) _ _ _ _ _ h
theorem call0 {post : SV → St → Prop} {pf : SV → Prop} {cur : FI} {f : Nat} {args : List SV} {all : Array Oper} {o : Oper} {l : List Oper} {r : List It} {fr : List (Nat × SV)} {hp : List (Nat × Ob)} {nx : Nat} {stk : List Fm} (hF : FnD Tryd.prog f args pf) (hd : args.all isDs = true)
    (hk : ∀ s, pf s → fcF (fun fr' => go (EnI inl post) 100000 cur (.ops all l :: r) ⟨fr', hp, nx⟩ stk) (putF cur.nt fr o.dst s)) : CallOk (EnI inl post) cur f args all o l r ⟨fr, hp, nx⟩ stk :=
  call_rule (E := EnI inl post) hF hd fun s hs => go0 (by have := hk s hs; rw [fcF_eq] at this; exact this)
theorem call1 {post : SV → St → Prop} {cur : FI} {f : Nat} {args : List SV} {s : SV} {all : Array Oper} {o : Oper} {l : List Oper} {r : List It} {fr : List (Nat × SV)} {hp : List (Nat × Ob)} {nx : Nat} {stk : List Fm} (hF : FnD Tryd.prog f args (· = s)) (hd : args.all isDs = true)
    (hk : fcF (fun fr' => go (EnI inl post) 100000 cur (.ops all l :: r) ⟨fr', hp, nx⟩ stk) (putF cur.nt fr o.dst s)) : CallOk (EnI inl post) cur f args all o l r ⟨fr, hp, nx⟩ stk :=
  call0 hF hd fun s' hs => by subst hs; exact hk
/-- what comes out is memory of its own -/
theorem callo0 {post : SV → St → Prop} {cur : FI} {f : Nat} {args : List SV} {s : SV} {ho : List (Nat × Ob)} {n : Nat} {all : Array Oper} {o : Oper} {l : List Oper} {r : List It} {fr : List (Nat × SV)} {hp : List (Nat × Ob)} {nx : Nat} {stk : List Fm} (hF : FnO Tryd.prog f args s ho n) (hd : args.all isDs = true)
    (hk : fcS (fun s => fcH (fun hp' => fcF (fun fr' => go (EnI inl post) 100000 cur (.ops all l :: r) ⟨fr', hp', n + nx⟩ stk) (putF cur.nt fr o.dst s)) (shH nx hp ho)) (shS nx s)) : CallOk (EnI inl post) cur f args all o l r ⟨fr, hp, nx⟩ stk :=
  callo_rule (E := EnI inl post) hF hd (go0 (by rw [fcS_eq, fcH_eq, fcF_eq] at hk; exact hk))
theorem callro0 {post : SV → St → Prop} {cur : FI} {f : Nat} {args : List SV} {all : Array Oper} {o : Oper} {l : List Oper} {r : List It} {stk : List Fm} {n0 j : Nat} {recs : List Rec} {fin fr : List (Nat × SV)} {hin hp : List (Nat × Ob)} {T : TypeId} {d : D} {xs : List d.T}
    (hF : FnO Tryd.prog f args (.c (.row 0)) [(0, .row T d xs)] 1) (hd : args.all isDs = true) (hk : putR all j cur.nt o fin hin [(n0 + j, some (.row T d xs))] fr hp (fun rc => goR (EnI inl post) cur all r stk n0 1000 (j + 1) l (recs ++ [rc])) (.c (.row (n0 + j)))) :
    CallR (EnI inl post) cur f args all o l r stk n0 j recs fin hin fr hp := callro_rule (E := EnI inl post) (hI.out post) hF hd hk
/-- one own row that goes into a call is data from there on -/
theorem callrf0 {post : SV → St → Prop} {cur : FI} {f : Nat} {args : List SV} {all : Array Oper} {o : Oper} {l : List Oper} {r : List It} {stk : List Fm} {n0 j : Nat} {recs : List Rec} {fin fr : List (Nat × SV)} {hin hp : List (Nat × Ob)} {s : SV} (b : Nat) {T : TypeId} {d : D} {xs : List d.T} (hb : lk hin b = some (.row T d xs))
    (hF : FnD Tryd.prog f (args.map (fzS b d xs)) (· = s)) (hd : (args.map (fzS b d xs)).all isDs = true) (hk : putR all j cur.nt o fin hin [(b, none)] fr hp (fun rc => goR (EnI inl post) cur all r stk n0 1000 (j + 1) l (recs ++ [rc])) s) :
    CallR (EnI inl post) cur f args all o l r stk n0 j recs fin hin fr hp := callrf_rule (E := EnI inl post) b (hI.out post) hb hF hd hk
/-- an own row is given to a call; data come out -/
theorem callm0 {post : SV → St → Prop} {cur : FI} {f : Nat} {args : List SV} {all : Array Oper} {o : Oper} {l : List Oper} {r : List It} {fr : List (Nat × SV)} {hp : List (Nat × Ob)} {nx : Nat} {stk : List Fm} {s : SV} (b : Nat) {T : TypeId} {d : D} {xs : List d.T} (hb : lk hp b = some (.row T d xs))
    (hF : FnM Tryd.prog f (args.map (hmS b)) T d xs s) (hd : (args.map (hmS b)).all okM = true) (hs : isDs s = true)
    (hk : fcH (fun hp' => fcF (fun fr' => go (EnI inl post) 100000 cur (.ops all l :: r) ⟨fr', hp', nx⟩ stk) (putF cur.nt fr o.dst s)) (rm hp b)) : CallOk (EnI inl post) cur f args all o l r ⟨fr, hp, nx⟩ stk :=
  callm_rule (E := EnI inl post) b hb hF hd hs (go0 (by rw [fcH_eq, fcF_eq] at hk; exact hk))
/-- objects are handed to a call by a pointer, with the rows that they hold -/
theorem callp0 {post : SV → St → Prop} {cur : FI} {f : Nat} {args : List SV} {all : Array Oper} {o : Oper} {l : List Oper} {r : List It} {fr : List (Nat × SV)} {hp : List (Nat × Ob)} {nx : Nat} {stk : List Fm} (bs : List Nat) {kp : List (Nat × Bool)} {s : SV} {hpO : List (Nat × Ob)} {n2 : Nat}
    (hg : gdP (memP bs) hp bs = true) (hn : ndP bs = true) (hF : FnP Tryd.prog f (args.map (rnS (ixP bs))) (inP (ixP bs) hp 0 bs) bs.length kp s hpO n2) (ha : args.all (gkS (memP bs) (fun _ => true)) = true) (hn2 : Nat.ble bs.length n2 = true)
    (hkn : (kp.all fun p => Nat.blt p.1 bs.length) = true) (ho : outP (okP bs.length n2 kp) (okR bs.length kp) hpO = true) (hos : gkS (okP bs.length n2 kp) (okR bs.length kp) s = true)
    (hk : fcS (fun s => fcH (fun hp' => fcF (fun fr' => go (EnI inl post) 100000 cur (.ops all l :: r) ⟨fr', hp', nx + (n2 - bs.length)⟩ stk) (putF cur.nt fr o.dst s)) (apC hp (chP (exP nx bs) hpO 0 n2))) (rnS (exP nx bs) s)) : CallOk (EnI inl post) cur f args all o l r ⟨fr, hp, nx⟩ stk :=
  callp_rule (E := EnI inl post) bs hg hn hF ha hn2 hkn ho hos (go0 (by rw [fcS_eq, fcH_eq, fcF_eq] at hk; exact hk))
theorem callrp0 {post : SV → St → Prop} {cur : FI} {f : Nat} {args : List SV} {all : Array Oper} {o : Oper} {l : List Oper} {r : List It} {stk : List Fm} {n0 j : Nat} {recs : List Rec} {fin fr : List (Nat × SV)} {hin0 hin hp : List (Nat × Ob)} (bs : List Nat) {kp : List (Nat × Bool)} {s : SV} {hpO : List (Nat × Ob)} {n2 : Nat}
    (hh : hin = kh hp bs) (hg : gdP (memP bs) hin bs = true) (hn : ndP bs = true) (hF : FnP Tryd.prog f (args.map (rnS (ixP bs))) (inP (ixP bs) hin 0 bs) bs.length kp s hpO n2) (ha : args.all (gkS (memP bs) (fun _ => true)) = true) (hn2 : Nat.ble bs.length n2 = true) (hn3 : Nat.ble n2 (bs.length + 1) = true)
    (hkn : (kp.all fun p => Nat.blt p.1 bs.length) = true) (ho : outP (okP bs.length n2 kp) (okR bs.length kp) hpO = true) (hos : gkS (okP bs.length n2 kp) (okR bs.length kp) s = true)
    (un : List Nat) (hun : (un.map fun i => lk hin (exP (n0 + j) bs i)) = un.map fun i => (lk hpO i).map (rnO (exP (n0 + j) bs))) (hus : (un.all fun i => (lk hin (exP (n0 + j) bs i)).isSome) = true)
    (hk : fcH (fun hin => fcS (fun s => putR all j cur.nt o fin hin (chU un (exP (n0 + j) bs) hpO 0 n2) fr hp (fun rc => goR (EnI inl post) cur all r stk n0 1000 (j + 1) l (recs ++ [rc])) s) (rnS (exP (n0 + j) bs) s)) hin) : CallR (EnI inl post) cur f args all o l r stk n0 j recs fin hin0 fr hp :=
  callrp_rule (E := EnI inl post) bs (hI.out post) hh hg hn hF ha hn2 hn3 hkn ho hos un hun hus (by rw [fcH_eq, fcS_eq] at hk; exact hk)
/-- an object is handed to a call by a pointer -/
theorem callh0 {post : SV → St → Prop} {cur : FI} {f : Nat} {args : List SV} {all : Array Oper} {o : Oper} {l : List Oper} {r : List It} {fr : List (Nat × SV)} {hp : List (Nat × Ob)} {nx : Nat} {stk : List Fm} {s : SV} (b : Nat) {T : TypeId} {m m2 : List C} (hb : lk hp b = some (.cells T m))
    (hF : FnH Tryd.prog f (args.map (hnS b)) T m s m2) (hm : m.all isDC = true) (hd : (args.map (hnS b)).all okH = true) (hm2 : m2.all isDC = true) (hs : isDs s = true)
    (hk : fcH (fun hp' => fcF (fun fr' => go (EnI inl post) 100000 cur (.ops all l :: r) ⟨fr', hp', nx⟩ stk) (putF cur.nt fr o.dst s)) ((b, .cells T m2) :: rm hp b)) : CallOk (EnI inl post) cur f args all o l r ⟨fr, hp, nx⟩ stk :=
  callh_rule (E := EnI inl post) b hb hm hF hd hm2 hs (go0 (by rw [fcH_eq, fcF_eq] at hk; exact hk))
theorem callrh0 {post : SV → St → Prop} {cur : FI} {f : Nat} {args : List SV} {all : Array Oper} {o : Oper} {l : List Oper} {r : List It} {stk : List Fm} {n0 j : Nat} {recs : List Rec} {fin fr : List (Nat × SV)} {hin hp : List (Nat × Ob)} {s : SV} (b : Nat) {T : TypeId} {m m2 : List C} (hb : lk hin b = some (.cells T m))
    (hF : FnH Tryd.prog f (args.map (hnS b)) T m s m2) (hm : m.all isDC = true) (hd : (args.map (hnS b)).all okH = true) (hm2 : m2.all isDC = true) (hsd : isDs s = true) (hk : putR all j cur.nt o fin hin [(b, some (.cells T m2))] fr hp (fun rc => goR (EnI inl post) cur all r stk n0 1000 (j + 1) l (recs ++ [rc])) s) : CallR (EnI inl post) cur f args all o l r stk n0 j recs fin hin fr hp :=
  callrh_rule (E := EnI inl post) b (hI.out post) hb hm hF hd hm2 hsd hk
/-- an own row is given to a call -/
theorem callrm0 {post : SV → St → Prop} {cur : FI} {f : Nat} {args : List SV} {all : Array Oper} {o : Oper} {l : List Oper} {r : List It} {stk : List Fm} {n0 j : Nat} {recs : List Rec} {fin fr : List (Nat × SV)} {hin hp : List (Nat × Ob)} {s : SV} (b : Nat) {T : TypeId} {d : D} {xs : List d.T} (hb : lk hin b = some (.row T d xs))
    (hF : FnM Tryd.prog f (args.map (hmS b)) T d xs s) (hd : (args.map (hmS b)).all okM = true) (hsd : isDs s = true) (hk : putR all j cur.nt o fin hin [(b, none)] fr hp (fun rc => goR (EnI inl post) cur all r stk n0 1000 (j + 1) l (recs ++ [rc])) s) : CallR (EnI inl post) cur f args all o l r stk n0 j recs fin hin fr hp :=
  callrm_rule (E := EnI inl post) b (hI.out post) hb hF hd hsd hk
theorem callrmf0 {post : SV → St → Prop} {cur : FI} {f : Nat} {args : List SV} {all : Array Oper} {o : Oper} {l : List Oper} {r : List It} {stk : List Fm} {n0 j : Nat} {recs : List Rec} {fin fr : List (Nat × SV)} {hin hp : List (Nat × Ob)} {s : SV} (b b2 : Nat) {T T2 : TypeId} {d d2 : D} {xs : List d.T} {ys : List d2.T} (hb : lk hin b = some (.row T d xs)) (hb2 : lk hin b2 = some (.row T2 d2 ys)) (hne : Nat.beq b b2 = false)
    (hF : FnM Tryd.prog f ((args.map (fzS b2 d2 ys)).map (hmS b)) T d xs s) (hd : ((args.map (fzS b2 d2 ys)).map (hmS b)).all okM = true) (hsd : isDs s = true) (hk : putR all j cur.nt o fin hin [(b2, none), (b, none)] fr hp (fun rc => goR (EnI inl post) cur all r stk n0 1000 (j + 1) l (recs ++ [rc])) s) : CallR (EnI inl post) cur f args all o l r stk n0 j recs fin hin fr hp :=
  callrmf_rule (E := EnI inl post) b b2 (hI.out post) hb hb2 hne hF hd hsd hk
theorem callrm20 {post : SV → St → Prop} {cur : FI} {f : Nat} {args : List SV} {all : Array Oper} {o : Oper} {l : List Oper} {r : List It} {stk : List Fm} {n0 j : Nat} {recs : List Rec} {fin fr : List (Nat × SV)} {hin hp : List (Nat × Ob)} {s : SV} (b b2 : Nat) {T T2 : TypeId} {d d2 : D} {xs : List d.T} {ys : List d2.T} (hb : lk hin b = some (.row T d xs)) (hb2 : lk hin b2 = some (.row T2 d2 ys)) (hne : Nat.beq b b2 = false)
    (hF : FnM2 Tryd.prog f (args.map (hnS2 b b2)) T d xs T2 d2 ys s) (hd : (args.map (hnS2 b b2)).all okM2 = true) (hsd : isDs s = true) (hk : putR all j cur.nt o fin hin [(b2, none), (b, none)] fr hp (fun rc => goR (EnI inl post) cur all r stk n0 1000 (j + 1) l (recs ++ [rc])) s) : CallR (EnI inl post) cur f args all o l r stk n0 j recs fin hin fr hp :=
  callrm2_rule (E := EnI inl post) b b2 (hI.out post) hb hb2 hne hF hd hsd hk
/-- '==' between two structs of plain data, in a region that draws its order -/
theorem eqr0 {post : SV → St → Prop} {cur : FI} {all : Array Oper} {o : Oper} {l : List Oper} {r : List It} {stk : List Fm} {n0 j : Nat} {recs : List Rec} {fin fr : List (Nat × SV)} {hin hp : List (Nat × Ob)} {t rt : TypeId} {x y : Operand} (d : D) {p q : d.T} (n : Nat)
    (ho : o.op = .binOp .eql t x y rt) (hB : eqtB Tryd.prog n t d = true) (hn : Nat.ble n 10000 = true) (hg : Tryd.prog.eqGuardType Tryd.prog.depth t = false) (hpr : isPr d = true) (hx : psS d (ev fin x) = some p) (hy : psS d (ev fin y) = some q)
    (hk : putR all j cur.nt o fin hin [] fr hp (fun rc => goR (EnI inl post) cur all r stk n0 1000 (j + 1) l (recs ++ [rc])) (.c (.bool (.sym (d.eqb p q))))) : StopR (EnI inl post) cur all o l r stk n0 j recs fin hin fr hp :=
  eqr_rule (E := EnI inl post) (hI.out post) d ho hB hn hg hpr hx hy hk
/-- a list is told equal to nil -/
theorem nilq0 {post : SV → St → Prop} {cur : FI} {all : Array Oper} {o : Oper} {l : List Oper} {r : List It} {fr : List (Nat × SV)} {hp : List (Nat × Ob)} {nx : Nat} {stk : List Fm} {op : BinOp} {t rt e : TypeId} {x y : Operand} {i : TI} {d : D} {xs : List d.T} {nq : Bool}
    (ho : o.op = .binOp op t x y rt) (hop : isNeq op = some nq) (hi : lk tab t = some i) (hk : i.tk = .slice e) (hx : ev fr x = .c (.dat d xs)) (hy : ev fr y = .c (.val (.slice none 0 0)))
    (h1 : xs = [] → fcF (fun fr' => go (EnI inl post) 100000 cur (.ops all l :: r) ⟨fr', hp, nx⟩ stk) (putF cur.nt fr o.dst (.c (.bool (ofW (!nq)))))) (h2 : fcF (fun fr' => go (EnI inl post) 100000 cur (.ops all l :: r) ⟨fr', hp, nx⟩ stk) (putF cur.nt fr o.dst (.c (.bool (ofW nq))))) : StuckOk (EnI inl post) cur all o l r ⟨fr, hp, nx⟩ stk :=
  nilq_rule (E := EnI inl post) (hI.out post) (xs = []) ho hop hi hk hx hy (.inl ⟨d, xs, rfl, rfl⟩) (fun h => go0 (by have := h1 h; rw [fcF_eq] at this; exact this)) (go0 (by rw [fcF_eq] at h2; exact h2))
theorem nilr0 {post : SV → St → Prop} {cur : FI} {all : Array Oper} {o : Oper} {l : List Oper} {r : List It} {fr : List (Nat × SV)} {hp : List (Nat × Ob)} {nx : Nat} {stk : List Fm} {op : BinOp} {t rt e : TypeId} {x y : Operand} {i : TI} {b : Nat} {T : TypeId} {d : D} {xs : List d.T} {nq : Bool}
    (ho : o.op = .binOp op t x y rt) (hop : isNeq op = some nq) (hi : lk tab t = some i) (hk : i.tk = .slice e) (hx : ev fr x = .c (.row b)) (hb : lk hp b = some (.row T d xs)) (hy : ev fr y = .c (.val (.slice none 0 0)))
    (h1 : xs = [] → fcF (fun fr' => go (EnI inl post) 100000 cur (.ops all l :: r) ⟨fr', hp, nx⟩ stk) (putF cur.nt fr o.dst (.c (.bool (ofW (!nq)))))) (h2 : fcF (fun fr' => go (EnI inl post) 100000 cur (.ops all l :: r) ⟨fr', hp, nx⟩ stk) (putF cur.nt fr o.dst (.c (.bool (ofW nq))))) : StuckOk (EnI inl post) cur all o l r ⟨fr, hp, nx⟩ stk :=
  nilq_rule (E := EnI inl post) (hI.out post) (xs = []) ho hop hi hk hx hy (.inr ⟨b, T, d, xs, rfl, hb, rfl⟩) (fun h => go0 (by have := h1 h; rw [fcF_eq] at this; exact this)) (go0 (by rw [fcF_eq] at h2; exact h2))
theorem loop0 {post : SV → St → Prop} {cur : FI} {c : Code} {r : List It} {st : St} {stk : List Fm} {α : Type} (I : α → Prop) (σ : α → St) (μ : α → Nat) (h0 : ∃ x, I x ∧ sub (σ x) st stk)
    (round : ∀ x, I x → go (EnI inl post) 100000 cur (.code c :: .fin (fun st' => ∃ y, (I y ∧ μ y < μ x) ∧ sub (σ y) st' stk) :: r) (σ x) stk) : LoopOk (EnI inl post) cur c r st stk :=
  loop_rule (E := EnI inl post) I σ μ h0 fun x hx => go0 (round x hx)
theorem draw0 {post : SV → St → Prop} {cur : FI} {id : Nat} {all : Array Oper} {r : List It} {st : St} {stk : List Fm} (hB : Region.lexB .any all = true) (h : goQ (EnI inl post) cur all r stk all.toList st) :
    DrawOk (EnI inl post) cur id all r st stk := draw_rule (E := EnI inl post) (hI.out post) mixed hB h
theorem callq0 {post : SV → St → Prop} {cur : FI} {f : Nat} {args : List SV} {all : Array Oper} {o : Oper} {l : List Oper} {r : List It} {fr : List (Nat × SV)} {hp : List (Nat × Ob)} {nx : Nat} {stk : List Fm} {s : SV} {u : Value} (hF : FnD Tryd.prog f args (· = s)) (hd : args.all isDs = true)
    (hu : vS s = some u) (hk : fcF (fun fr' => goQ (EnI inl post) cur all r stk l ⟨fr', hp, nx⟩) (putF cur.nt fr o.dst s)) : CallQ (EnI inl post) cur f args all o l r ⟨fr, hp, nx⟩ stk :=
  callq_rule (E := EnI inl post) hF hd hu (goQ_sound (hI.out post) (by rw [fcF_eq] at hk; exact hk))
theorem any0 {post : SV → St → Prop} {cur : FI} {id : Nat} {all : Array Oper} {r : List It} {fr : List (Nat × SV)} {hp : List (Nat × Ob)} {nx : Nat} {stk : List Fm} (h : goR (EnI inl post) cur all r stk nx 1000 0 all.toList [] fr hp) :
    DrawOk (EnI inl post) cur id all r ⟨fr, hp, nx⟩ stk := any_rule (E := EnI inl post) (hI.out post) mixed h
theorem callr0 {post : SV → St → Prop} {cur : FI} {f : Nat} {args : List SV} {all : Array Oper} {o : Oper} {l : List Oper} {r : List It} {stk : List Fm} {n0 j : Nat} {recs : List Rec} {fin fr : List (Nat × SV)} {hin hp : List (Nat × Ob)} {s : SV}
    (hF : FnD Tryd.prog f args (· = s)) (hd : args.all isDs = true) (hk : putR all j cur.nt o fin hin [] fr hp (fun rc => goR (EnI inl post) cur all r stk n0 1000 (j + 1) l (recs ++ [rc])) s) :
    CallR (EnI inl post) cur f args all o l r stk n0 j recs fin hin fr hp := callr_rule (E := EnI inl post) (hI.out post) hF hd hk
omit hI in
theorem callg0 {post : SV → St → Prop} {C : Prop} {f : Nat} {args : List SV} {s : SV} {K : SV → Prop} (hF : C → FnD Tryd.prog f args (· = s)) (hd : args.all isDs = true) (hk : K s) : CallG (EnI inl post) C f args K := callg_rule (E := EnI inl post) hF hd hk
theorem lendr0 {post : SV → St → Prop} {cur : FI} {f : Nat} {args : List SV} {all : Array Oper} {o : Oper} {l : List Oper} {r : List It} {stk : List Fm} {n0 j : Nat} {recs : List Rec} {fin fr : List (Nat × SV)} {hin hp : List (Nat × Ob)} {s : SV}
    (hF : FnD Tryd.prog f (args.map (ldS hin)) (· = s)) (hd : (args.map (ldS hin)).all isDs = true) (hsc : scS s = true) (hk : putR all j cur.nt o fin hin [] fr hp (fun rc => goR (EnI inl post) cur all r stk n0 1000 (j + 1) l (recs ++ [rc])) s) :
    CallR (EnI inl post) cur f args all o l r stk n0 j recs fin hin fr hp := lendr_rule (E := EnI inl post) (hI.out post) hF hd hsc hk
theorem lend0 {post : SV → St → Prop} {cur : FI} {f : Nat} {args : List SV} {s : SV} {all : Array Oper} {o : Oper} {l : List Oper} {r : List It} {fr : List (Nat × SV)} {hp : List (Nat × Ob)} {nx : Nat} {stk : List Fm} (hF : FnD Tryd.prog f (args.map (ldS hp)) (· = s)) (hd : (args.map (ldS hp)).all isDs = true) (hsc : scS s = true)
    (hk : fcF (fun fr' => go (EnI inl post) 100000 cur (.ops all l :: r) ⟨fr', hp, nx⟩ stk) (putF cur.nt fr o.dst s)) : CallOk (EnI inl post) cur f args all o l r ⟨fr, hp, nx⟩ stk :=
  lend_rule (E := EnI inl post) hF hd (fun s' hs => by subst hs; exact hsc) fun s' hs => go0 (by subst hs; rw [fcF_eq] at hk; exact hk)
theorem x0 {post : SV → St → Prop} {cur : FI} {all : Array Oper} {recs : List Rec} (i j : Nat) {oi : Oper} {fin : List (Nat × SV)} {hin : List (Nat × Ob)} {v : SV} {rj : Rec} {c : Nat} {ob : Ob} {q : Q} (hij : Nat.blt i j = true)
    (hc : chkFrom cur.nt (some (i, j)) 0 [] all.toList recs = true) (ho : all.toList[i]? = some oi) (hi : recs[i]? = some ⟨fin, hin, v, []⟩) (hj : recs[j]? = some rj) (hch : rj.ch = [(c, some ob)]) (hg : oi.guard = none)
    (hq : qm (lk tab) (altH hin c ob) (ev fin) oi.op = some q) (hp : OP q.pre) (hv : q.v = v) : Chk (EnI inl post) cur all recs := x_rule (E := EnI inl post) (hI.out post) i j hij hc ho hi hj hch hg hq hp hv
theorem unroll0 {post : SV → St → Prop} {cur : FI} {c : Code} {r : List It} {st : St} {stk : List Fm} (n : Nat) (h : RoundsG (EnI inl post) cur c r stk n st) : LoopOk (EnI inl post) cur c r st stk := unroll_rule (E := EnI inl post) (hI.out post) n h
omit hI in
theorem callgp0 {post : SV → St → Prop} {C : Prop} {f : Nat} {args : List SV} {pf : SV → Prop} {K : SV → Prop} (hF : C → FnD Tryd.prog f args pf) (hd : args.all isDs = true) (hs : ∃ s, pf s) (hk : ∀ s, pf s → K s) : CallG (EnI inl post) C f args K := callgp_rule (E := EnI inl post) hF hd hs hk
omit hI in
theorem callrg0 {post : SV → St → Prop} {C : Prop} {f : Nat} {args : List SV} {s : SV} {K : SV → Prop} (hF : C → FnD Tryd.prog f args (· = s)) (hd : args.all isDs = true) (hk : K s) : CallRG (EnI inl post) C f args K := callrg_rule (E := EnI inl post) hF hd hk
section
variable {post : SV → St → Prop} {cur : FI} {all : Array Oper} {o : Oper} {l : List Oper} {r : List It} {fr : List (Nat × SV)} {hp : List (Nat × Ob)} {nx : Nat} {stk : List Fm}
theorem fz0 (b : Nat) {T : TypeId} {d : D} {xs : List d.T} {t : List It} (hb : lk hp b = some (.row T d xs)) (h : fcH (fun hp' => fcN (fun fr' => go (EnI inl post) 100000 cur t ⟨fr', hp', nx⟩ stk) (fzF b d xs fr)) (fzH b d xs (rm hp b))) : Mean (EnI inl post) cur t ⟨fr, hp, nx⟩ stk :=
  freeze_rule hb (go0 (by rw [fcH_eq, fcN_eq] at h; exact h))
/-- an own row is data from here on: at a call, at a stop, at a loop, at a draw -/
theorem fzc (b : Nat) {T : TypeId} {d : D} {xs : List d.T} {f : Nat} {args : List SV} (hb : lk hp b = some (.row T d xs))
    (h : fcH (fun hp' => fcN (fun fr' => go (EnI inl post) 100000 cur (.ops all (⟨o.dst, o.op, o.type, o.pos, o.after, none⟩ :: l) :: r) ⟨fr', hp', nx⟩ stk) (fzF b d xs fr)) (fzH b d xs (rm hp b))) : CallOk (EnI inl post) cur f args all o l r ⟨fr, hp, nx⟩ stk :=
  ⟨fun _ => fz0 b hb h⟩
theorem fzs (b : Nat) {T : TypeId} {d : D} {xs : List d.T} (hb : lk hp b = some (.row T d xs))
    (h : fcH (fun hp' => fcN (fun fr' => go (EnI inl post) 100000 cur (.ops all (⟨o.dst, o.op, o.type, o.pos, o.after, none⟩ :: l) :: r) ⟨fr', hp', nx⟩ stk) (fzF b d xs fr)) (fzH b d xs (rm hp b))) : StuckOk (EnI inl post) cur all o l r ⟨fr, hp, nx⟩ stk :=
  ⟨fz0 b hb h⟩
theorem fzl (b : Nat) {T : TypeId} {d : D} {xs : List d.T} {c : Code} (hb : lk hp b = some (.row T d xs))
    (h : fcH (fun hp' => fcN (fun fr' => go (EnI inl post) 100000 cur (.code (.loop c) :: r) ⟨fr', hp', nx⟩ stk) (fzF b d xs fr)) (fzH b d xs (rm hp b))) : LoopOk (EnI inl post) cur c r ⟨fr, hp, nx⟩ stk :=
  ⟨fz0 b hb h⟩
theorem fzd (b : Nat) {T : TypeId} {d : D} {xs : List d.T} {id : Nat} (hb : lk hp b = some (.row T d xs))
    (h : fcH (fun hp' => fcN (fun fr' => go (EnI inl post) 100000 cur (.code (.region id all true) :: r) ⟨fr', hp', nx⟩ stk) (fzF b d xs fr)) (fzH b d xs (rm hp b))) : DrawOk (EnI inl post) cur id all r ⟨fr, hp, nx⟩ stk :=
  ⟨fz0 b hb h⟩
/-- an own row that is not empty: its capacity is a number from here on -/
theorem opns (b : Nat) {T : TypeId} {d : D} {xs : List d.T} (hb : lk hp b = some (.row T d xs)) (hne : xs.length ≠ 0)
    (h : ∀ c, xs.length ≤ c → c ≤ 9223372036854775807 → fcH (fun hp' => fcN (fun fr' => go (EnI inl post) 100000 cur (.ops all (⟨o.dst, o.op, o.type, o.pos, o.after, none⟩ :: l) :: r) ⟨fr', hp', nx⟩ stk) (rpF b (.sub b 0 d.sz xs.length c) fr)) ((b, .wid T d xs c) :: rm hp b)) : StuckOk (EnI inl post) cur all o l r ⟨fr, hp, nx⟩ stk :=
  ⟨open_rule hb hne fun c h1 h2 => go0 (by have := h c h1 h2; rw [fcH_eq, fcN_eq] at this; exact this)⟩
/-- the same, before a region that draws its order -/
theorem opnd (b : Nat) {T : TypeId} {d : D} {xs : List d.T} {id : Nat} (hb : lk hp b = some (.row T d xs)) (hne : xs.length ≠ 0)
    (h : ∀ c, xs.length ≤ c → c ≤ 9223372036854775807 → fcH (fun hp' => fcN (fun fr' => go (EnI inl post) 100000 cur (.code (.region id all true) :: r) ⟨fr', hp', nx⟩ stk) (rpF b (.sub b 0 d.sz xs.length c) fr)) ((b, .wid T d xs c) :: rm hp b)) : DrawOk (EnI inl post) cur id all r ⟨fr, hp, nx⟩ stk :=
  ⟨open_rule hb hne fun c h1 h2 => go0 (by have := h c h1 h2; rw [fcH_eq, fcN_eq] at this; exact this)⟩
/-- the same, where the row may be empty: it is nil, or opened -/
theorem opnx (b : Nat) {T : TypeId} {d : D} {xs : List d.T} (hb : lk hp b = some (.row T d xs))
    (h0 : xs = [] → fcH (fun hp' => fcN (fun fr' => go (EnI inl post) 100000 cur (.ops all (⟨o.dst, o.op, o.type, o.pos, o.after, none⟩ :: l) :: r) ⟨fr', hp', nx⟩ stk) (rpF b (.val (.slice none 0 0)) fr)) (rm hp b))
    (h : ∀ c, xs.length ≤ c → c ≤ 9223372036854775807 → fcH (fun hp' => fcN (fun fr' => go (EnI inl post) 100000 cur (.ops all (⟨o.dst, o.op, o.type, o.pos, o.after, none⟩ :: l) :: r) ⟨fr', hp', nx⟩ stk) (rpF b (.sub b 0 d.sz xs.length c) fr)) ((b, .wid T d xs c) :: rm hp b)) : StuckOk (EnI inl post) cur all o l r ⟨fr, hp, nx⟩ stk :=
  ⟨open1_rule hb (fun e => go0 (by have := h0 e; rw [fcH_eq, fcN_eq] at this; exact this)) fun c h1 h2 => go0 (by have := h c h1 h2; rw [fcH_eq, fcN_eq] at this; exact this)⟩
/-- a nil list in an object is an own row that has nothing in it: at a loop, at a call -/
theorem nilrl0 (b i T' : Nat) (d : D) {T : TypeId} {l' : List C} {c : Code} (hb : lk hp b = some (.cells T l')) (hi : l'[i]? = some (.val (.slice none 0 0)))
    (h : fcH (fun hp' => go (EnI inl post) 100000 cur (.code (.loop c) :: r) ⟨fr, hp', nx + 1⟩ stk) ((b, .cells T (l'.set i (.row nx))) :: rm ((nx, .row T' d []) :: hp) b)) : LoopOk (EnI inl post) cur c r ⟨fr, hp, nx⟩ stk :=
  ⟨nilrow_rule T' d hb hi (go0 (by rw [fcH_eq] at h; exact h))⟩
theorem nilrc0 (b i T' : Nat) (d : D) {T : TypeId} {l' : List C} {f : Nat} {args : List SV} (hb : lk hp b = some (.cells T l')) (hi : l'[i]? = some (.val (.slice none 0 0)))
    (h : fcH (fun hp' => go (EnI inl post) 100000 cur (.ops all (⟨o.dst, o.op, o.type, o.pos, o.after, none⟩ :: l) :: r) ⟨fr, hp', nx + 1⟩ stk) ((b, .cells T (l'.set i (.row nx))) :: rm ((nx, .row T' d []) :: hp) b)) : CallOk (EnI inl post) cur f args all o l r ⟨fr, hp, nx⟩ stk :=
  ⟨fun _ => nilrow_rule T' d hb hi (go0 (by rw [fcH_eq] at h; exact h))⟩
/-- an array's elements, got by numbers that are not known: at a loop -/
theorem arrl0 (b n : Nat) (d : D) {T : TypeId} {l' : List C} {xs : List d.T} {c : Code} (hb : lk hp b = some (.cells T l')) (hps : psN d n l' = some xs) (hn : Nat.ble n 4096 = true)
    (h : fcH (fun hp' => go (EnI inl post) 100000 cur (.code (.loop c) :: r) ⟨fr, hp', nx⟩ stk) ((b, .wid T d xs n) :: rm hp b)) : LoopOk (EnI inl post) cur c r ⟨fr, hp, nx⟩ stk :=
  ⟨arr_rule hb hps (Nat.le_of_ble_eq_true hn) (go0 (by rw [fcH_eq] at h; exact h))⟩
theorem ovl0 {f : Nat} {fn : Func} {tS tR e T2 T : TypeId} {i : TI} {b2 b o1 sz n c c0 : Nat} {d2 d : D} {ys : List d2.T} {xs : List d.T}
    (hf : Tryd.prog.funcs[f]? = some fn) (hname : (fn.name == "runtime.NumGoroutine") = false) (hb : fn.body.isNone = true) (hn : Extern.findNext fn = none) (he : Extern.find fn = some (Extern.SlicesOverlaps.overlaps #[tS, tS] #[tR])) (hi : lk tab tS = some i) (hk : i.tk = .slice e) (hes : (sz? (lk tab) e).isSome = true)
    (h2 : lk hp b2 = some (.row T2 d2 ys)) (h1 : lk hp b = some (.wid T d xs c0)) (hne : Nat.beq b2 b = false) (hy : ys.length ≠ 0) (hx : xs.length ≠ 0)
    (hm : fcF (fun fr' => go (EnI inl post) 100000 cur (.ops all l :: r) ⟨fr', hp, nx⟩ stk) (putF cur.nt fr o.dst (.c (.bool .ff)))) : CallOk (EnI inl post) cur f [.c (.row b2), .c (.sub b o1 sz n c)] all o l r ⟨fr, hp, nx⟩ stk :=
  ovl_rule (E := EnI inl post) (hI.out post) hf hname hb hn he hi hk hes h2 h1 hne hy hx (go0 (by rw [fcF_eq] at hm; exact hm))
theorem cmps0 {f : Nat} {fn : Func} {a b : List UInt8}
    (hf : Tryd.prog.funcs[f]? = some fn) (hname : (fn.name == "runtime.NumGoroutine") = false) (hb : fn.body.isNone = true) (hn : Extern.findNext fn = none) (he : Extern.find fn = some Extern.BytealgCompare.compare)
    (hm : fcF (fun fr' => go (EnI inl post) 100000 cur (.ops all l :: r) ⟨fr', hp, nx⟩ stk) (putF cur.nt fr o.dst (.c (.int .i64 (Lib.compareBytes a b))))) : CallOk (EnI inl post) cur f [.c (.str a), .c (.str b)] all o l r ⟨fr, hp, nx⟩ stk :=
  cmps_rule (E := EnI inl post) hf hname hb hn he (go0 (by rw [fcF_eq] at hm; exact hm))
/-- what holds behind a loop, a draw -/
theorem cutd {id : Nat} {st : St} {α : Type} (I : α → Prop) (σ : α → St) (h1 : DrawOk (EnI inl post) cur id all (.fin (fun st' => ∃ y, I y ∧ sub (σ y) st' stk) :: r) st stk) (h2 : ∀ y, I y → go (EnI inl post) 100000 cur r (σ y) stk) : DrawOk (EnI inl post) cur id all r st stk :=
  ⟨cut_rule I σ h1.out fun y hy => go0 (h2 y hy)⟩
theorem cutl {c : Code} {st : St} {α : Type} (I : α → Prop) (σ : α → St) (h1 : LoopOk (EnI inl post) cur c (.fin (fun st' => ∃ y, I y ∧ sub (σ y) st' stk) :: r) st stk) (h2 : ∀ y, I y → go (EnI inl post) 100000 cur r (σ y) stk) : LoopOk (EnI inl post) cur c r st stk :=
  ⟨cut_rule I σ h1.out fun y hy => go0 (h2 y hy)⟩
theorem range0 {T T' k e : TypeId} {x : Operand} {i : TI} {b : Nat} {kd0 kd vd : D} {es : List (kd.T × vd.T)} (ho : o.op = .range T x) (hi : lk tab T = some i) (hk : i.tk = .map k e kd0) (hx : ev fr x = .c (.mp b)) (hb : lk hp b = some (.dmp T' kd vd es))
    (hm : fcH (fun hp' => fcF (fun fr' => go (EnI inl post) 100000 cur (.ops all l :: r) ⟨fr', hp', nx + 1⟩ stk) (putF cur.nt fr o.dst (.c (.ptr nx 0)))) ((nx, .itr b es.length []) :: rm hp nx)) : StuckOk (EnI inl post) cur all o l r ⟨fr, hp, nx⟩ stk :=
  range_rule (E := EnI inl post) (hI.out post).tab ho hi hk hx hb (go0 (by rw [fcH_eq, fcF_eq] at hm; exact hm))
theorem next0 {T' : TypeId} {x : Operand} {b m : Nat} {kd vd : D} {es : List (kd.T × vd.T)} {n : Nat} {seen : List Nat} (ho : o.op = .next x false) (hx : ev fr x = .c (.ptr b 0)) (hb : lk hp b = some (.itr m n seen)) (hm : lk hp m = some (.dmp T' kd vd es)) (hn : n = es.length) (hkp : kd.plain = true) (hvp : vd.plain = true)
    (h1 : (∀ i, i < es.length → i ∈ seen) → fcF (fun fr' => go (EnI inl post) 100000 cur (.ops all l :: r) ⟨fr', hp, nx⟩ stk) (putF cur.nt fr o.dst (.tup [(false, [.bool .ff])])))
    (h2 : ∀ (i : Nat) (hi : i < es.length), i ∉ seen → fcH (fun hp' => fcN (fun fr' => go (EnI inl post) 100000 cur (.ops all l :: r) ⟨fr', hp', nx⟩ stk) (putF cur.nt fr o.dst (.tup [(false, [.bool .tt]), partD kd es[i].1, partD vd es[i].2]))) ((b, .itr m n (seen ++ [i])) :: rm hp b)) :
    StuckOk (EnI inl post) cur all o l r ⟨fr, hp, nx⟩ stk :=
  next_rule (E := EnI inl post) ho hx hb hm hn hkp hvp (fun h => go0 (by have := h1 h; rw [fcF_eq] at this; exact this)) (fun i hi hs => go0 (by have := h2 i hi hs; rw [fcH_eq, fcN_eq] at this; exact this))
theorem entry0 {T' : TypeId} {x : Operand} {b m : Nat} {kd vd : D} {es : List (kd.T × vd.T)} {n : Nat} {seen : List Nat} {i : Nat} (ho : o.op = .entry x) (hx : ev fr x = .c (.ptr b 0)) (hb : lk hp b = some (.itr m n (seen ++ [i]))) (hm : lk hp m = some (.dmp T' kd vd es)) (hn : n = es.length) (hi : i < es.length) (hkp : kd.plain = true) (hvp : vd.plain = true)
    (h2 : fcN (fun fr' => go (EnI inl post) 100000 cur (.ops all l :: r) ⟨fr', hp, nx⟩ stk) (putF cur.nt fr o.dst (.tup [partD kd es[i].1, partD vd es[i].2]))) : StuckOk (EnI inl post) cur all o l r ⟨fr, hp, nx⟩ stk :=
  entry_rule (E := EnI inl post) ho hx hb hm hn hi hkp hvp (go0 (by rw [fcN_eq] at h2; exact h2))
theorem eqs0 (d : D) {t rt : TypeId} {x y : Operand} {p q : d.T} (n : Nat) (ho : o.op = .binOp .eql t x y rt) (hB : eqtB Tryd.prog n t d = true) (hn : Nat.ble n 10000 = true) (hg : Tryd.prog.eqGuardType Tryd.prog.depth t = false) (hpr : isPr d = true) (hx : psS d (ev fr x) = some p) (hy : psS d (ev fr y) = some q)
    (hm : fcF (fun fr' => go (EnI inl post) 100000 cur (.ops all l :: r) ⟨fr', hp, nx⟩ stk) (putF cur.nt fr o.dst (.c (.bool (.sym (d.eqb p q)))))) : StuckOk (EnI inl post) cur all o l r ⟨fr, hp, nx⟩ stk :=
  eqs_rule (E := EnI inl post) d ho hB hn hg hpr hx hy (go0 (by rw [fcF_eq] at hm; exact hm))
end
theorem after0 {post : SV → St → Prop} {cur : FI} {r : List It} {st : St} {stk : List Fm} (h : go (EnI inl post) 100000 cur r st stk) : AfterQ (EnI inl post) cur r st stk := ⟨go0 h⟩
end
end Go.Proofs.YtnldokebmfojeaaDoor
