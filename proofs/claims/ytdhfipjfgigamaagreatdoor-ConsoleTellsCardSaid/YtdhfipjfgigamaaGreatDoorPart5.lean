/- Several texts of the proof, one behind the other; put together by a program of the session (mrg.py). Own work. -/
import Derived.Test.YtdhfipjfgigamaaGreatDoorProg
import Derived.KernelRfl
import Derived.Test.YtdhfipjfgigamaaGreatDoorPart4
/- The types of this seat's translation, as the engine wants them; short rules. Written by a program of the session (oegen.py). -/
set_option linter.unusedVariables false
namespace Go.Proofs.YtdhfipjfgigamaaGreatDoor
open Go Go.RowKit OE
def tab : List (Nat × TI) := [
  (1, ⟨.other, 1, 8, [.val .nilFunc], .bool⟩),
  (2, ⟨.int .i64, 1, 8, [.int .i64 0], (.int .i64)⟩),
  (3, ⟨.int .i64, 1, 8, [.int .i64 0], (.int .i64)⟩),
  (4, ⟨.bool, 1, 1, [.bool .ff], .bool⟩),
  (5, ⟨.int .u8, 1, 1, [.int .u8 0], (.int .u8)⟩),
  (6, ⟨.int .u8, 1, 1, [.int .u8 0], (.int .u8)⟩),
  (7, ⟨.strct [(0, 1, false), (1, 1, false), (2, 1, false), (3, 1, false)], 4, 24, [.int .i64 0, .int .i64 0, .bool .ff, .int .u8 0], (.pair (.int .i64) (.pair (.int .i64) (.pair .bool (.int .u8))))⟩),
  (8, ⟨.strct [(0, 1, false), (1, 1, false), (2, 1, false), (3, 1, false)], 4, 24, [.int .i64 0, .int .i64 0, .bool .ff, .int .u8 0], (.pair (.int .i64) (.pair (.int .i64) (.pair .bool (.int .u8))))⟩),
  (9, ⟨.str, 1, 16, [.str []], .str⟩),
  (10, ⟨.str, 1, 16, [.str []], .str⟩),
  (11, ⟨.str, 1, 16, [.str []], .str⟩),
  (12, ⟨.int .u64, 1, 8, [.int .u64 0], (.int .u64)⟩),
  (13, ⟨.strct [(0, 1, false), (1, 1, false)], 2, 24, [.str [], .int .u64 0], (.pair .str (.int .u64))⟩),
  (14, ⟨.strct [(0, 1, false), (1, 1, false)], 2, 24, [.str [], .int .u64 0], (.pair .str (.int .u64))⟩),
  (15, ⟨.ptr 241, 1, 8, [.val (.pointer none)], .bool⟩),
  (16, ⟨.ptr 244, 1, 8, [.val (.pointer none)], .bool⟩),
  (17, ⟨.ptr 252, 1, 8, [.val (.pointer none)], .bool⟩),
  (18, ⟨.strct [(0, 1, false)], 1, 8, [.val (.pointer none)], .bool⟩),
  (19, ⟨.strct [(0, 1, false)], 1, 8, [.val (.pointer none)], .bool⟩),
  (20, ⟨.iface, 1, 16, [.val .nilIface], .bool⟩),
  (21, ⟨.int .i32, 1, 4, [.int .i32 0], (.int .i32)⟩),
  (22, ⟨.other, 1, 8, [.val .nilFunc], .bool⟩),
  (23, ⟨.strct [(0, 1, false), (1, 1, false), (2, 1, false)], 3, 32, [.int .i64 0, .int .i64 0, .str []], (.pair (.int .i64) (.pair (.int .i64) .str))⟩),
  (24, ⟨.strct [(0, 1, false), (1, 1, false), (2, 1, false)], 3, 32, [.int .i64 0, .int .i64 0, .str []], (.pair (.int .i64) (.pair (.int .i64) .str))⟩),
  (25, ⟨.strct [(0, 1, false), (1, 1, false), (2, 1, false), (3, 1, false), (4, 1, false), (5, 1, false), (6, 3, true), (9, 1, false)], 10, 104, [.int .i64 0, .int .i64 0, .str [], .int .i64 0, .int .i64 0, .str [], .int .i64 0, .int .i64 0, .str [], .bool .ff], (.pair (.int .i64) (.pair (.int .i64) (.pair .str (.pair (.int .i64) (.pair (.int .i64) (.pair .str (.pair (.pair (.int .i64) (.pair (.int .i64) .str)) .bool)))))))⟩),
  (26, ⟨.strct [(0, 1, false), (1, 1, false), (2, 1, false), (3, 1, false), (4, 1, false), (5, 1, false), (6, 3, true), (9, 1, false)], 10, 104, [.int .i64 0, .int .i64 0, .str [], .int .i64 0, .int .i64 0, .str [], .int .i64 0, .int .i64 0, .str [], .bool .ff], (.pair (.int .i64) (.pair (.int .i64) (.pair .str (.pair (.int .i64) (.pair (.int .i64) (.pair .str (.pair (.pair (.int .i64) (.pair (.int .i64) .str)) .bool)))))))⟩),
  (27, ⟨.strct [(0, 1, false), (1, 1, false), (2, 1, false), (3, 1, false), (4, 1, false), (5, 1, false), (6, 1, false), (7, 1, false)], 8, 96, [.int .i64 0, .int .i64 0, .str [], .str [], .str [], .str [], .int .i64 0, .int .i64 0], (.pair (.int .i64) (.pair (.int .i64) (.pair .str (.pair .str (.pair .str (.pair .str (.pair (.int .i64) (.int .i64))))))))⟩),
  (28, ⟨.strct [(0, 1, false), (1, 1, false), (2, 1, false), (3, 1, false), (4, 1, false), (5, 1, false), (6, 1, false), (7, 1, false)], 8, 96, [.int .i64 0, .int .i64 0, .str [], .str [], .str [], .str [], .int .i64 0, .int .i64 0], (.pair (.int .i64) (.pair (.int .i64) (.pair .str (.pair .str (.pair .str (.pair .str (.pair (.int .i64) (.int .i64))))))))⟩),
  (29, ⟨.strct [(0, 1, false), (1, 1, false), (2, 1, false), (3, 1, false), (4, 3, true), (7, 3, true), (10, 1, false), (11, 10, true), (21, 8, true)], 29, 320, [.int .i64 0, .int .i64 0, .str [], .str [], .int .i64 0, .int .i64 0, .str [], .int .i64 0, .int .i64 0, .str [], .int .i64 0, .int .i64 0, .int .i64 0, .str [], .int .i64 0, .int .i64 0, .str [], .int .i64 0, .int .i64 0, .str [], .bool .ff, .int .i64 0, .int .i64 0, .str [], .str [], .str [], .str [], .int .i64 0, .int .i64 0], (.pair (.int .i64) (.pair (.int .i64) (.pair .str (.pair .str (.pair (.pair (.int .i64) (.pair (.int .i64) .str)) (.pair (.pair (.int .i64) (.pair (.int .i64) .str)) (.pair (.int .i64) (.pair (.pair (.int .i64) (.pair (.int .i64) (.pair .str (.pair (.int .i64) (.pair (.int .i64) (.pair .str (.pair (.pair (.int .i64) (.pair (.int .i64) .str)) .bool))))))) (.pair (.int .i64) (.pair (.int .i64) (.pair .str (.pair .str (.pair .str (.pair .str (.pair (.int .i64) (.int .i64))))))))))))))))⟩),
  (30, ⟨.strct [(0, 1, false), (1, 1, false), (2, 1, false), (3, 1, false), (4, 3, true), (7, 3, true), (10, 1, false), (11, 10, true), (21, 8, true)], 29, 320, [.int .i64 0, .int .i64 0, .str [], .str [], .int .i64 0, .int .i64 0, .str [], .int .i64 0, .int .i64 0, .str [], .int .i64 0, .int .i64 0, .int .i64 0, .str [], .int .i64 0, .int .i64 0, .str [], .int .i64 0, .int .i64 0, .str [], .bool .ff, .int .i64 0, .int .i64 0, .str [], .str [], .str [], .str [], .int .i64 0, .int .i64 0], (.pair (.int .i64) (.pair (.int .i64) (.pair .str (.pair .str (.pair (.pair (.int .i64) (.pair (.int .i64) .str)) (.pair (.pair (.int .i64) (.pair (.int .i64) .str)) (.pair (.int .i64) (.pair (.pair (.int .i64) (.pair (.int .i64) (.pair .str (.pair (.int .i64) (.pair (.int .i64) (.pair .str (.pair (.pair (.int .i64) (.pair (.int .i64) .str)) .bool))))))) (.pair (.int .i64) (.pair (.int .i64) (.pair .str (.pair .str (.pair .str (.pair .str (.pair (.int .i64) (.int .i64))))))))))))))))⟩),
  (31, ⟨.int .i64, 1, 8, [.int .i64 0], (.int .i64)⟩),
  (33, ⟨.other, 1, 8, [.val .nilFunc], .bool⟩),
  (35, ⟨.other, 1, 8, [.val .nilFunc], .bool⟩),
  (36, ⟨.other, 1, 8, [.val .nilFunc], .bool⟩),
  (37, ⟨.other, 1, 8, [.val .nilFunc], .bool⟩),
  (38, ⟨.other, 1, 8, [.val .nilFunc], .bool⟩),
  (40, ⟨.other, 1, 8, [.val .nilFunc], .bool⟩),
  (42, ⟨.other, 1, 8, [.val .nilFunc], .bool⟩),
  (43, ⟨.slice 85, 1, 24, [.val (.slice none 0 0)], (.list (.pair (.int .i64) (.pair .str (.list (.pair .str (.pair (.int .i64) (.pair (.int .i64) .str)))))))⟩),
  (44, ⟨.slice 88, 1, 24, [.val (.slice none 0 0)], (.list (.pair (.int .i64) (.pair .str (.pair (.int .i64) (.pair (.int .i64) (.list (.pair .str (.pair (.int .i64) (.pair (.int .i64) .str)))))))))⟩),
  (45, ⟨.slice 2, 1, 24, [.val (.slice none 0 0)], (.list (.int .i64))⟩),
  (46, ⟨.slice 9, 1, 24, [.val (.slice none 0 0)], (.list .str)⟩),
  (47, ⟨.slice 28, 1, 24, [.val (.slice none 0 0)], (.list (.pair (.int .i64) (.pair (.int .i64) (.pair .str (.pair .str (.pair .str (.pair .str (.pair (.int .i64) (.int .i64)))))))))⟩),
  (48, ⟨.slice 128, 1, 24, [.val (.slice none 0 0)], (.list (.pair .str .str))⟩),
  (49, ⟨.strct [(0, 1, false), (1, 1, false), (2, 1, false), (3, 1, false), (4, 1, false)], 5, 104, [.val (.slice none 0 0), .val (.slice none 0 0), .val (.slice none 0 0), .val (.slice none 0 0), .int .i64 0], (.pair (.list .str) (.pair (.list .str) (.pair (.list (.pair (.int .i64) (.pair (.int .i64) (.pair .str (.pair .str (.pair .str (.pair .str (.pair (.int .i64) (.int .i64))))))))) (.pair (.list (.pair .str .str)) (.int .i64)))))⟩),
  (50, ⟨.strct [(0, 1, false), (1, 1, false), (2, 1, false), (3, 1, false), (4, 1, false)], 5, 104, [.val (.slice none 0 0), .val (.slice none 0 0), .val (.slice none 0 0), .val (.slice none 0 0), .int .i64 0], (.pair (.list .str) (.pair (.list .str) (.pair (.list (.pair (.int .i64) (.pair (.int .i64) (.pair .str (.pair .str (.pair .str (.pair .str (.pair (.int .i64) (.int .i64))))))))) (.pair (.list (.pair .str .str)) (.int .i64)))))⟩),
  (51, ⟨.strct [(0, 1, false), (1, 1, false), (2, 1, false), (3, 1, false), (4, 1, false), (5, 1, false), (6, 5, true)], 11, 200, [.int .i64 0, .int .i64 0, .int .i64 0, .val (.slice none 0 0), .val (.slice none 0 0), .val (.slice none 0 0), .val (.slice none 0 0), .val (.slice none 0 0), .val (.slice none 0 0), .val (.slice none 0 0), .int .i64 0], (.pair (.int .i64) (.pair (.int .i64) (.pair (.int .i64) (.pair (.list (.pair (.int .i64) (.pair .str (.list (.pair .str (.pair (.int .i64) (.pair (.int .i64) .str))))))) (.pair (.list (.pair (.int .i64) (.pair .str (.pair (.int .i64) (.pair (.int .i64) (.list (.pair .str (.pair (.int .i64) (.pair (.int .i64) .str))))))))) (.pair (.list (.int .i64)) (.pair (.list .str) (.pair (.list .str) (.pair (.list (.pair (.int .i64) (.pair (.int .i64) (.pair .str (.pair .str (.pair .str (.pair .str (.pair (.int .i64) (.int .i64))))))))) (.pair (.list (.pair .str .str)) (.int .i64)))))))))))⟩),
  (52, ⟨.strct [(0, 1, false), (1, 1, false), (2, 1, false), (3, 1, false), (4, 1, false), (5, 1, false), (6, 5, true)], 11, 200, [.int .i64 0, .int .i64 0, .int .i64 0, .val (.slice none 0 0), .val (.slice none 0 0), .val (.slice none 0 0), .val (.slice none 0 0), .val (.slice none 0 0), .val (.slice none 0 0), .val (.slice none 0 0), .int .i64 0], (.pair (.int .i64) (.pair (.int .i64) (.pair (.int .i64) (.pair (.list (.pair (.int .i64) (.pair .str (.list (.pair .str (.pair (.int .i64) (.pair (.int .i64) .str))))))) (.pair (.list (.pair (.int .i64) (.pair .str (.pair (.int .i64) (.pair (.int .i64) (.list (.pair .str (.pair (.int .i64) (.pair (.int .i64) .str))))))))) (.pair (.list (.int .i64)) (.pair (.list .str) (.pair (.list .str) (.pair (.list (.pair (.int .i64) (.pair (.int .i64) (.pair .str (.pair .str (.pair .str (.pair .str (.pair (.int .i64) (.int .i64))))))))) (.pair (.list (.pair .str .str)) (.int .i64)))))))))))⟩),
  (53, ⟨.other, 1, 8, [.val .nilFunc], .bool⟩),
  (54, ⟨.other, 1, 8, [.val .nilFunc], .bool⟩),
  (55, ⟨.other, 1, 8, [.val .nilFunc], .bool⟩),
  (56, ⟨.other, 1, 8, [.val .nilFunc], .bool⟩),
  (57, ⟨.int .u32, 1, 4, [.int .u32 0], (.int .u32)⟩),
  (58, ⟨.other, 1, 8, [.val .nilFunc], .bool⟩),
  (59, ⟨.other, 1, 8, [.val .nilFunc], .bool⟩),
  (60, ⟨.strct [(0, 1, false), (1, 1, false), (2, 1, false), (3, 1, false)], 4, 48, [.str [], .int .i64 0, .int .i64 0, .str []], (.pair .str (.pair (.int .i64) (.pair (.int .i64) .str)))⟩),
  (61, ⟨.strct [(0, 1, false), (1, 1, false), (2, 1, false), (3, 1, false)], 4, 48, [.str [], .int .i64 0, .int .i64 0, .str []], (.pair .str (.pair (.int .i64) (.pair (.int .i64) .str)))⟩),
  (62, ⟨.array 28 61, 112, 1344, [.str [], .int .i64 0, .int .i64 0, .str [], .str [], .int .i64 0, .int .i64 0, .str [], .str [], .int .i64 0, .int .i64 0, .str [], .str [], .int .i64 0, .int .i64 0, .str [], .str [], .int .i64 0, .int .i64 0, .str [], .str [], .int .i64 0, .int .i64 0, .str [], .str [], .int .i64 0, .int .i64 0, .str [], .str [], .int .i64 0, .int .i64 0, .str [], .str [], .int .i64 0, .int .i64 0, .str [], .str [], .int .i64 0, .int .i64 0, .str [], .str [], .int .i64 0, .int .i64 0, .str [], .str [], .int .i64 0, .int .i64 0, .str [], .str [], .int .i64 0, .int .i64 0, .str [], .str [], .int .i64 0, .int .i64 0, .str [], .str [], .int .i64 0, .int .i64 0, .str [], .str [], .int .i64 0, .int .i64 0, .str [], .str [], .int .i64 0, .int .i64 0, .str [], .str [], .int .i64 0, .int .i64 0, .str [], .str [], .int .i64 0, .int .i64 0, .str [], .str [], .int .i64 0, .int .i64 0, .str [], .str [], .int .i64 0, .int .i64 0, .str [], .str [], .int .i64 0, .int .i64 0, .str [], .str [], .int .i64 0, .int .i64 0, .str [], .str [], .int .i64 0, .int .i64 0, .str [], .str [], .int .i64 0, .int .i64 0, .str [], .str [], .int .i64 0, .int .i64 0, .str [], .str [], .int .i64 0, .int .i64 0, .str [], .str [], .int .i64 0, .int .i64 0, .str []], .bool⟩),
  (63, ⟨.other, 1, 8, [.val .nilFunc], .bool⟩),
  (64, ⟨.other, 1, 8, [.val .nilFunc], .bool⟩),
  (65, ⟨.ptr 30, 1, 8, [.val (.pointer none)], .bool⟩),
  (66, ⟨.strct [(0, 1, false)], 1, 8, [.val (.pointer none)], .bool⟩),
  (67, ⟨.strct [(0, 1, false)], 1, 8, [.val (.pointer none)], .bool⟩),
  (68, ⟨.other, 1, 8, [.val .nilFunc], .bool⟩),
  (70, ⟨.other, 1, 8, [.val .nilFunc], .bool⟩),
  (71, ⟨.other, 1, 8, [.val .nilFunc], .bool⟩),
  (72, ⟨.other, 1, 8, [.val .nilFunc], .bool⟩),
  (73, ⟨.other, 1, 8, [.val .nilFunc], .bool⟩),
  (74, ⟨.other, 1, 8, [.val .nilFunc], .bool⟩),
  (75, ⟨.other, 1, 8, [.val .nilFunc], .bool⟩),
  (76, ⟨.other, 1, 8, [.val .nilFunc], .bool⟩),
  (77, ⟨.other, 1, 8, [.val .nilFunc], .bool⟩),
  (78, ⟨.other, 1, 8, [.val .nilFunc], .bool⟩),
  (79, ⟨.other, 1, 8, [.val .nilFunc], .bool⟩),
  (80, ⟨.other, 1, 8, [.val .nilFunc], .bool⟩),
  (81, ⟨.other, 1, 8, [.val .nilFunc], .bool⟩),
  (82, ⟨.other, 1, 8, [.val .nilFunc], .bool⟩),
  (83, ⟨.slice 130, 1, 24, [.val (.slice none 0 0)], (.list (.pair .str (.pair (.int .i64) (.pair (.int .i64) .str))))⟩),
  (84, ⟨.strct [(0, 1, false), (1, 1, false), (2, 1, false)], 3, 48, [.int .i64 0, .str [], .val (.slice none 0 0)], (.pair (.int .i64) (.pair .str (.list (.pair .str (.pair (.int .i64) (.pair (.int .i64) .str))))))⟩),
  (85, ⟨.strct [(0, 1, false), (1, 1, false), (2, 1, false)], 3, 48, [.int .i64 0, .str [], .val (.slice none 0 0)], (.pair (.int .i64) (.pair .str (.list (.pair .str (.pair (.int .i64) (.pair (.int .i64) .str))))))⟩),
  (86, ⟨.other, 1, 8, [.val .nilFunc], .bool⟩),
  (87, ⟨.strct [(0, 1, false), (1, 1, false), (2, 1, false), (3, 1, false), (4, 1, false)], 5, 64, [.int .i64 0, .str [], .int .i64 0, .int .i64 0, .val (.slice none 0 0)], (.pair (.int .i64) (.pair .str (.pair (.int .i64) (.pair (.int .i64) (.list (.pair .str (.pair (.int .i64) (.pair (.int .i64) .str))))))))⟩),
  (88, ⟨.strct [(0, 1, false), (1, 1, false), (2, 1, false), (3, 1, false), (4, 1, false)], 5, 64, [.int .i64 0, .str [], .int .i64 0, .int .i64 0, .val (.slice none 0 0)], (.pair (.int .i64) (.pair .str (.pair (.int .i64) (.pair (.int .i64) (.list (.pair .str (.pair (.int .i64) (.pair (.int .i64) .str))))))))⟩),
  (89, ⟨.other, 1, 8, [.val .nilFunc], .bool⟩),
  (90, ⟨.other, 1, 8, [.val .nilFunc], .bool⟩),
  (91, ⟨.other, 1, 8, [.val .nilFunc], .bool⟩),
  (92, ⟨.other, 1, 8, [.val .nilFunc], .bool⟩),
  (93, ⟨.other, 1, 8, [.val .nilFunc], .bool⟩),
  (94, ⟨.ptr 9, 1, 8, [.val (.pointer none)], .bool⟩),
  (95, ⟨.other, 1, 8, [.val .nilFunc], .bool⟩),
  (96, ⟨.ptr 24, 1, 8, [.val (.pointer none)], .bool⟩),
  (97, ⟨.other, 1, 8, [.val .nilFunc], .bool⟩),
  (99, ⟨.other, 1, 8, [.val .nilFunc], .bool⟩),
  (101, ⟨.other, 1, 8, [.val .nilFunc], .bool⟩),
  (102, ⟨.ptr 2, 1, 8, [.val (.pointer none)], .bool⟩),
  (103, ⟨.other, 1, 8, [.val .nilFunc], .bool⟩),
  (104, ⟨.ptr 3, 1, 8, [.val (.pointer none)], .bool⟩),
  (105, ⟨.other, 1, 8, [.val .nilFunc], .bool⟩),
  (107, ⟨.other, 1, 8, [.val .nilFunc], .bool⟩),
  (108, ⟨.other, 1, 8, [.val .nilFunc], .bool⟩),
  (109, ⟨.other, 1, 8, [.val .nilFunc], .bool⟩),
  (110, ⟨.other, 1, 8, [.val .nilFunc], .bool⟩),
  (111, ⟨.other, 1, 8, [.val .nilFunc], .bool⟩),
  (112, ⟨.strct [(0, 3, true), (3, 1, false)], 4, 40, [.int .i64 0, .int .i64 0, .str [], .bool .ff], (.pair (.pair (.int .i64) (.pair (.int .i64) .str)) .bool)⟩),
  (113, ⟨.strct [(0, 3, true), (3, 1, false)], 4, 40, [.int .i64 0, .int .i64 0, .str [], .bool .ff], (.pair (.pair (.int .i64) (.pair (.int .i64) .str)) .bool)⟩),
  (114, ⟨.other, 1, 8, [.val .nilFunc], .bool⟩),
  (115, ⟨.other, 1, 8, [.val .nilFunc], .bool⟩),
  (116, ⟨.other, 1, 8, [.val .nilFunc], .bool⟩),
  (117, ⟨.ptr 120, 1, 8, [.val (.pointer none)], .bool⟩),
  (118, ⟨.slice 5, 1, 24, [.val (.slice none 0 0)], (.list (.int .u8))⟩),
  (119, ⟨.strct [(0, 1, false), (1, 1, false)], 2, 32, [.val (.pointer none), .val (.slice none 0 0)], (.pair .bool (.list (.int .u8)))⟩),
  (120, ⟨.strct [(0, 1, false), (1, 1, false)], 2, 32, [.val (.pointer none), .val (.slice none 0 0)], (.pair .bool (.list (.int .u8)))⟩),
  (121, ⟨.other, 1, 8, [.val .nilFunc], .bool⟩),
  (122, ⟨.iface, 1, 16, [.val .nilIface], .bool⟩),
  (123, ⟨.iface, 1, 16, [.val .nilIface], .bool⟩),
  (125, ⟨.other, 1, 8, [.val .nilFunc], .bool⟩),
  (126, ⟨.other, 1, 8, [.val .nilFunc], .bool⟩),
  (127, ⟨.strct [(0, 1, false), (1, 1, false)], 2, 32, [.str [], .str []], (.pair .str .str)⟩),
  (128, ⟨.strct [(0, 1, false), (1, 1, false)], 2, 32, [.str [], .str []], (.pair .str .str)⟩),
  (129, ⟨.strct [(0, 1, false), (1, 3, true)], 4, 48, [.str [], .int .i64 0, .int .i64 0, .str []], (.pair .str (.pair (.int .i64) (.pair (.int .i64) .str)))⟩),
  (130, ⟨.strct [(0, 1, false), (1, 3, true)], 4, 48, [.str [], .int .i64 0, .int .i64 0, .str []], (.pair .str (.pair (.int .i64) (.pair (.int .i64) .str)))⟩),
  (131, ⟨.other, 1, 8, [.val .nilFunc], .bool⟩),
  (132, ⟨.other, 1, 8, [.val .nilFunc], .bool⟩),
  (133, ⟨.other, 1, 8, [.val .nilFunc], .bool⟩),
  (134, ⟨.ptr 26, 1, 8, [.val (.pointer none)], .bool⟩),
  (135, ⟨.ptr 28, 1, 8, [.val (.pointer none)], .bool⟩),
  (136, ⟨.other, 1, 8, [.val .nilFunc], .bool⟩),
  (137, ⟨.other, 1, 8, [.val .nilFunc], .bool⟩),
  (138, ⟨.other, 1, 8, [.val .nilFunc], .bool⟩),
  (139, ⟨.int .u64, 1, 8, [.int .u64 0], (.int .u64)⟩),
  (141, ⟨.other, 1, 8, [.val .nilFunc], .bool⟩),
  (142, ⟨.other, 1, 8, [.val .nilFunc], .bool⟩),
  (143, ⟨.other, 1, 8, [.val .nilFunc], .bool⟩),
  (144, ⟨.array 21 9, 21, 336, [.str [], .str [], .str [], .str [], .str [], .str [], .str [], .str [], .str [], .str [], .str [], .str [], .str [], .str [], .str [], .str [], .str [], .str [], .str [], .str [], .str []], .bool⟩),
  (145, ⟨.ptr 4, 1, 8, [.val (.pointer none)], .bool⟩),
  (146, ⟨.strct [(0, 1, false), (1, 1, false), (2, 1, false), (3, 1, false), (4, 1, false), (5, 1, false), (6, 1, false), (7, 1, false), (8, 1, false), (9, 1, false), (10, 1, false)], 11, 88, [.val (.pointer none), .val (.pointer none), .val (.pointer none), .val (.pointer none), .val (.pointer none), .val (.pointer none), .val (.pointer none), .val (.pointer none), .val (.pointer none), .val (.pointer none), .val (.pointer none)], (.pair .bool (.pair .bool (.pair .bool (.pair .bool (.pair .bool (.pair .bool (.pair .bool (.pair .bool (.pair .bool (.pair .bool .bool))))))))))⟩),
  (147, ⟨.strct [(0, 1, false), (1, 1, false), (2, 1, false), (3, 1, false), (4, 1, false), (5, 1, false), (6, 1, false), (7, 1, false), (8, 1, false), (9, 1, false), (10, 1, false)], 11, 88, [.val (.pointer none), .val (.pointer none), .val (.pointer none), .val (.pointer none), .val (.pointer none), .val (.pointer none), .val (.pointer none), .val (.pointer none), .val (.pointer none), .val (.pointer none), .val (.pointer none)], (.pair .bool (.pair .bool (.pair .bool (.pair .bool (.pair .bool (.pair .bool (.pair .bool (.pair .bool (.pair .bool (.pair .bool .bool))))))))))⟩),
  (148, ⟨.other, 1, 8, [.val .nilFunc], .bool⟩),
  (150, ⟨.other, 1, 8, [.val .nilFunc], .bool⟩),
  (151, ⟨.other, 1, 8, [.val .nilFunc], .bool⟩),
  (152, ⟨.other, 1, 8, [.val .nilFunc], .bool⟩),
  (153, ⟨.other, 1, 8, [.val .nilFunc], .bool⟩),
  (154, ⟨.other, 1, 8, [.val .nilFunc], .bool⟩),
  (156, ⟨.other, 1, 8, [.val .nilFunc], .bool⟩),
  (157, ⟨.other, 1, 8, [.val .nilFunc], .bool⟩),
  (158, ⟨.other, 1, 8, [.val .nilFunc], .bool⟩),
  (159, ⟨.ptr 5, 1, 8, [.val (.pointer none)], .bool⟩),
  (160, ⟨.other, 1, 8, [.val .nilFunc], .bool⟩),
  (161, ⟨.other, 1, 8, [.val .nilFunc], .bool⟩),
  (162, ⟨.other, 1, 8, [.val .nilFunc], .bool⟩),
  (163, ⟨.other, 1, 8, [.val .nilFunc], .bool⟩),
  (164, ⟨.array 256 4, 256, 256, [.bool .ff, .bool .ff, .bool .ff, .bool .ff, .bool .ff, .bool .ff, .bool .ff, .bool .ff, .bool .ff, .bool .ff, .bool .ff, .bool .ff, .bool .ff, .bool .ff, .bool .ff, .bool .ff, .bool .ff, .bool .ff, .bool .ff, .bool .ff, .bool .ff, .bool .ff, .bool .ff, .bool .ff, .bool .ff, .bool .ff, .bool .ff, .bool .ff, .bool .ff, .bool .ff, .bool .ff, .bool .ff, .bool .ff, .bool .ff, .bool .ff, .bool .ff, .bool .ff, .bool .ff, .bool .ff, .bool .ff, .bool .ff, .bool .ff, .bool .ff, .bool .ff, .bool .ff, .bool .ff, .bool .ff, .bool .ff, .bool .ff, .bool .ff, .bool .ff, .bool .ff, .bool .ff, .bool .ff, .bool .ff, .bool .ff, .bool .ff, .bool .ff, .bool .ff, .bool .ff, .bool .ff, .bool .ff, .bool .ff, .bool .ff, .bool .ff, .bool .ff, .bool .ff, .bool .ff, .bool .ff, .bool .ff, .bool .ff, .bool .ff, .bool .ff, .bool .ff, .bool .ff, .bool .ff, .bool .ff, .bool .ff, .bool .ff, .bool .ff, .bool .ff, .bool .ff, .bool .ff, .bool .ff, .bool .ff, .bool .ff, .bool .ff, .bool .ff, .bool .ff, .bool .ff, .bool .ff, .bool .ff, .bool .ff, .bool .ff, .bool .ff, .bool .ff, .bool .ff, .bool .ff, .bool .ff, .bool .ff, .bool .ff, .bool .ff, .bool .ff, .bool .ff, .bool .ff, .bool .ff, .bool .ff, .bool .ff, .bool .ff, .bool .ff, .bool .ff, .bool .ff, .bool .ff, .bool .ff, .bool .ff, .bool .ff, .bool .ff, .bool .ff, .bool .ff, .bool .ff, .bool .ff, .bool .ff, .bool .ff, .bool .ff, .bool .ff, .bool .ff, .bool .ff, .bool .ff, .bool .ff, .bool .ff, .bool .ff, .bool .ff, .bool .ff, .bool .ff, .bool .ff, .bool .ff, .bool .ff, .bool .ff, .bool .ff, .bool .ff, .bool .ff, .bool .ff, .bool .ff, .bool .ff, .bool .ff, .bool .ff, .bool .ff, .bool .ff, .bool .ff, .bool .ff, .bool .ff, .bool .ff, .bool .ff, .bool .ff, .bool .ff, .bool .ff, .bool .ff, .bool .ff, .bool .ff, .bool .ff, .bool .ff, .bool .ff, .bool .ff, .bool .ff, .bool .ff, .bool .ff, .bool .ff, .bool .ff, .bool .ff, .bool .ff, .bool .ff, .bool .ff, .bool .ff, .bool .ff, .bool .ff, .bool .ff, .bool .ff, .bool .ff, .bool .ff, .bool .ff, .bool .ff, .bool .ff, .bool .ff, .bool .ff, .bool .ff, .bool .ff, .bool .ff, .bool .ff, .bool .ff, .bool .ff, .bool .ff, .bool .ff, .bool .ff, .bool .ff, .bool .ff, .bool .ff, .bool .ff, .bool .ff, .bool .ff, .bool .ff, .bool .ff, .bool .ff, .bool .ff, .bool .ff, .bool .ff, .bool .ff, .bool .ff, .bool .ff, .bool .ff, .bool .ff, .bool .ff, .bool .ff, .bool .ff, .bool .ff, .bool .ff, .bool .ff, .bool .ff, .bool .ff, .bool .ff, .bool .ff, .bool .ff, .bool .ff, .bool .ff, .bool .ff, .bool .ff, .bool .ff, .bool .ff, .bool .ff, .bool .ff, .bool .ff, .bool .ff, .bool .ff, .bool .ff, .bool .ff, .bool .ff, .bool .ff, .bool .ff, .bool .ff, .bool .ff, .bool .ff, .bool .ff, .bool .ff, .bool .ff, .bool .ff, .bool .ff, .bool .ff, .bool .ff, .bool .ff, .bool .ff, .bool .ff, .bool .ff, .bool .ff, .bool .ff, .bool .ff, .bool .ff, .bool .ff], .bool⟩),
  (165, ⟨.array 256 4, 256, 256, [.bool .ff, .bool .ff, .bool .ff, .bool .ff, .bool .ff, .bool .ff, .bool .ff, .bool .ff, .bool .ff, .bool .ff, .bool .ff, .bool .ff, .bool .ff, .bool .ff, .bool .ff, .bool .ff, .bool .ff, .bool .ff, .bool .ff, .bool .ff, .bool .ff, .bool .ff, .bool .ff, .bool .ff, .bool .ff, .bool .ff, .bool .ff, .bool .ff, .bool .ff, .bool .ff, .bool .ff, .bool .ff, .bool .ff, .bool .ff, .bool .ff, .bool .ff, .bool .ff, .bool .ff, .bool .ff, .bool .ff, .bool .ff, .bool .ff, .bool .ff, .bool .ff, .bool .ff, .bool .ff, .bool .ff, .bool .ff, .bool .ff, .bool .ff, .bool .ff, .bool .ff, .bool .ff, .bool .ff, .bool .ff, .bool .ff, .bool .ff, .bool .ff, .bool .ff, .bool .ff, .bool .ff, .bool .ff, .bool .ff, .bool .ff, .bool .ff, .bool .ff, .bool .ff, .bool .ff, .bool .ff, .bool .ff, .bool .ff, .bool .ff, .bool .ff, .bool .ff, .bool .ff, .bool .ff, .bool .ff, .bool .ff, .bool .ff, .bool .ff, .bool .ff, .bool .ff, .bool .ff, .bool .ff, .bool .ff, .bool .ff, .bool .ff, .bool .ff, .bool .ff, .bool .ff, .bool .ff, .bool .ff, .bool .ff, .bool .ff, .bool .ff, .bool .ff, .bool .ff, .bool .ff, .bool .ff, .bool .ff, .bool .ff, .bool .ff, .bool .ff, .bool .ff, .bool .ff, .bool .ff, .bool .ff, .bool .ff, .bool .ff, .bool .ff, .bool .ff, .bool .ff, .bool .ff, .bool .ff, .bool .ff, .bool .ff, .bool .ff, .bool .ff, .bool .ff, .bool .ff, .bool .ff, .bool .ff, .bool .ff, .bool .ff, .bool .ff, .bool .ff, .bool .ff, .bool .ff, .bool .ff, .bool .ff, .bool .ff, .bool .ff, .bool .ff, .bool .ff, .bool .ff, .bool .ff, .bool .ff, .bool .ff, .bool .ff, .bool .ff, .bool .ff, .bool .ff, .bool .ff, .bool .ff, .bool .ff, .bool .ff, .bool .ff, .bool .ff, .bool .ff, .bool .ff, .bool .ff, .bool .ff, .bool .ff, .bool .ff, .bool .ff, .bool .ff, .bool .ff, .bool .ff, .bool .ff, .bool .ff, .bool .ff, .bool .ff, .bool .ff, .bool .ff, .bool .ff, .bool .ff, .bool .ff, .bool .ff, .bool .ff, .bool .ff, .bool .ff, .bool .ff, .bool .ff, .bool .ff, .bool .ff, .bool .ff, .bool .ff, .bool .ff, .bool .ff, .bool .ff, .bool .ff, .bool .ff, .bool .ff, .bool .ff, .bool .ff, .bool .ff, .bool .ff, .bool .ff, .bool .ff, .bool .ff, .bool .ff, .bool .ff, .bool .ff, .bool .ff, .bool .ff, .bool .ff, .bool .ff, .bool .ff, .bool .ff, .bool .ff, .bool .ff, .bool .ff, .bool .ff, .bool .ff, .bool .ff, .bool .ff, .bool .ff, .bool .ff, .bool .ff, .bool .ff, .bool .ff, .bool .ff, .bool .ff, .bool .ff, .bool .ff, .bool .ff, .bool .ff, .bool .ff, .bool .ff, .bool .ff, .bool .ff, .bool .ff, .bool .ff, .bool .ff, .bool .ff, .bool .ff, .bool .ff, .bool .ff, .bool .ff, .bool .ff, .bool .ff, .bool .ff, .bool .ff, .bool .ff, .bool .ff, .bool .ff, .bool .ff, .bool .ff, .bool .ff, .bool .ff, .bool .ff, .bool .ff, .bool .ff, .bool .ff, .bool .ff, .bool .ff, .bool .ff, .bool .ff, .bool .ff, .bool .ff, .bool .ff, .bool .ff, .bool .ff, .bool .ff, .bool .ff, .bool .ff], .bool⟩),
  (167, ⟨.other, 1, 8, [.val .nilFunc], .bool⟩),
  (168, ⟨.other, 1, 8, [.val .nilFunc], .bool⟩),
  (169, ⟨.ptr 165, 1, 8, [.val (.pointer none)], .bool⟩),
  (170, ⟨.other, 1, 8, [.val .nilFunc], .bool⟩),
  (171, ⟨.other, 1, 8, [.val .nilFunc], .bool⟩),
  (172, ⟨.other, 1, 8, [.val .nilFunc], .bool⟩),
  (173, ⟨.int .u64, 1, 8, [.int .u64 0], (.int .u64)⟩),
  (174, ⟨.array 24 5, 24, 24, [.int .u8 0, .int .u8 0, .int .u8 0, .int .u8 0, .int .u8 0, .int .u8 0, .int .u8 0, .int .u8 0, .int .u8 0, .int .u8 0, .int .u8 0, .int .u8 0, .int .u8 0, .int .u8 0, .int .u8 0, .int .u8 0, .int .u8 0, .int .u8 0, .int .u8 0, .int .u8 0, .int .u8 0, .int .u8 0, .int .u8 0, .int .u8 0], .bool⟩),
  (175, ⟨.other, 1, 8, [.val .nilFunc], .bool⟩),
  (176, ⟨.other, 1, 8, [.val .nilFunc], .bool⟩),
  (178, ⟨.other, 1, 8, [.val .nilFunc], .bool⟩),
  (180, ⟨.other, 1, 8, [.val .nilFunc], .bool⟩),
  (181, ⟨.other, 1, 8, [.val .nilFunc], .bool⟩),
  (182, ⟨.other, 1, 8, [.val .nilFunc], .bool⟩),
  (184, ⟨.other, 1, 8, [.val .nilFunc], .bool⟩),
  (185, ⟨.other, 1, 8, [.val .nilFunc], .bool⟩),
  (186, ⟨.int .i64, 1, 8, [.int .i64 0], (.int .i64)⟩),
  (188, ⟨.other, 1, 8, [.val .nilFunc], .bool⟩),
  (189, ⟨.ptr 214, 1, 8, [.val (.pointer none)], .bool⟩),
  (190, ⟨.other, 1, 8, [.val .nilFunc], .bool⟩),
  (191, ⟨.other, 1, 8, [.val .nilFunc], .bool⟩),
  (192, ⟨.other, 1, 8, [.val .nilFunc], .bool⟩),
  (193, ⟨.other, 1, 8, [.val .nilFunc], .bool⟩),
  (194, ⟨.other, 1, 8, [.val .nilFunc], .bool⟩),
  (195, ⟨.other, 1, 8, [.val .nilFunc], .bool⟩),
  (196, ⟨.other, 1, 8, [.val .nilFunc], .bool⟩),
  (198, ⟨.other, 1, 8, [.val .nilFunc], .bool⟩),
  (200, ⟨.other, 1, 8, [.val .nilFunc], .bool⟩),
  (202, ⟨.other, 1, 8, [.val .nilFunc], .bool⟩),
  (204, ⟨.other, 1, 8, [.val .nilFunc], .bool⟩),
  (205, ⟨.other, 1, 8, [.val .nilFunc], .bool⟩),
  (206, ⟨.other, 1, 8, [.val .nilFunc], .bool⟩),
  (207, ⟨.other, 1, 8, [.val .nilFunc], .bool⟩),
  (208, ⟨.array 20 173, 20, 160, [.int .u64 0, .int .u64 0, .int .u64 0, .int .u64 0, .int .u64 0, .int .u64 0, .int .u64 0, .int .u64 0, .int .u64 0, .int .u64 0, .int .u64 0, .int .u64 0, .int .u64 0, .int .u64 0, .int .u64 0, .int .u64 0, .int .u64 0, .int .u64 0, .int .u64 0, .int .u64 0], .bool⟩),
  (209, ⟨.array 65 5, 65, 65, [.int .u8 0, .int .u8 0, .int .u8 0, .int .u8 0, .int .u8 0, .int .u8 0, .int .u8 0, .int .u8 0, .int .u8 0, .int .u8 0, .int .u8 0, .int .u8 0, .int .u8 0, .int .u8 0, .int .u8 0, .int .u8 0, .int .u8 0, .int .u8 0, .int .u8 0, .int .u8 0, .int .u8 0, .int .u8 0, .int .u8 0, .int .u8 0, .int .u8 0, .int .u8 0, .int .u8 0, .int .u8 0, .int .u8 0, .int .u8 0, .int .u8 0, .int .u8 0, .int .u8 0, .int .u8 0, .int .u8 0, .int .u8 0, .int .u8 0, .int .u8 0, .int .u8 0, .int .u8 0, .int .u8 0, .int .u8 0, .int .u8 0, .int .u8 0, .int .u8 0, .int .u8 0, .int .u8 0, .int .u8 0, .int .u8 0, .int .u8 0, .int .u8 0, .int .u8 0, .int .u8 0, .int .u8 0, .int .u8 0, .int .u8 0, .int .u8 0, .int .u8 0, .int .u8 0, .int .u8 0, .int .u8 0, .int .u8 0, .int .u8 0, .int .u8 0, .int .u8 0], .bool⟩),
  (210, ⟨.other, 1, 8, [.val .nilFunc], .bool⟩),
  (211, ⟨.other, 1, 8, [.val .nilFunc], .bool⟩),
  (212, ⟨.other, 1, 8, [.val .nilFunc], .bool⟩),
  (213, ⟨.strct [(0, 1, false), (1, 1, false), (2, 1, false)], 3, 48, [.str [], .str [], .val .nilIface], (.pair .str (.pair .str .bool))⟩),
  (214, ⟨.strct [(0, 1, false), (1, 1, false), (2, 1, false)], 3, 48, [.str [], .str [], .val .nilIface], (.pair .str (.pair .str .bool))⟩),
  (215, ⟨.other, 1, 8, [.val .nilFunc], .bool⟩),
  (216, ⟨.other, 1, 8, [.val .nilFunc], .bool⟩),
  (217, ⟨.slice 3, 1, 24, [.val (.slice none 0 0)], (.list (.int .i64))⟩),
  (218, ⟨.array 6 9, 6, 96, [.str [], .str [], .str [], .str [], .str [], .str []], (.pair .str (.pair .str (.pair .str (.pair .str (.pair .str .str)))))⟩),
  (219, ⟨.other, 1, 8, [.val .nilFunc], .bool⟩),
  (221, ⟨.other, 1, 8, [.val .nilFunc], .bool⟩),
  (222, ⟨.slice 104, 1, 24, [.val (.slice none 0 0)], (.list .bool)⟩),
  (223, ⟨.slice 94, 1, 24, [.val (.slice none 0 0)], (.list .bool)⟩),
  (224, ⟨.other, 1, 8, [.val .nilFunc], .bool⟩),
  (225, ⟨.array 256 5, 256, 256, [.int .u8 0, .int .u8 0, .int .u8 0, .int .u8 0, .int .u8 0, .int .u8 0, .int .u8 0, .int .u8 0, .int .u8 0, .int .u8 0, .int .u8 0, .int .u8 0, .int .u8 0, .int .u8 0, .int .u8 0, .int .u8 0, .int .u8 0, .int .u8 0, .int .u8 0, .int .u8 0, .int .u8 0, .int .u8 0, .int .u8 0, .int .u8 0, .int .u8 0, .int .u8 0, .int .u8 0, .int .u8 0, .int .u8 0, .int .u8 0, .int .u8 0, .int .u8 0, .int .u8 0, .int .u8 0, .int .u8 0, .int .u8 0, .int .u8 0, .int .u8 0, .int .u8 0, .int .u8 0, .int .u8 0, .int .u8 0, .int .u8 0, .int .u8 0, .int .u8 0, .int .u8 0, .int .u8 0, .int .u8 0, .int .u8 0, .int .u8 0, .int .u8 0, .int .u8 0, .int .u8 0, .int .u8 0, .int .u8 0, .int .u8 0, .int .u8 0, .int .u8 0, .int .u8 0, .int .u8 0, .int .u8 0, .int .u8 0, .int .u8 0, .int .u8 0, .int .u8 0, .int .u8 0, .int .u8 0, .int .u8 0, .int .u8 0, .int .u8 0, .int .u8 0, .int .u8 0, .int .u8 0, .int .u8 0, .int .u8 0, .int .u8 0, .int .u8 0, .int .u8 0, .int .u8 0, .int .u8 0, .int .u8 0, .int .u8 0, .int .u8 0, .int .u8 0, .int .u8 0, .int .u8 0, .int .u8 0, .int .u8 0, .int .u8 0, .int .u8 0, .int .u8 0, .int .u8 0, .int .u8 0, .int .u8 0, .int .u8 0, .int .u8 0, .int .u8 0, .int .u8 0, .int .u8 0, .int .u8 0, .int .u8 0, .int .u8 0, .int .u8 0, .int .u8 0, .int .u8 0, .int .u8 0, .int .u8 0, .int .u8 0, .int .u8 0, .int .u8 0, .int .u8 0, .int .u8 0, .int .u8 0, .int .u8 0, .int .u8 0, .int .u8 0, .int .u8 0, .int .u8 0, .int .u8 0, .int .u8 0, .int .u8 0, .int .u8 0, .int .u8 0, .int .u8 0, .int .u8 0, .int .u8 0, .int .u8 0, .int .u8 0, .int .u8 0, .int .u8 0, .int .u8 0, .int .u8 0, .int .u8 0, .int .u8 0, .int .u8 0, .int .u8 0, .int .u8 0, .int .u8 0, .int .u8 0, .int .u8 0, .int .u8 0, .int .u8 0, .int .u8 0, .int .u8 0, .int .u8 0, .int .u8 0, .int .u8 0, .int .u8 0, .int .u8 0, .int .u8 0, .int .u8 0, .int .u8 0, .int .u8 0, .int .u8 0, .int .u8 0, .int .u8 0, .int .u8 0, .int .u8 0, .int .u8 0, .int .u8 0, .int .u8 0, .int .u8 0, .int .u8 0, .int .u8 0, .int .u8 0, .int .u8 0, .int .u8 0, .int .u8 0, .int .u8 0, .int .u8 0, .int .u8 0, .int .u8 0, .int .u8 0, .int .u8 0, .int .u8 0, .int .u8 0, .int .u8 0, .int .u8 0, .int .u8 0, .int .u8 0, .int .u8 0, .int .u8 0, .int .u8 0, .int .u8 0, .int .u8 0, .int .u8 0, .int .u8 0, .int .u8 0, .int .u8 0, .int .u8 0, .int .u8 0, .int .u8 0, .int .u8 0, .int .u8 0, .int .u8 0, .int .u8 0, .int .u8 0, .int .u8 0, .int .u8 0, .int .u8 0, .int .u8 0, .int .u8 0, .int .u8 0, .int .u8 0, .int .u8 0, .int .u8 0, .int .u8 0, .int .u8 0, .int .u8 0, .int .u8 0, .int .u8 0, .int .u8 0, .int .u8 0, .int .u8 0, .int .u8 0, .int .u8 0, .int .u8 0, .int .u8 0, .int .u8 0, .int .u8 0, .int .u8 0, .int .u8 0, .int .u8 0, .int .u8 0, .int .u8 0, .int .u8 0, .int .u8 0, .int .u8 0, .int .u8 0, .int .u8 0, .int .u8 0, .int .u8 0, .int .u8 0, .int .u8 0, .int .u8 0, .int .u8 0, .int .u8 0, .int .u8 0, .int .u8 0, .int .u8 0, .int .u8 0, .int .u8 0, .int .u8 0, .int .u8 0, .int .u8 0, .int .u8 0, .int .u8 0, .int .u8 0, .int .u8 0, .int .u8 0, .int .u8 0, .int .u8 0, .int .u8 0, .int .u8 0, .int .u8 0, .int .u8 0], .bool⟩),
  (226, ⟨.strct [(0, 1, false), (1, 1, false)], 2, 2, [.int .u8 0, .int .u8 0], (.pair (.int .u8) (.int .u8))⟩),
  (227, ⟨.strct [(0, 1, false), (1, 1, false)], 2, 2, [.int .u8 0, .int .u8 0], (.pair (.int .u8) (.int .u8))⟩),
  (228, ⟨.array 16 227, 32, 32, [.int .u8 0, .int .u8 0, .int .u8 0, .int .u8 0, .int .u8 0, .int .u8 0, .int .u8 0, .int .u8 0, .int .u8 0, .int .u8 0, .int .u8 0, .int .u8 0, .int .u8 0, .int .u8 0, .int .u8 0, .int .u8 0, .int .u8 0, .int .u8 0, .int .u8 0, .int .u8 0, .int .u8 0, .int .u8 0, .int .u8 0, .int .u8 0, .int .u8 0, .int .u8 0, .int .u8 0, .int .u8 0, .int .u8 0, .int .u8 0, .int .u8 0, .int .u8 0], .bool⟩),
  (229, ⟨.other, 1, 8, [.val .nilFunc], .bool⟩),
  (230, ⟨.other, 1, 8, [.val .nilFunc], .bool⟩),
  (231, ⟨.ptr 233, 1, 8, [.val (.pointer none)], .bool⟩),
  (232, ⟨.strct [(0, 1, false)], 1, 16, [.str []], .str⟩),
  (233, ⟨.strct [(0, 1, false)], 1, 16, [.str []], .str⟩),
  (234, ⟨.array 32 5, 32, 32, [.int .u8 0, .int .u8 0, .int .u8 0, .int .u8 0, .int .u8 0, .int .u8 0, .int .u8 0, .int .u8 0, .int .u8 0, .int .u8 0, .int .u8 0, .int .u8 0, .int .u8 0, .int .u8 0, .int .u8 0, .int .u8 0, .int .u8 0, .int .u8 0, .int .u8 0, .int .u8 0, .int .u8 0, .int .u8 0, .int .u8 0, .int .u8 0, .int .u8 0, .int .u8 0, .int .u8 0, .int .u8 0, .int .u8 0, .int .u8 0, .int .u8 0, .int .u8 0], .bool⟩),
  (235, ⟨.array 64 5, 64, 64, [.int .u8 0, .int .u8 0, .int .u8 0, .int .u8 0, .int .u8 0, .int .u8 0, .int .u8 0, .int .u8 0, .int .u8 0, .int .u8 0, .int .u8 0, .int .u8 0, .int .u8 0, .int .u8 0, .int .u8 0, .int .u8 0, .int .u8 0, .int .u8 0, .int .u8 0, .int .u8 0, .int .u8 0, .int .u8 0, .int .u8 0, .int .u8 0, .int .u8 0, .int .u8 0, .int .u8 0, .int .u8 0, .int .u8 0, .int .u8 0, .int .u8 0, .int .u8 0, .int .u8 0, .int .u8 0, .int .u8 0, .int .u8 0, .int .u8 0, .int .u8 0, .int .u8 0, .int .u8 0, .int .u8 0, .int .u8 0, .int .u8 0, .int .u8 0, .int .u8 0, .int .u8 0, .int .u8 0, .int .u8 0, .int .u8 0, .int .u8 0, .int .u8 0, .int .u8 0, .int .u8 0, .int .u8 0, .int .u8 0, .int .u8 0, .int .u8 0, .int .u8 0, .int .u8 0, .int .u8 0, .int .u8 0, .int .u8 0, .int .u8 0, .int .u8 0], .bool⟩),
  (236, ⟨.other, 1, 8, [.val .nilFunc], .bool⟩),
  (238, ⟨.strct [(0, 1, false), (1, 1, false), (2, 1, false)], 3, 32, [.int .i64 0, .int .i64 0, .str []], (.pair (.int .i64) (.pair (.int .i64) .str))⟩),
  (239, ⟨.map 3 236 (.int .i64), 1, 8, [.val (.map none)], .bool⟩),
  (240, ⟨.strct [(0, 1, false), (1, 1, false), (2, 1, false), (3, 1, false)], 4, 40, [.val (.pointer none), .val (.pointer none), .val (.pointer none), .str []], (.pair .bool (.pair .bool (.pair .bool .str)))⟩),
  (241, ⟨.strct [(0, 1, false), (1, 1, false), (2, 1, false), (3, 1, false)], 4, 40, [.val (.pointer none), .val (.pointer none), .val (.pointer none), .str []], (.pair .bool (.pair .bool (.pair .bool .str)))⟩),
  (245, ⟨.other, 1, 8, [.val .nilFunc], .bool⟩),
  (246, ⟨.int .u8, 1, 1, [.int .u8 0], (.int .u8)⟩),
  (247, ⟨.int .u8, 1, 1, [.int .u8 0], (.int .u8)⟩),
  (248, ⟨.other, 1, 8, [.val .nilFunc], .bool⟩),
  (249, ⟨.int .i32, 1, 4, [.int .i32 0], (.int .i32)⟩),
  (250, ⟨.int .i32, 1, 4, [.int .i32 0], (.int .i32)⟩),
  (251, ⟨.strct [(0, 1, false), (1, 1, false), (2, 1, false), (3, 1, false), (4, 1, false), (5, 1, false), (6, 1, false), (7, 1, false), (8, 1, false), (9, 1, false), (10, 1, false)], 11, 48, [.int .u64 0, .int .u64 0, .int .u32 0, .int .u8 0, .int .u8 0, .int .u8 0, .int .u8 0, .val .nilFunc, .val (.pointer none), .int .i32 0, .int .i32 0], (.pair (.int .u64) (.pair (.int .u64) (.pair (.int .u32) (.pair (.int .u8) (.pair (.int .u8) (.pair (.int .u8) (.pair (.int .u8) (.pair .bool (.pair .bool (.pair (.int .i32) (.int .i32)))))))))))⟩),
  (252, ⟨.strct [(0, 1, false), (1, 1, false), (2, 1, false), (3, 1, false), (4, 1, false), (5, 1, false), (6, 1, false), (7, 1, false), (8, 1, false), (9, 1, false), (10, 1, false)], 11, 48, [.int .u64 0, .int .u64 0, .int .u32 0, .int .u8 0, .int .u8 0, .int .u8 0, .int .u8 0, .val .nilFunc, .val (.pointer none), .int .i32 0, .int .i32 0], (.pair (.int .u64) (.pair (.int .u64) (.pair (.int .u32) (.pair (.int .u8) (.pair (.int .u8) (.pair (.int .u8) (.pair (.int .u8) (.pair .bool (.pair .bool (.pair (.int .i32) (.int .i32)))))))))))⟩)]
theorem tab_ok : TabOk Tryz.prog (lk tab) := tab_of (by kernel_rfl)
noncomputable def EnI (inl : Nat → Option (FI × Code)) (post : SV → St → Prop) : En := ⟨Tryz.prog, lk tab, inl, post⟩
def noI : Nat → Option (FI × Code) := fun _ => none
noncomputable def fiOf (f : Func) : FI := ⟨f, f.ntmps, f.results.toList⟩
noncomputable def bodyOf (f : Func) : Code := f.body.getD .skip
/-- the functions that are gone through where they are called -/
class InlOk (inl : Nat → Option (FI × Code)) : Prop where
  out : ∀ post, EnOk (EnI inl post)
instance : InlOk noI := ⟨fun _ => ⟨tab_ok, fun _ _ _ h => by cases h⟩⟩
theorem inl_nil : InlOk (lk []) := ⟨fun _ => ⟨tab_ok, fun _ _ _ h => by cases h⟩⟩
theorem inl_cons {f : Nat} {fn : Func} {c : Code} {l : List (Nat × FI × Code)} (hf : Tryz.prog.funcs[f]? = some fn) (hb : fn.body = some c) (hn : (fn.name == "runtime.NumGoroutine") = false) (h : InlOk (lk l)) : InlOk (lk ((f, fiOf fn, c) :: l)) := by
  refine ⟨fun post => ⟨tab_ok, fun g fi c' hg => ?_⟩⟩
  have hg : lk ((f, fiOf fn, c) :: l) g = some (fi, c') := hg
  simp only [lk] at hg
  by_cases e : g = f
  · rw [if_pos e] at hg
    simp only [Option.some.injEq, Prod.mk.injEq] at hg
    obtain ⟨rfl, rfl⟩ := hg
    subst e
    exact ⟨hf, hb, hn, rfl, rfl⟩
  · rw [if_neg e] at hg
    exact (h.out post).inl g fi c' hg
theorem mixed : Tryz.prog.follows .mixedOrders = true := by kernel_rfl
theorem fnI (inl : Nat → Option (FI × Code)) [hI : InlOk inl] {f : Nat} {fn : Func} {c : Code} {args : List SV} {post : SV → Prop} (hf : Tryz.prog.funcs[f]? = some fn) (hb : fn.body = some c) (hn : (fn.name == "runtime.NumGoroutine") = false)
    (hl : Nat.ble args.length fn.ntmps = true) (h : fcN (fun fr => go (EnI inl (Post post)) 100000 (fiOf fn) [.code c] ⟨fr, [], 0⟩ []) (num args 0)) : FnD Tryz.prog f args post :=
  fn_of (E := EnI inl (Post post)) (fi := fiOf fn) hf hb hn rfl rfl (Nat.le_of_ble_eq_true hl) rfl (go_sound (hI.out (Post post)) _ _ _ _ _ (by rw [fcN_eq] at h; exact h))
theorem fn0 {f : Nat} {fn : Func} {c : Code} {args : List SV} {post : SV → Prop} (hf : Tryz.prog.funcs[f]? = some fn) (hb : fn.body = some c) (hn : (fn.name == "runtime.NumGoroutine") = false)
    (hl : Nat.ble args.length fn.ntmps = true) (h : fcN (fun fr => go (EnI noI (Post post)) 100000 (fiOf fn) [.code c] ⟨fr, [], 0⟩ []) (num args 0)) : FnD Tryz.prog f args post := fnI noI hf hb hn hl h
theorem fnP (inl : Nat → Option (FI × Code)) [hI : InlOk inl] {f : Nat} {fn : Func} {c : Code} {args : List SV} {hpI hpO : List (Nat × Ob)} {n n2 : Nat} {kp : List (Nat × Bool)} {s : SV} (hf : Tryz.prog.funcs[f]? = some fn) (hb : fn.body = some c) (hn : (fn.name == "runtime.NumGoroutine") = false)
    (hl : Nat.ble args.length fn.ntmps = true) (hk : (kpOk hpI kp && kpOk hpO kp) = true) (h : fcN (fun fr => fcN (fun fr0 => go (EnI inl (fun _ _ => False)) 100000 (fiOf fn) [.code c] ⟨fr, hpI, n⟩ [⟨⟨fn, kp.length + 1, fn.results.toList⟩, fr0, [.fin (PostP kp s hpO n2)], some 0⟩]) (num (.un :: kp.map slP) 0)) (num args 0)) : FnP Tryz.prog f args hpI n kp s hpO n2 :=
  fnp_of (E := EnI inl (fun _ _ => False)) (fi := fiOf fn) hf hb hn rfl rfl (Nat.le_of_ble_eq_true hl) (by simp only [Bool.and_eq_true] at hk; exact hk.1) (by simp only [Bool.and_eq_true] at hk; exact hk.2) (go_sound (hI.out _) _ _ _ _ _ (by rw [fcN_eq, fcN_eq] at h; exact h))
section
variable {inl : Nat → Option (FI × Code)} [hI : InlOk inl]
theorem go0 {post : SV → St → Prop} {cur : FI} {t : List It} {st : St} {stk : List Fm} (h : go (EnI inl post) 100000 cur t st stk) : Mean (EnI inl post) cur t st stk := go_sound (hI.out post) _ _ _ _ _ h
theorem call0 {post : SV → St → Prop} {pf : SV → Prop} {cur : FI} {f : Nat} {args : List SV} {all : Array Oper} {o : Oper} {l : List Oper} {r : List It} {fr : List (Nat × SV)} {hp : List (Nat × Ob)} {nx : Nat} {stk : List Fm} (hF : FnD Tryz.prog f args pf) (hd : args.all isDs = true)
    (hk : ∀ s, pf s → fcF (fun fr' => go (EnI inl post) 100000 cur (.ops all l :: r) ⟨fr', hp, nx⟩ stk) (putF cur.nt fr o.dst s)) : CallOk (EnI inl post) cur f args all o l r ⟨fr, hp, nx⟩ stk :=
  call_rule (E := EnI inl post) hF hd fun s hs => go0 (by have := hk s hs; rw [fcF_eq] at this; exact this)
theorem call1 {post : SV → St → Prop} {cur : FI} {f : Nat} {args : List SV} {s : SV} {all : Array Oper} {o : Oper} {l : List Oper} {r : List It} {fr : List (Nat × SV)} {hp : List (Nat × Ob)} {nx : Nat} {stk : List Fm} (hF : FnD Tryz.prog f args (· = s)) (hd : args.all isDs = true)
    (hk : fcF (fun fr' => go (EnI inl post) 100000 cur (.ops all l :: r) ⟨fr', hp, nx⟩ stk) (putF cur.nt fr o.dst s)) : CallOk (EnI inl post) cur f args all o l r ⟨fr, hp, nx⟩ stk :=
  call0 hF hd fun s' hs => by subst hs; exact hk
/-- objects are handed to a call by a pointer, with the rows that they hold -/
theorem callp0 {post : SV → St → Prop} {cur : FI} {f : Nat} {args : List SV} {all : Array Oper} {o : Oper} {l : List Oper} {r : List It} {fr : List (Nat × SV)} {hp : List (Nat × Ob)} {nx : Nat} {stk : List Fm} (bs : List Nat) {kp : List (Nat × Bool)} {s : SV} {hpO : List (Nat × Ob)} {n2 : Nat}
    (hg : gdP (memP bs) hp bs = true) (hn : ndP bs = true) (hF : FnP Tryz.prog f (args.map (rnS (ixP bs))) (inP (ixP bs) hp 0 bs) bs.length kp s hpO n2) (ha : args.all (gkS (memP bs) (fun _ => true)) = true) (hn2 : Nat.ble bs.length n2 = true)
    (hkn : (kp.all fun p => Nat.blt p.1 bs.length) = true) (ho : outP (okP bs.length n2 kp) (okR bs.length kp) hpO = true) (hos : gkS (okP bs.length n2 kp) (okR bs.length kp) s = true)
    (hk : fcS (fun s => fcH (fun hp' => fcF (fun fr' => go (EnI inl post) 100000 cur (.ops all l :: r) ⟨fr', hp', nx + (n2 - bs.length)⟩ stk) (putF cur.nt fr o.dst s)) (apC hp (chP (exP nx bs) hpO 0 n2))) (rnS (exP nx bs) s)) : CallOk (EnI inl post) cur f args all o l r ⟨fr, hp, nx⟩ stk :=
  callp_rule (E := EnI inl post) bs hg hn hF ha hn2 hkn ho hos (go0 (by rw [fcS_eq, fcH_eq, fcF_eq] at hk; exact hk))
theorem callrp0 {post : SV → St → Prop} {cur : FI} {f : Nat} {args : List SV} {all : Array Oper} {o : Oper} {l : List Oper} {r : List It} {stk : List Fm} {n0 j : Nat} {recs : List Rec} {fin fr : List (Nat × SV)} {hin0 hin hp : List (Nat × Ob)} (bs : List Nat) {kp : List (Nat × Bool)} {s : SV} {hpO : List (Nat × Ob)} {n2 : Nat}
    (hh : hin = kh hp bs) (hg : gdP (memP bs) hin bs = true) (hn : ndP bs = true) (hF : FnP Tryz.prog f (args.map (rnS (ixP bs))) (inP (ixP bs) hin 0 bs) bs.length kp s hpO n2) (ha : args.all (gkS (memP bs) (fun _ => true)) = true) (hn2 : Nat.ble bs.length n2 = true) (hn3 : Nat.ble n2 (bs.length + 1) = true)
    (hkn : (kp.all fun p => Nat.blt p.1 bs.length) = true) (ho : outP (okP bs.length n2 kp) (okR bs.length kp) hpO = true) (hos : gkS (okP bs.length n2 kp) (okR bs.length kp) s = true)
    (un : List Nat) (hun : (un.map fun i => lk hin (exP (n0 + j) bs i)) = un.map fun i => (lk hpO i).map (rnO (exP (n0 + j) bs))) (hus : (un.all fun i => (lk hin (exP (n0 + j) bs i)).isSome) = true)
    (hk : fcH (fun hin => fcS (fun s => putR all j cur.nt o fin hin (chU un (exP (n0 + j) bs) hpO 0 n2) fr hp (fun rc => goR (EnI inl post) cur all r stk n0 1000 (j + 1) l (recs ++ [rc])) s) (rnS (exP (n0 + j) bs) s)) hin) : CallR (EnI inl post) cur f args all o l r stk n0 j recs fin hin0 fr hp :=
  callrp_rule (E := EnI inl post) bs (hI.out post) hh hg hn hF ha hn2 hn3 hkn ho hos un hun hus (by rw [fcH_eq, fcS_eq] at hk; exact hk)
theorem loop0 {post : SV → St → Prop} {cur : FI} {c : Code} {r : List It} {st : St} {stk : List Fm} {α : Type} (I : α → Prop) (σ : α → St) (μ : α → Nat) (h0 : ∃ x, I x ∧ sub (σ x) st stk)
    (round : ∀ x, I x → go (EnI inl post) 100000 cur (.code c :: .fin (fun st' => ∃ y, (I y ∧ μ y < μ x) ∧ sub (σ y) st' stk) :: r) (σ x) stk) : LoopOk (EnI inl post) cur c r st stk :=
  loop_rule (E := EnI inl post) I σ μ h0 fun x hx => go0 (round x hx)
theorem any0 {post : SV → St → Prop} {cur : FI} {id : Nat} {all : Array Oper} {r : List It} {fr : List (Nat × SV)} {hp : List (Nat × Ob)} {nx : Nat} {stk : List Fm} (h : goR (EnI inl post) cur all r stk nx 1000 0 all.toList [] fr hp) :
    DrawOk (EnI inl post) cur id all r ⟨fr, hp, nx⟩ stk := any_rule (E := EnI inl post) (hI.out post) mixed h
theorem callr0 {post : SV → St → Prop} {cur : FI} {f : Nat} {args : List SV} {all : Array Oper} {o : Oper} {l : List Oper} {r : List It} {stk : List Fm} {n0 j : Nat} {recs : List Rec} {fin fr : List (Nat × SV)} {hin hp : List (Nat × Ob)} {s : SV}
    (hF : FnD Tryz.prog f args (· = s)) (hd : args.all isDs = true) (hk : putR all j cur.nt o fin hin [] fr hp (fun rc => goR (EnI inl post) cur all r stk n0 1000 (j + 1) l (recs ++ [rc])) s) :
    CallR (EnI inl post) cur f args all o l r stk n0 j recs fin hin fr hp := callr_rule (E := EnI inl post) (hI.out post) hF hd hk
omit hI in
theorem callg0 {post : SV → St → Prop} {C : Prop} {f : Nat} {args : List SV} {s : SV} {K : SV → Prop} (hF : C → FnD Tryz.prog f args (· = s)) (hd : args.all isDs = true) (hk : K s) : CallG (EnI inl post) C f args K := callg_rule (E := EnI inl post) hF hd hk
theorem lendr0 {post : SV → St → Prop} {cur : FI} {f : Nat} {args : List SV} {all : Array Oper} {o : Oper} {l : List Oper} {r : List It} {stk : List Fm} {n0 j : Nat} {recs : List Rec} {fin fr : List (Nat × SV)} {hin hp : List (Nat × Ob)} {s : SV}
    (hF : FnD Tryz.prog f (args.map (ldS hin)) (· = s)) (hd : (args.map (ldS hin)).all isDs = true) (hsc : scS s = true) (hk : putR all j cur.nt o fin hin [] fr hp (fun rc => goR (EnI inl post) cur all r stk n0 1000 (j + 1) l (recs ++ [rc])) s) :
    CallR (EnI inl post) cur f args all o l r stk n0 j recs fin hin fr hp := lendr_rule (E := EnI inl post) (hI.out post) hF hd hsc hk
theorem lend0 {post : SV → St → Prop} {cur : FI} {f : Nat} {args : List SV} {s : SV} {all : Array Oper} {o : Oper} {l : List Oper} {r : List It} {fr : List (Nat × SV)} {hp : List (Nat × Ob)} {nx : Nat} {stk : List Fm} (hF : FnD Tryz.prog f (args.map (ldS hp)) (· = s)) (hd : (args.map (ldS hp)).all isDs = true) (hsc : scS s = true)
    (hk : fcF (fun fr' => go (EnI inl post) 100000 cur (.ops all l :: r) ⟨fr', hp, nx⟩ stk) (putF cur.nt fr o.dst s)) : CallOk (EnI inl post) cur f args all o l r ⟨fr, hp, nx⟩ stk :=
  lend_rule (E := EnI inl post) hF hd (fun s' hs => by subst hs; exact hsc) fun s' hs => go0 (by subst hs; rw [fcF_eq] at hk; exact hk)
theorem x0 {post : SV → St → Prop} {cur : FI} {all : Array Oper} {recs : List Rec} (i j : Nat) {oi : Oper} {fin : List (Nat × SV)} {hin : List (Nat × Ob)} {v : SV} {rj : Rec} {c : Nat} {ob : Ob} {q : Q} (hij : Nat.blt i j = true)
    (hc : chkFrom cur.nt (some (i, j)) 0 [] all.toList recs = true) (ho : all.toList[i]? = some oi) (hi : recs[i]? = some ⟨fin, hin, v, []⟩) (hj : recs[j]? = some rj) (hch : rj.ch = [(c, some ob)]) (hg : oi.guard = none)
    (hq : qm (lk tab) (altH hin c ob) (ev fin) oi.op = some q) (hp : OP q.pre) (hv : q.v = v) : Chk (EnI inl post) cur all recs := x_rule (E := EnI inl post) (hI.out post) i j hij hc ho hi hj hch hg hq hp hv
theorem unroll0 {post : SV → St → Prop} {cur : FI} {c : Code} {r : List It} {st : St} {stk : List Fm} (n : Nat) (h : RoundsG (EnI inl post) cur c r stk n st) : LoopOk (EnI inl post) cur c r st stk := unroll_rule (E := EnI inl post) (hI.out post) n h
omit hI in
theorem callrg0 {post : SV → St → Prop} {C : Prop} {f : Nat} {args : List SV} {s : SV} {K : SV → Prop} (hF : C → FnD Tryz.prog f args (· = s)) (hd : args.all isDs = true) (hk : K s) : CallRG (EnI inl post) C f args K := callrg_rule (E := EnI inl post) hF hd hk
section
variable {post : SV → St → Prop} {cur : FI} {all : Array Oper} {o : Oper} {l : List Oper} {r : List It} {fr : List (Nat × SV)} {hp : List (Nat × Ob)} {nx : Nat} {stk : List Fm}
theorem fz0 (b : Nat) {T : TypeId} {d : D} {xs : List d.T} {t : List It} (hb : lk hp b = some (.row T d xs)) (h : fcH (fun hp' => fcN (fun fr' => go (EnI inl post) 100000 cur t ⟨fr', hp', nx⟩ stk) (fzF b d xs fr)) (fzH b d xs (rm hp b))) : Mean (EnI inl post) cur t ⟨fr, hp, nx⟩ stk :=
  freeze_rule hb (go0 (by rw [fcH_eq, fcN_eq] at h; exact h))
/-- an own row is data from here on: at a call, at a stop, at a loop, at a draw -/
theorem fzc (b : Nat) {T : TypeId} {d : D} {xs : List d.T} {f : Nat} {args : List SV} (hb : lk hp b = some (.row T d xs))
    (h : fcH (fun hp' => fcN (fun fr' => go (EnI inl post) 100000 cur (.ops all (⟨o.dst, o.op, o.type, o.pos, o.after, none⟩ :: l) :: r) ⟨fr', hp', nx⟩ stk) (fzF b d xs fr)) (fzH b d xs (rm hp b))) : CallOk (EnI inl post) cur f args all o l r ⟨fr, hp, nx⟩ stk :=
  ⟨fun _ => fz0 b hb h⟩
theorem ranges0 {T : TypeId} {x : Operand} {i : TI} {s : List UInt8} (ho : o.op = .range T x) (hi : lk tab T = some i) (hk : i.tk = .str) (hx : ev fr x = .c (.str s))
    (hm : fcH (fun hp' => fcF (fun fr' => go (EnI inl post) 100000 cur (.ops all l :: r) ⟨fr', hp', nx + 1⟩ stk) (putF cur.nt fr o.dst (.c (.ptr nx 0)))) ((nx, .sit s 0) :: rm hp nx)) : StuckOk (EnI inl post) cur all o l r ⟨fr, hp, nx⟩ stk :=
  rangestr_rule (E := EnI inl post) (hI.out post).tab ho hi hk hx (go0 (by rw [fcH_eq, fcF_eq] at hm; exact hm))
theorem nexts0 {x : Operand} {b p : Nat} {s : List UInt8} (ho : o.op = .next x true) (hx : ev fr x = .c (.ptr b 0)) (hb : lk hp b = some (.sit s p))
    (h1 : s.length ≤ p → fcF (fun fr' => go (EnI inl post) 100000 cur (.ops all l :: r) ⟨fr', hp, nx⟩ stk) (putF cur.nt fr o.dst (.tup [(false, [.bool .ff])])))
    (h2 : p < s.length → fcH (fun hp' => fcF (fun fr' => go (EnI inl post) 100000 cur (.ops all l :: r) ⟨fr', hp', nx⟩ stk) (putF cur.nt fr o.dst (.tup [(false, [.bool .tt]), (false, [.int .i64 p]), (false, [.int .i32 (rn s p).1])]))) ((b, .sit s (p + (rn s p).2)) :: rm hp b)) : StuckOk (EnI inl post) cur all o l r ⟨fr, hp, nx⟩ stk :=
  nextstr_rule (E := EnI inl post) ho hx hb (fun h => go0 (by have := h1 h; rw [fcF_eq] at this; exact this)) (fun h => go0 (by have := h2 h; rw [fcH_eq, fcF_eq] at this; exact this))
theorem mks0 {T e : TypeId} {x y : Operand} {n : Nat} (i : TypeInfo) (ho : o.op = .makeSlice T x y) (hx : ev fr x = .c (.int .i64 n)) (hy : ev fr y = .c (.int .i64 n)) (hu : Tryz.prog.underlying T = some (.slice e)) (hi : Tryz.prog.info? e = some i) (hz : i.zero = some (.int .u8 0)) (hs : i.size = 1) (hb : i.bytes = 1) (hn : n ≤ 281474976710656)
    (hm : fcH (fun hp' => fcF (fun fr' => go (EnI inl post) 100000 cur (.ops all l :: r) ⟨fr', hp', nx + 1⟩ stk) (putF cur.nt fr o.dst (.c (.row nx)))) ((nx, .row e (.int .u8) (List.replicate n (0 : Int))) :: rm hp nx)) : StuckOk (EnI inl post) cur all o l r ⟨fr, hp, nx⟩ stk :=
  mks_rule (E := EnI inl post) i ho hx hy hu hi hz hs hb hn (go0 (by rw [fcH_eq, fcF_eq] at hm; exact hm))
theorem eqs0 (d : D) {t rt : TypeId} {x y : Operand} {p q : d.T} (n : Nat) (ho : o.op = .binOp .eql t x y rt) (hB : eqtB Tryz.prog n t d = true) (hn : Nat.ble n 10000 = true) (hg : Tryz.prog.eqGuardType Tryz.prog.depth t = false) (hpr : isPr d = true) (hx : psS d (ev fr x) = some p) (hy : psS d (ev fr y) = some q)
    (hm : fcF (fun fr' => go (EnI inl post) 100000 cur (.ops all l :: r) ⟨fr', hp, nx⟩ stk) (putF cur.nt fr o.dst (.c (.bool (.sym (d.eqb p q)))))) : StuckOk (EnI inl post) cur all o l r ⟨fr, hp, nx⟩ stk :=
  eqs_rule (E := EnI inl post) d ho hB hn hg hpr hx hy (go0 (by rw [fcF_eq] at hm; exact hm))
end
theorem after0 {post : SV → St → Prop} {cur : FI} {r : List It} {st : St} {stk : List Fm} (h : go (EnI inl post) 100000 cur r st stk) : AfterQ (EnI inl post) cur r st stk := ⟨go0 h⟩
end
end Go.Proofs.YtdhfipjfgigamaaGreatDoor
/- The walks of hedgerowkeep: values, properties, rules. Own work. -/
set_option linter.unusedVariables false
set_option maxRecDepth 100000
namespace Go.Proofs.YtdhfipjfgigamaaGreatDoor
open Go Go.RowKit OE

/-- a value: kind, number, text -/
abbrev VD : D := .pair (.int .i64) (.pair (.int .i64) .str)
abbrev vc (v : VD.T) : List C := [.int .i64 v.1, .int .i64 v.2.1, .str v.2.2]
/-- a property: name, value -/
abbrev PD : D := .pair .str VD
abbrev RD : D := .pair (.int .i64) (.pair (.int .i64) (.pair .str (.pair .str (.pair .str (.pair .str (.pair (.int .i64) (.int .i64)))))))
abbrev rc (r : RD.T) : List C := [.int .i64 r.1, .int .i64 r.2.1, .str r.2.2.1, .str r.2.2.2.1, .str r.2.2.2.2.1, .str r.2.2.2.2.2.1, .int .i64 r.2.2.2.2.2.2.1, .int .i64 r.2.2.2.2.2.2.2]

theorem keep_Rule (v w : RD.T) : FnD Tryz.prog 30 [.agg (rc v), .agg (rc w)] (· = .c (.bool (.sym (RD.eqb v w)))) := by
  refine fn0 Tryz.func30 rfl rfl rfl ?_
  conv => whnf
  simp [D.eqb, Bool.and_assoc]

theorem keep_LargeValue (v : VD.T) : FnD Tryz.prog 31 [.agg (vc v)] (· = .c (.bool (.sym (decide ((5000 : Int) < v.2.2.length))))) := by
  refine fn0 Tryz.func31 rfl rfl rfl ?_
  conv => whnf

def largeP (p : PD.T) : Bool := decide ((1000 : Int) < p.1.length) || decide ((5000 : Int) < p.2.2.2.length)
def largeProps (l : List PD.T) : Bool := decide ((60 : Int) < l.length) || l.any largeP
theorem keep_LargeProps (l : List PD.T) : FnD Tryz.prog 73 [.c (.dat PD l)] (· = .c (.bool (.sym (largeProps l)))) := by
  refine fn0 Tryz.func73 rfl rfl rfl ?_
  conv => whnf
  intro hl
  refine ⟨fun h1 => ?_, fun h1 => ?_⟩
  · conv => whnf
    simp only [largeProps, h1, Bool.true_or]
  have hm : largeProps l = l.any largeP := by simp only [largeProps, h1, Bool.false_or]
  rw [hm]
  conv => whnf
  refine loop0 (α := Nat) (fun i => i ≤ l.length ∧ (l.drop i).any largeP = l.any largeP)
    (fun i => ⟨[(0, .c (.dat PD l)), (3, .c (.int .i64 i))], [], 0⟩) (fun i => l.length - i) ⟨0, ⟨by omega, rfl⟩, ?_⟩ ?_
  · (conv => whnf); refine ⟨rfl, ?_, ?_, ?_⟩ <;> (repeat' apply And.intro) <;> first | exact trivial | rfl | exact wr_succ _ (by omega) | assumption | exact decide_eq_false (by assumption) | exact decide_eq_true (by assumption)
  · rintro i ⟨hI1, hI2⟩
    conv => whnf
    intro _
    refine ⟨fun h2 => ?_, fun h2 => ?_⟩
    · have h2 : i < l.length := by simp at h2; omega
      rw [any_step h2] at hI2
      conv => whnf
      try (intro _; conv => whnf)
      refine ⟨by omega, ?_⟩
      rw [gt_nat (d := PD) l i h2]
      conv => whnf
      try (intro _; conv => whnf)
      refine ⟨fun _ => by omega, ?_⟩
      rw [gt_nat (d := PD) l i h2]
      conv => whnf
      refine callg0 (fun _ => keep_LargeValue l[i].2) rfl ?_
      conv => whnf
      refine ⟨fun h3 => ?_, fun h3 => ?_⟩
      · conv => whnf
        simp only [← hI2, largeP, h3, Bool.true_or]
      · conv => whnf
        refine ⟨i + 1, ⟨⟨by omega, ?_⟩, by omega⟩, ?_⟩
        · rw [← hI2]; simp only [largeP, h3, Bool.false_or]
        · (conv => whnf); refine ⟨rfl, ?_, ?_, ?_⟩ <;> (repeat' apply And.intro) <;> first | exact trivial | rfl | exact wr_succ _ (by omega) | assumption | exact decide_eq_false (by assumption) | exact decide_eq_true (by assumption)
    · conv => whnf
      rw [← hI2, any_end (by simp at h2; omega)]
end Go.Proofs.YtdhfipjfgigamaaGreatDoor
/- The walks of hedgerowkeep: nodes, edges, graphs. Own work. -/
set_option linter.unusedVariables false
set_option maxRecDepth 100000
namespace Go.Proofs.YtdhfipjfgigamaaGreatDoor
open Go Go.RowKit OE

abbrev ND : D := .pair (.int .i64) (.pair .str (.list PD))
abbrev nc (n : ND.T) : List C := [.int .i64 n.1, .str n.2.1, .dat PD n.2.2]
abbrev ED : D := .pair (.int .i64) (.pair .str (.pair (.int .i64) (.pair (.int .i64) (.list PD))))
abbrev ec (e : ED.T) : List C := [.int .i64 e.1, .str e.2.1, .int .i64 e.2.2.1, .int .i64 e.2.2.2.1, .dat PD e.2.2.2.2]

def largeRule (r : RD.T) : Bool := decide ((1000 : Int) < r.2.2.1.length) || decide ((1000 : Int) < r.2.2.2.1.length) || decide ((1000 : Int) < r.2.2.2.2.1.length) || decide ((1000 : Int) < r.2.2.2.2.2.1.length)
theorem keep_LargeRule (r : RD.T) : FnD Tryz.prog 33 [.agg (rc r)] (· = .c (.bool (.sym (largeRule r)))) := by
  refine fn0 Tryz.func33 rfl rfl rfl ?_
  conv => whnf
  rfl

def largeN (n : ND.T) : Bool := decide ((1000 : Int) < n.2.1.length) || largeProps n.2.2
def largeE (e : ED.T) : Bool := decide ((1000 : Int) < e.2.1.length) || largeProps e.2.2.2.2
def largeGraph (n : List ND.T) (e : List ED.T) : Bool := decide ((300 : Int) < n.length) || decide ((300 : Int) < e.length) || (n.any largeN || e.any largeE)
theorem keep_LargeGraph (n : List ND.T) (e : List ED.T) : FnD Tryz.prog 37 [.c (.dat ND n), .c (.dat ED e)] (· = .c (.bool (.sym (largeGraph n e)))) := by
  refine fn0 Tryz.func37 rfl rfl rfl ?_
  conv => whnf
  intro hn
  conv => whnf
  intro he
  refine ⟨fun h1 => ?_, fun h1 => ?_⟩
  · conv => whnf
    simp only [largeGraph, h1, Bool.true_or]
  have hm : largeGraph n e = (n.any largeN || e.any largeE) := by simp only [largeGraph, h1, Bool.false_or]
  have hn3 : n.length ≤ 300 ∧ e.length ≤ 300 := by simp at h1; omega
  rw [hm]
  conv => whnf
  refine loop0 (α := Nat) (fun i => i ≤ n.length ∧ (n.drop i).any largeN = n.any largeN)
    (fun i => ⟨[(0, .c (.dat ND n)), (1, .c (.dat ED e)), (5, .c (.int .i64 i))], [], 0⟩) (fun i => n.length - i) ⟨0, ⟨by omega, rfl⟩, ?_⟩ ?_
  · (conv => whnf); refine ⟨rfl, ?_, ?_, ?_⟩ <;> (repeat' apply And.intro) <;> first | exact trivial | rfl | exact wr_succ _ (by omega) | assumption | exact decide_eq_false (by assumption) | exact decide_eq_true (by assumption)
  · rintro i ⟨hI1, hI2⟩
    conv => whnf
    intro _
    refine ⟨fun h2 => ?_, fun h2 => ?_⟩
    · have h2 : i < n.length := by simp at h2; omega
      rw [any_step h2] at hI2
      conv => whnf
      try (intro _; conv => whnf)
      refine ⟨by omega, ?_⟩
      rw [gt_nat (d := ND) n i h2]
      conv => whnf
      try (intro _; conv => whnf)
      refine ⟨fun _ => by omega, ?_⟩
      rw [gt_nat (d := ND) n i h2]
      conv => whnf
      refine callg0 (fun _ => keep_LargeProps n[i].2.2) rfl ?_
      conv => whnf
      refine ⟨fun h3 => ?_, fun h3 => ?_⟩
      · conv => whnf
        have : largeN n[i] = true := h3
        simp only [← hI2, this, Bool.true_or]
      · conv => whnf
        refine ⟨i + 1, ⟨⟨by omega, ?_⟩, by omega⟩, ?_⟩
        · have : largeN n[i] = false := h3
          rw [← hI2]; simp only [this, Bool.false_or]
        · (conv => whnf); refine ⟨rfl, ?_, ?_, ?_⟩ <;> (repeat' apply And.intro) <;> first | exact trivial | rfl | exact wr_succ _ (by omega) | assumption | exact decide_eq_false (by assumption) | exact decide_eq_true (by assumption)
    · conv => whnf
      rw [← hI2, any_end (by simp at h2; omega), Bool.false_or]
      refine loop0 (α := Nat) (fun i => i ≤ e.length ∧ (e.drop i).any largeE = e.any largeE)
        (fun i => ⟨[(0, .c (.dat ND n)), (1, .c (.dat ED e)), (6, .c (.int .i64 i))], [], 0⟩) (fun i => e.length - i) ⟨0, ⟨by omega, rfl⟩, ?_⟩ ?_
      · (conv => whnf); refine ⟨rfl, ?_, ?_, ?_⟩ <;> (repeat' apply And.intro) <;> first | exact trivial | rfl | exact wr_succ _ (by omega) | assumption | exact decide_eq_false (by assumption) | exact decide_eq_true (by assumption)
      · rintro i ⟨hI1, hI2⟩
        conv => whnf
        intro _
        refine ⟨fun h2 => ?_, fun h2 => ?_⟩
        · have h2 : i < e.length := by simp at h2; omega
          rw [any_step h2] at hI2
          conv => whnf
          try (intro _; conv => whnf)
          refine ⟨by omega, ?_⟩
          rw [gt_nat (d := ED) e i h2]
          conv => whnf
          try (intro _; conv => whnf)
          refine ⟨fun _ => by omega, ?_⟩
          rw [gt_nat (d := ED) e i h2]
          conv => whnf
          refine callg0 (fun _ => keep_LargeProps e[i].2.2.2.2) rfl ?_
          conv => whnf
          refine ⟨fun h3 => ?_, fun h3 => ?_⟩
          · conv => whnf
            have : largeE e[i] = true := h3
            simp only [← hI2, this, Bool.true_or]
          · conv => whnf
            refine ⟨i + 1, ⟨⟨by omega, ?_⟩, by omega⟩, ?_⟩
            · have : largeE e[i] = false := h3
              rw [← hI2]; simp only [this, Bool.false_or]
            · (conv => whnf); refine ⟨rfl, ?_, ?_, ?_⟩ <;> (repeat' apply And.intro) <;> first | exact trivial | rfl | exact wr_succ _ (by omega) | assumption | exact decide_eq_false (by assumption) | exact decide_eq_true (by assumption)
        · conv => whnf
          rw [← hI2, any_end (by simp at h2; omega)]

end Go.Proofs.YtdhfipjfgigamaaGreatDoor
/- The walks of val.Name and of the reference's Name. Own work. -/
set_option linter.unusedVariables false
set_option maxRecDepth 100000
namespace Go.Proofs.YtdhfipjfgigamaaGreatDoor
open Go Go.RowKit OE

/-- a byte that a name may hold; one that it may begin with -/
def nameB (c : UInt8) : Bool := (decide (97 ≤ c.toNat) && decide (c.toNat ≤ 122)) || (decide (48 ≤ c.toNat) && decide (c.toNat ≤ 57)) || decide (c.toNat = 95)
def name1 (c : UInt8) : Bool := decide (97 ≤ c.toNat) && decide (c.toNat ≤ 122)
def nameS (s : List UInt8) : Bool := decide (1 ≤ s.length) && decide (s.length ≤ 16) && (match s with | [] => false | c :: _ => name1 c) && s.all nameB

theorem nameS_eq : ∀ {s : List UInt8} (h : 0 < s.length), s.length ≤ 16 → nameS s = (name1 s[0] && s.all nameB)
  | [], h, _ => by simp at h
  | c :: t, _, h => by
    have e2 : decide ((c :: t).length ≤ 16) = true := by simpa using h
    have e1 : decide (1 ≤ (c :: t).length) = true := by simp
    unfold nameS
    rw [e1, e2]
    rfl
theorem nameS_no {s : List UInt8} (h : s.length < 1 ∨ 16 < s.length) : nameS s = false := by
  unfold nameS
  rcases h with h | h
  · simp; omega
  · simp; omega
theorem nameB_ok (c : UInt8) : nameB c = !((decide ((c.toNat : Int) < 97) || decide (122 < (c.toNat : Int))) && (decide ((c.toNat : Int) < 48) || decide (57 < (c.toNat : Int))) && !decide ((c.toNat : Int) = 95)) := by
  rw [Bool.eq_iff_iff]; simp [nameB]; omega

theorem val_Name (s : List UInt8) : FnD Tryz.prog 157 [.c (.str s)] (· = .c (.bool (.sym (nameS s)))) := by
  refine fn0 Tryz.func157 rfl rfl rfl ?_
  conv => whnf
  refine ⟨fun h => by simp at h; omega, ?_⟩
  conv => whnf
  refine ⟨fun h => by simp at h; omega, ?_⟩
  conv => whnf
  refine ⟨fun h1 => ?_, fun h1 => ?_⟩
  · conv => whnf
    by_cases hl : s.length < 1 ∨ 16 < s.length
    · rw [nameS_no hl]
    · have hlen : 0 < s.length := by omega
      rw [nameS_eq hlen (by omega)]
      have hb0 : bt s 0 = ((s[0]).toNat : Int) := bt_nat s 0 hlen
      rw [hb0] at h1
      have : name1 s[0] = false := by simp at h1; simp [name1]; omega
      rw [this, Bool.false_and]
  have hlen : 0 < s.length ∧ s.length ≤ 16 := by simp at h1; omega
  have hb0 : bt s 0 = ((s[0]).toNat : Int) := bt_nat s 0 hlen.1
  have hS := nameS_eq hlen.1 hlen.2
  rw [hb0] at h1
  have h0 : name1 s[0] = true := by simp at h1; simp [name1]; omega
  rw [h0, Bool.true_and] at hS
  rw [hS]
  conv => whnf
  refine loop0 (α := Nat) (fun i => i ≤ s.length ∧ (s.drop i).all nameB = s.all nameB) (fun i => ⟨[(0, .c (.str s)), (24, .c (.int .i64 s.length)), (25, .c (.int .i64 i))], [], 0⟩) (fun i => s.length - i) ⟨0, ⟨by omega, rfl⟩, ?_⟩ ?_
  · (conv => whnf); refine ⟨rfl, ?_, ?_, ?_⟩ <;> (repeat' apply And.intro) <;> first | exact trivial | rfl | exact wr_succ _ (by omega) | assumption | exact decide_eq_false (by assumption) | exact decide_eq_true (by assumption)
  · rintro i ⟨hI1, hI2⟩
    conv => whnf
    refine ⟨fun h5 => ?_, fun h5 => ?_⟩
    · have h5 : i < s.length := by simp at h5; omega
      have hbi : bt s ((i : Nat) : Int) = ((s[i]).toNat : Int) := bt_nat s i h5
      rw [all_step h5] at hI2
      conv => whnf
      refine ⟨by omega, ?_⟩
      rw [hbi]
      conv => whnf
      refine ⟨fun h6 => ?_, fun h6 => ?_⟩
      · conv => whnf
        have : nameB s[i] = false := by rw [nameB_ok, h6]; rfl
        rw [← hI2, this, Bool.false_and]
      · conv => whnf
        have : nameB s[i] = true := by rw [nameB_ok, h6]; rfl
        refine ⟨i + 1, ⟨⟨by omega, ?_⟩, by omega⟩, ?_⟩
        · rw [← hI2, this, Bool.true_and]
        · (conv => whnf); refine ⟨rfl, ?_, ?_, ?_⟩ <;> (repeat' apply And.intro) <;> first | exact trivial | rfl | exact wr_succ _ (by omega) | assumption | exact decide_eq_false (by assumption) | exact decide_eq_true (by assumption)
    · conv => whnf
      rw [← hI2, all_end (by simp at h5; omega)]

theorem ref_Name (s : List UInt8) : FnD Tryz.prog 40 [.c (.str s)] (· = .c (.bool (.sym (nameS s)))) := by
  refine fn0 Tryz.func40 rfl rfl rfl ?_
  conv => whnf
  refine ⟨fun h1 => ?_, fun h1 => ?_⟩
  · conv => whnf
    rw [nameS_no (by simp at h1; omega)]
  have hlen : 0 < s.length ∧ s.length ≤ 16 := by simp at h1; omega
  have hS := nameS_eq hlen.1 hlen.2
  conv => whnf
  refine loop0 (α := Nat) (fun i => i ≤ s.length ∧ (0 < i → name1 s[0] = true) ∧ (s.drop i).all nameB = s.all nameB) (fun i => ⟨[(0, .c (.str s)), (3, .c (.int .i64 i))], [], 0⟩) (fun i => s.length - i) ⟨0, ⟨by omega, fun h => by omega, rfl⟩, ?_⟩ ?_
  · (conv => whnf); refine ⟨rfl, ?_, ?_, ?_⟩ <;> (repeat' apply And.intro) <;> first | exact trivial | rfl | exact wr_succ _ (by omega) | assumption | exact decide_eq_false (by assumption) | exact decide_eq_true (by assumption)
  · rintro i ⟨hI1, hI3, hI2⟩
    conv => whnf
    refine ⟨fun h5 => ?_, fun h5 => ?_⟩
    · have h5 : i < s.length := by simp at h5; omega
      have hbi : bt s ((i : Nat) : Int) = ((s[i]).toNat : Int) := bt_nat s i h5
      rw [all_step h5] at hI2
      conv => whnf
      refine ⟨by omega, ?_⟩
      rw [hbi]
      conv => whnf
      have key : (!((decide ((97 : Int) ≤ (s[i].toNat : Int)) && decide ((s[i].toNat : Int) ≤ 122)) || (decide ((0 : Int) < i) && ((decide ((48 : Int) ≤ (s[i].toNat : Int)) && decide ((s[i].toNat : Int) ≤ 57)) || decide ((s[i].toNat : Int) = 95))))) = !(if i = 0 then name1 s[i] else nameB s[i]) := by
        by_cases h : i = 0
        · subst h; rw [Bool.eq_iff_iff]; simp [name1]; omega
        · rw [Bool.eq_iff_iff]; simp [nameB, h]; omega
      refine ⟨fun h6 => ?_, fun h6 => ?_⟩
      · conv => whnf
        have h6 : (if i = 0 then name1 s[i] else nameB s[i]) = false := by rw [← Bool.not_eq_true', ← key]; exact h6
        by_cases h : i = 0
        · subst h
          rw [if_pos rfl] at h6
          rw [hS, h6, Bool.false_and]
        · rw [if_neg h] at h6
          rw [hS, ← hI2, h6, Bool.false_and, Bool.and_false]
      · conv => whnf
        have h6 : (if i = 0 then name1 s[i] else nameB s[i]) = true := by rw [← Bool.not_eq_false', ← key]; exact h6
        have hB : name1 s[0] = true ∧ nameB s[i] = true := by
          by_cases h : i = 0
          · subst h
            rw [if_pos rfl] at h6
            exact ⟨h6, by simp [name1] at h6; simp [nameB]; omega⟩
          · rw [if_neg h] at h6
            exact ⟨hI3 (by omega), h6⟩
        refine ⟨i + 1, ⟨⟨by omega, fun _ => hB.1, ?_⟩, by omega⟩, ?_⟩
        · rw [← hI2, hB.2, Bool.true_and]
        · (conv => whnf); refine ⟨rfl, ?_, ?_, ?_⟩ <;> (repeat' apply And.intro) <;> first | exact trivial | rfl | exact wr_succ _ (by omega) | assumption | exact decide_eq_false (by assumption) | exact decide_eq_true (by assumption)
    · conv => whnf
      rw [hS, hI3 (by simp at h5; omega), ← hI2, all_end (by simp at h5; omega)]
      rfl
end Go.Proofs.YtdhfipjfgigamaaGreatDoor
/- The walks of val.Get, rule.Form and of the reference's. Own work. -/
set_option linter.unusedVariables false
set_option maxRecDepth 100000
namespace Go.Proofs.YtdhfipjfgigamaaGreatDoor
open Go Go.RowKit OE

/-- has a rule a form? -/
def formS (r : RD.T) : Bool :=
  nameS r.2.2.1 &&
  if r.2.1 = 1 ∨ r.2.1 = 2 then nameS r.2.2.2.1 && decide (r.2.2.2.2.1 = []) && decide (r.2.2.2.2.2.1 = []) && decide (r.2.2.2.2.2.2.1 = 0)
  else if r.2.1 = 3 then nameS r.2.2.2.2.1 && nameS r.2.2.2.2.2.1 && decide (r.2.2.2.1 = []) && decide (r.2.2.2.2.2.2.1 = 0)
  else if r.2.1 = 4 then decide (r.2.2.2.1 = []) && decide (r.2.2.2.2.1 = []) && decide (r.2.2.2.2.2.1 = []) && decide (0 ≤ r.2.2.2.2.2.2.1) && decide (r.2.2.2.2.2.2.1 ≤ 1024)
  else false

theorem rule_Form (r : RD.T) : FnD Tryz.prog 160 [.agg (rc r)] (· = .c (.bool (.sym (formS r)))) := by
  refine fn0 Tryz.func160 rfl rfl rfl ?_
  conv => whnf
  refine any0 ?_
  conv => whnf
  refine callr0 (val_Name r.2.2.1) rfl ?_
  conv => whnf
  refine callr0 (val_Name r.2.2.2.1) rfl ?_
  conv => whnf
  refine ⟨.inl (by kernel_rfl), after0 ?_⟩
  conv => whnf
  refine ⟨fun h1 => ?_, fun h1 => ?_⟩
  · conv => whnf
    simp at h1
    simp [formS, h1, Bool.and_assoc]
  · conv => whnf
    refine ⟨fun h2 => ?_, fun h2 => ?_⟩
    · conv => whnf
      simp at h1 h2
      simp [formS, h2, Bool.and_assoc]
    · conv => whnf
      refine ⟨fun h3 => ?_, fun h3 => ?_⟩
      · conv => whnf
        refine callg0 (fun _ => val_Name r.2.2.2.2.1) rfl ?_
        conv => whnf
        refine callg0 (fun _ => val_Name r.2.2.2.2.2.1) rfl ?_
        conv => whnf
        simp at h1 h2 h3
        simp [formS, h3, Bool.and_assoc]
      · conv => whnf
        refine ⟨fun h4 => ?_, fun h4 => ?_⟩
        · conv => whnf
          simp at h1 h2 h3 h4
          simp [formS, h4, Bool.and_assoc]
        · conv => whnf
          simp at h1 h2 h3 h4
          simp [formS, h1, h2, h3, h4]

theorem ref_Form (r : RD.T) : FnD Tryz.prog 66 [.agg (rc r)] (· = .c (.bool (.sym (formS r)))) := by
  refine fn0 Tryz.func66 rfl rfl rfl ?_
  conv => whnf
  refine call1 (ref_Name r.2.2.1) rfl ?_
  conv => whnf
  refine ⟨fun h0 => ?_, fun h0 => ?_⟩
  · conv => whnf
    simp at h0
    simp [formS, h0]
  simp at h0
  conv => whnf
  refine ⟨fun h1 => ?_, fun h1 => ?_⟩
  · conv => whnf
    refine call1 (ref_Name r.2.2.2.1) rfl ?_
    conv => whnf
    simp at h1
    simp [formS, h0, h1, Bool.and_assoc]
  · conv => whnf
    refine ⟨fun h2 => ?_, fun h2 => ?_⟩
    · conv => whnf
      refine call1 (ref_Name r.2.2.2.1) rfl ?_
      conv => whnf
      simp at h1 h2
      simp [formS, h0, h2, Bool.and_assoc]
    · conv => whnf
      refine ⟨fun h3 => ?_, fun h3 => ?_⟩
      · conv => whnf
        refine callg0 (fun _ => ref_Name r.2.2.2.2.1) rfl ?_
        conv => whnf
        refine callg0 (fun _ => ref_Name r.2.2.2.2.2.1) rfl ?_
        conv => whnf
        simp at h1 h2 h3
        simp [formS, h0, h3, Bool.and_assoc, Bool.and_left_comm, Bool.and_comm]
      · conv => whnf
        refine ⟨fun h4 => ?_, fun h4 => ?_⟩
        · conv => whnf
          simp at h1 h2 h3 h4
          simp [formS, h0, h4, Bool.and_assoc]
        · conv => whnf
          simp at h1 h2 h3 h4
          simp [formS, h1, h2, h3, h4]
end Go.Proofs.YtdhfipjfgigamaaGreatDoor
/- What package num computes, in plain Lean: no program in sight. Own work. -/
namespace Num
open OE

/-- a number's bytes -/
def putN (n : Nat) : List UInt8 := if h : n < 128 then [UInt8.ofNat n] else UInt8.ofNat (n % 128 + 128) :: putN (n / 128)
termination_by n

/-- the number whose bytes a text begins with, from the i-th byte of it on -/
def getL : List UInt8 → Nat → Nat → Option (Nat × Nat)
  | [], _, _ => none
  | c :: l, i, n =>
    if i = 9 ∧ c.toNat ≠ 1 ∨ c.toNat = 0 ∧ 0 < i then none
    else if c.toNat < 128 then some (n + c.toNat % 128 * 128 ^ i, i + 1) else getL l (i + 1) (n + c.toNat % 128 * 128 ^ i)
def getN (s : List UInt8) (at_ : Int) : Option (Nat × Nat) := if at_ < 0 ∨ at_ > s.length then none else getL (s.drop at_.toNat) 0 0

/-- signed numbers -/
def zig (n : Int) : Nat := if 0 ≤ n then (2 * n).toNat else (-2 * n - 1).toNat
def zag (u : Nat) : Int := if u % 2 = 0 then ((u / 2 : Nat) : Int) else -((u / 2 : Nat) : Int) - 1
def putZ (n : Int) : List UInt8 := putN (zig n)
def putT (t : List UInt8) : List UInt8 := putN t.length ++ t
def getT (s : List UInt8) (at_ most : Int) : Option (List UInt8 × Nat) :=
  match getN s at_ with
  | none => none
  | some (n, k) => if most < 0 ∨ (n : Int) > most ∨ at_.toNat + k + n > s.length then none else some (((s.drop at_.toNat).drop k).take n, k + n)

theorem getL_bd : ∀ {l : List UInt8} {i n m k : Nat}, getL l i n = some (m, k) → i ≤ 9 → n < 128 ^ i → m < 2 ^ 64 ∧ i < k ∧ k ≤ 10 ∧ k ≤ i + l.length
  | [], _, _, _, _, h, _, _ => by simp [getL] at h
  | c :: l, i, n, m, k, h, hi, hn => by
    simp only [getL] at h
    split at h
    · cases h
    · rename_i h1
      have hc := c.toNat_lt
      have hp : (128 : Nat) ^ i = 2 ^ (7 * i) := by rw [Nat.pow_mul]
      split at h
      · simp only [Option.some.injEq, Prod.mk.injEq] at h
        obtain ⟨rfl, rfl⟩ := h
        refine ⟨?_, by omega, by omega, by simp⟩
        by_cases h9 : i = 9
        · subst h9
          have hc1 : c.toNat = 1 := by omega
          rw [hc1]
          simp at hn ⊢
          omega
        · have h2 : (128 : Nat) ^ (i + 1) ≤ 128 ^ 9 := Nat.pow_le_pow_right (by omega) (by omega)
          have h3 : c.toNat % 128 * 128 ^ i ≤ 127 * 128 ^ i := Nat.mul_le_mul_right _ (by omega)
          rw [Nat.pow_succ] at h2
          have h4 : (128 : Nat) ^ 9 = 9223372036854775808 := by decide
          omega
      · rename_i h2
        have h9 : i ≠ 9 := by omega
        have h3 : c.toNat % 128 * 128 ^ i ≤ 127 * 128 ^ i := Nat.mul_le_mul_right _ (by omega)
        have := getL_bd h (by omega) (by rw [Nat.pow_succ]; omega)
        simp only [List.length_cons]
        omega

theorem getN_bd {s : List UInt8} {at_ : Int} {m k : Nat} (h : getN s at_ = some (m, k)) : m < 2 ^ 64 ∧ 0 < k ∧ k ≤ 10 ∧ 0 ≤ at_ ∧ at_.toNat + k ≤ s.length := by
  unfold getN at h
  split at h
  · cases h
  · have := getL_bd h (by omega) (by omega)
    simp only [List.length_drop] at this
    omega

theorem putN_lt {n : Nat} (h : n < 128) : putN n = [UInt8.ofNat n] := by rw [putN]; simp [h]
theorem putN_ge {n : Nat} (h : 128 ≤ n) : putN n = UInt8.ofNat (n % 128 + 128) :: putN (n / 128) := by rw [putN]; simp [Nat.not_lt.2 h]
theorem putN_len : ∀ (k n : Nat), n < 128 ^ (k + 1) → (putN n).length ≤ k + 1
  | 0, n, h => by rw [putN_lt (by simpa using h)]; simp
  | k + 1, n, h => by
    by_cases hn : n < 128
    · rw [putN_lt hn]; simp
    · rw [putN_ge (by omega)]
      have : n / 128 < 128 ^ (k + 1) := by rw [Nat.div_lt_iff_lt_mul (by omega)]; rw [Nat.pow_succ] at h; exact h
      have := putN_len k (n / 128) this
      simp only [List.length_cons]
      omega
theorem putN_ten {n : Nat} (h : n < 18446744073709551616) : (putN n).length ≤ 10 := putN_len 9 n (by
  have : (128 : Nat) ^ (9 + 1) = 1180591620717411303424 := by decide
  omega)

theorem getL_put : ∀ (n i acc : Nat) (r : List UInt8), n * 128 ^ i < 18446744073709551616 → (i = 0 ∨ 0 < n) → i ≤ 9 → getL (putN n ++ r) i acc = some (acc + n * 128 ^ i, i + (putN n).length) := by
  intro n
  induction n using Nat.strongRecOn with
  | _ n ih =>
    intro i acc r h1 h2 h3
    have h9 : i = 9 → n ≤ 1 := by
      intro h
      subst h
      have : (128 : Nat) ^ 9 = 9223372036854775808 := by decide
      rw [this] at h1
      omega
    by_cases hn : n < 128
    · rw [putN_lt hn]
      have hc : (UInt8.ofNat n).toNat = n := by simp; omega
      simp only [List.cons_append, List.nil_append, getL, hc, List.length_singleton]
      rw [if_neg (by omega), if_pos hn, Nat.mod_eq_of_lt hn]
    · rw [putN_ge (by omega)]
      have hc : (UInt8.ofNat (n % 128 + 128)).toNat = n % 128 + 128 := by simp; omega
      simp only [List.cons_append, getL, hc, List.length_cons]
      have e1 : (n % 128 + 128) % 128 = n % 128 := by omega
      have e2 : n * 128 ^ i = n % 128 * 128 ^ i + n / 128 * 128 ^ (i + 1) := by
        rw [Nat.pow_succ]
        have : n = n % 128 + n / 128 * 128 := by omega
        conv => lhs; rw [this]
        rw [Nat.add_mul, Nat.mul_assoc, Nat.mul_comm 128]
      rw [if_neg (by omega), if_neg (by omega), e1, ih (n / 128) (by omega) (i + 1) _ r (by omega) (by omega) (by omega)]
      rw [e2, Nat.add_assoc]
      congr 2
      omega
theorem getN_put (n : Nat) (p r : List UInt8) (h : n < 18446744073709551616) : getN (p ++ putN n ++ r) p.length = some (n, (putN n).length) := by
  unfold getN
  rw [if_neg (by simp; omega)]
  have : (p ++ putN n ++ r).drop (p.length : Int).toNat = putN n ++ r := by simp
  rw [this, getL_put n 0 0 r (by omega) (by omega) (by omega)]
  simp
theorem getT_put (t p r : List UInt8) (most : Int) (hm : (t.length : Int) ≤ most) (ht : t.length < 18446744073709551616) : getT (p ++ putT t ++ r) p.length most = some (t, (putT t).length) := by
  unfold getT
  have e : p ++ putT t ++ r = p ++ putN t.length ++ (t ++ r) := by simp [putT]
  rw [e, getN_put t.length p (t ++ r) ht]
  dsimp only
  rw [if_neg (by simp; omega)]
  simp [putT]
end Num
/- The walk of num.Get. Own work. -/
set_option linter.unusedVariables false
namespace Go.Proofs.YtdhfipjfgigamaaGreatDoor
open Go Go.RowKit OE

def getR (o : Option (Nat × Nat)) : SV :=
  .tup [(false, [.int .u64 ((o.getD (0, 0)).1 : Nat)]), (false, [.int .i64 ((o.getD (0, 0)).2 : Nat)]), (false, [.bool (.sym o.isSome)])]

theorem get_bits (n c i : Nat) (hn : n < 128 ^ i) (hi : i ≤ 9) (hc : c < 256) (h9 : i = 9 → c ≤ 1) :
    bits .or .u64 (n : Int) (IntKind.wrap .u64 (IntKind.wrap .u64 (bits .and .u8 (c : Int) 127) * 2 ^ min (Int.toNat (IntKind.wrap .i64 (7 * (i : Int)))) IntKind.u64.bits)) = ((n + c % 128 * 128 ^ i : Nat) : Int) := by
  have hp : (128 : Nat) ^ i = 2 ^ (7 * i) := by rw [Nat.pow_mul]
  rw [hp] at hn ⊢
  have e1 : IntKind.wrap .i64 (7 * (i : Int)) = ((7 * i : Nat) : Int) := by rw [wr64 _ (by omega) (by omega)]; omega
  have e2 : min (Int.toNat ((7 * i : Nat) : Int)) IntKind.u64.bits = 7 * i := by
    show min (7 * i) 64 = _
    omega
  have hb : n + c % 128 * 2 ^ (7 * i) < 18446744073709551616 := by
    by_cases h : i = 9
    · subst h
      have : c % 128 ≤ 1 := by have := h9 rfl; omega
      have : c % 128 * 2 ^ (7 * 9) ≤ 1 * 2 ^ (7 * 9) := Nat.mul_le_mul_right _ this
      omega
    · have h1 : c % 128 * 2 ^ (7 * i) ≤ 127 * 2 ^ (7 * i) := Nat.mul_le_mul_right _ (by omega)
      have h2 : (2 : Nat) ^ (7 * i) ≤ 2 ^ 56 := Nat.pow_le_pow_right (by omega) (by omega)
      omega
  rw [e1, e2, and127 c hc, wru64 ((c % 128 : Nat) : Int) (by omega) (by omega)]
  have e3 : ((c % 128 : Nat) : Int) * 2 ^ (7 * i) = ((c % 128 * 2 ^ (7 * i) : Nat) : Int) := by
    rw [Int.natCast_mul, Int.natCast_pow]; rfl
  rw [e3, wru64 _ (by omega) (by omega)]
  exact or_apart n (c % 128) (7 * i) hn hb

theorem num_Get (s : List UInt8) (at_ : Int) (hs : s.length ≤ 4611686018427387904) : FnD Tryz.prog 140 [.c (.str s), .c (.int .i64 at_)] (· = getR (Num.getN s at_)) := by
  refine fn0 Tryz.func140 rfl rfl rfl ?_
  conv => whnf
  refine ⟨fun h1 => ?_, fun h1 => ?_⟩
  · conv => whnf
    simp at h1
    have : Num.getN s at_ = none := by unfold Num.getN; rw [if_pos (by omega)]
    rw [this]; rfl
  conv => whnf
  simp at h1
  obtain ⟨a, rfl⟩ := Int.eq_ofNat_of_zero_le h1.1
  have hget : Num.getN s a = Num.getL (s.drop a) 0 0 := by
    unfold Num.getN; rw [if_neg (by omega)]; rfl
  refine loop0 (α := Nat × Nat) (fun p => p.1 ≤ 9 ∧ p.2 < 128 ^ p.1 ∧ a + p.1 ≤ s.length ∧ Num.getL (s.drop (a + p.1)) p.1 p.2 = Num.getL (s.drop a) 0 0)
    (fun p => ⟨[(0, .c (.str s)), (1, .c (.int .i64 a)), (4, .c (.int .u64 p.2)), (7, .c (.int .i64 p.1))], [], 0⟩) (fun p => 10 - p.1) ⟨(0, 0), ⟨by simp, by simp, by dsimp only; omega, rfl⟩, ?_⟩ ?_
  · conv => whnf
    exact ⟨rfl, ⟨rfl, rfl, rfl, rfl, trivial⟩, trivial, trivial⟩
  · rintro ⟨i, n⟩ ⟨hI1, hI3, hI4, hI5⟩
    dsimp only at hI1 hI3 hI4 hI5 ⊢
    have e1 : IntKind.wrap .i64 ((a : Int) + i) = (a + i : Nat) := by rw [wr64 _ (by omega) (by omega)]; omega
    conv => whnf
    rw [e1]
    refine ⟨fun h1 => ?_, fun h1 => ?_⟩
    · simp at h1
      have hlt : a + i < s.length := by omega
      have hb : bt s ((a + i : Nat) : Int) = ((s[a + i]).toNat : Int) := bt_nat s (a + i) hlt
      have hL : Num.getL (s.drop (a + i)) i n = if i = 9 ∧ s[a + i].toNat ≠ 1 ∨ s[a + i].toNat = 0 ∧ 0 < i then none
          else if s[a + i].toNat < 128 then some (n + s[a + i].toNat % 128 * 128 ^ i, i + 1) else Num.getL (s.drop (a + (i + 1))) (i + 1) (n + s[a + i].toNat % 128 * 128 ^ i) := by
        rw [List.drop_eq_getElem_cons hlt]
        rfl
      have hc := (s[a + i]).toNat_lt
      generalize s[a + i].toNat = c at hb hL hc
      conv => whnf
      refine ⟨by rw [e1]; omega, ?_⟩
      rw [e1, hb]
      conv => whnf
      have hnone : (i = 9 ∧ c ≠ 1 ∨ c = 0 ∧ 0 < i) → Num.getN s a = none := by
        intro h
        rw [hget, ← hI5, hL, if_pos h]
      have e7 : IntKind.wrap .i64 (7 * (i : Int)) = ((7 * i : Nat) : Int) := by rw [wr64 _ (by omega) (by omega)]; omega
      have e8 : IntKind.wrap .i64 ((i : Int) + 1) = ((i + 1 : Nat) : Int) := by rw [wr64 _ (by omega) (by omega)]; omega
      refine ⟨fun h2 => ?_, fun h2 => ?_⟩
      · simp at h2
        conv => whnf
        rw [hnone (by omega)]
        rfl
      simp at h2
      conv => whnf
      refine ⟨fun h3 => ?_, fun h3 => ?_⟩
      · simp at h3
        conv => whnf
        rw [hnone (by omega)]
        rfl
      simp at h3
      have h9 : i = 9 → c ≤ 1 := by omega
      have hok : ¬ (i = 9 ∧ c ≠ 1 ∨ c = 0 ∧ 0 < i) := by omega
      rw [if_neg hok] at hL
      conv => whnf
      refine ⟨by rw [e7]; omega, ?_⟩
      conv => whnf
      rw [get_bits n c i hI3 hI1 hc h9]
      refine ⟨fun h5 => ?_, fun h5 => ?_⟩
      · conv => whnf
        simp at h5
        rw [if_pos (by omega)] at hL
        rw [hget, ← hI5, hL, e8]
        rfl
      · simp at h5
        conv => whnf
        rw [if_neg (by omega)] at hL
        refine ⟨(i + 1, n + c % 128 * 128 ^ i), ⟨⟨by dsimp only; omega, ?_, by dsimp only; omega, by rw [← hL]; exact hI5⟩, by dsimp only; omega⟩, ?_⟩
        · have h1 : c % 128 * 128 ^ i ≤ 127 * 128 ^ i := Nat.mul_le_mul_right _ (by omega)
          dsimp only
          rw [Nat.pow_succ]
          omega
        conv => whnf
        exact ⟨rfl, ⟨rfl, rfl, rfl, e8.symm, trivial⟩, trivial, trivial⟩
    · conv => whnf
      simp at h1
      rw [hget, ← hI5, List.drop_of_length_le (by omega)]
      rfl
end Go.Proofs.YtdhfipjfgigamaaGreatDoor
/- The walks of num.GetInt and num.GetText. Own work. -/
set_option linter.unusedVariables false
namespace Go.Proofs.YtdhfipjfgigamaaGreatDoor
open Go Go.RowKit OE

def getIntR (o : Option (Nat × Nat)) : SV :=
  .tup [(false, [.int .i64 (Num.zag (o.getD (0, 0)).1)]), (false, [.int .i64 ((o.getD (0, 0)).2 : Nat)]), (false, [.bool (.sym o.isSome)])]

theorem getN_lt (s : List UInt8) (at_ : Int) : ((Num.getN s at_).getD (0, 0)).1 < 2 ^ 64 := by
  cases h : Num.getN s at_ with
  | none => decide
  | some p => exact (Num.getN_bd (m := p.1) (k := p.2) h).1

theorem getint_bits (u : Nat) (hu : u < 2 ^ 64) :
    bits .xor .i64 (IntKind.wrap .i64 ((u : Int) / 2 ^ min (Int.toNat 1) IntKind.u64.bits)) (IntKind.wrap .i64 (0 - IntKind.wrap .i64 (bits .and .u64 (u : Int) 1))) = Num.zag u := by
  have e1 : IntKind.wrap .i64 ((u : Int) / 2 ^ min (Int.toNat 1) IntKind.u64.bits) = ((u / 2 : Nat) : Int) := by
    show IntKind.wrap .i64 ((u : Int) / 2 ^ 1) = _
    rw [wr64 _ (by omega) (by omega)]; omega
  have e2 : bits .and .u64 (u : Int) 1 = ((u % 2 : Nat) : Int) := by
    rw [show (1 : Int) = ((1 : Nat) : Int) from rfl, u64_and_nat u 1 (by omega) (by omega), nat_mask1]
  rw [e1, e2, wr64 ((u % 2 : Nat) : Int) (by omega) (by omega), wr64 _ (by omega) (by omega)]
  unfold Num.zag
  split
  · rename_i h
    rw [h]
    exact xor64_zero _ (by omega) (by omega)
  · have h : u % 2 = 1 := by omega
    rw [h]
    exact xor64_one _ (by omega) (by omega)

theorem num_GetInt (s : List UInt8) (at_ : Int) (hs : s.length ≤ 4611686018427387904) : FnD Tryz.prog 162 [.c (.str s), .c (.int .i64 at_)] (· = getIntR (Num.getN s at_)) := by
  refine fn0 Tryz.func162 rfl rfl rfl ?_
  conv => whnf
  refine call1 (num_Get s at_ hs) rfl ?_
  conv => whnf
  refine ⟨by decide, ?_⟩
  conv => whnf
  rw [getint_bits _ (getN_lt s at_)]
  rfl

def getTextR (o : Option (List UInt8 × Nat)) : SV :=
  .tup [(false, [.str (o.getD ([], 0)).1]), (false, [.int .i64 ((o.getD ([], 0)).2 : Nat)]), (false, [.bool (.sym o.isSome)])]

theorem num_GetText (s : List UInt8) (at_ most : Int) (hs : s.length ≤ 4611686018427387904) (hm : most ≤ 9223372036854775807) :
    FnD Tryz.prog 139 [.c (.str s), .c (.int .i64 at_), .c (.int .i64 most)] (· = getTextR (Num.getT s at_ most)) := by
  refine fn0 Tryz.func139 rfl rfl rfl ?_
  conv => whnf
  refine call1 (num_Get s at_ hs) rfl ?_
  conv => whnf
  unfold Num.getT
  cases hg : Num.getN s at_ with
  | none =>
    refine ⟨fun _ => ?_, fun h => by simp at h⟩
    conv => whnf
    rfl
  | some p =>
    obtain ⟨n, k⟩ := p
    obtain ⟨hb1, hb2, hb3, hb4, hb5⟩ := Num.getN_bd hg
    obtain ⟨a, rfl⟩ := Int.eq_ofNat_of_zero_le hb4
    rw [show ((a : Nat) : Int).toNat = a from rfl] at hb5 ⊢
    dsimp only [Option.getD_some, Option.isSome_some]
    have e1 : IntKind.wrap .i64 (IntKind.wrap .i64 ((s.length : Int) - a) - k) = ((s.length - a - k : Nat) : Int) := by
      rw [wr64 ((s.length : Int) - a) (by omega) (by omega), wr64 _ (by omega) (by omega)]; omega
    have e0 := wru64 ((s.length - a - k : Nat) : Int) (by omega) (by omega)
    have hw : 0 ≤ most → IntKind.wrap .u64 most = most := fun h => wru64 most h (by omega)
    refine ⟨fun h1 => ?_, fun h1 => ?_⟩
    · simp [e1, e0] at h1
      conv => whnf
      rw [if_pos (by
        rcases h1 with (h1 | h1) | h1
        · exact .inl h1
        · by_cases hm0 : most < 0
          · exact .inl hm0
          · rw [hw (by omega)] at h1; exact .inr (.inl h1)
        · exact .inr (.inr (by omega)))]
      rfl
    simp [e1, e0] at h1
    obtain ⟨⟨h1, h2⟩, h3⟩ := h1
    rw [hw h1] at h2
    have e2 : IntKind.wrap .i64 ((a : Int) + k) = ((a + k : Nat) : Int) := by rw [wr64 _ (by omega) (by omega)]; omega
    have e3 : IntKind.wrap .i64 (IntKind.wrap .i64 ((a : Int) + k) + IntKind.wrap .i64 n) = ((a + k + n : Nat) : Int) := by
      rw [e2, wr64 (n : Int) (by omega) (by omega), wr64 _ (by omega) (by omega)]; omega
    conv => whnf
    refine ⟨?_, ?_⟩
    · rw [e3, e2]; omega
    conv => whnf
    rw [if_neg (by omega), e3, e2]
    have e4 : IntKind.wrap .i64 (((a + k + n : Nat) : Int) - a) = ((k + n : Nat) : Int) := by rw [wr64 _ (by omega) (by omega)]; omega
    rw [e4]
    have e5 : ((s.take (a + k + n)).drop (a + k)) = ((s.drop a).drop k).take n := by
      rw [List.drop_take, List.drop_drop]
      congr 1
      omega
    rw [← e5]
    rfl
end Go.Proofs.YtdhfipjfgigamaaGreatDoor
/- The walk of num.Put. Own work. -/
set_option linter.unusedVariables false
namespace Go.Proofs.YtdhfipjfgigamaaGreatDoor
open Go Go.RowKit OE

def putSt (m : Nat) : List Int → St
  | [] => ⟨[(0, .c (.int .u64 m)), (3, .c (.val (.slice none 0 0)))], [], 0⟩
  | x :: xs => ⟨[(0, .c (.int .u64 m)), (3, .c (.row 0))], [(0, .row 5 (.int .u8) (x :: xs))], 1⟩

theorem put_byte (m : Nat) : bits .or .u8 (IntKind.wrap .u8 m) 128 = ((m % 128 + 128 : Nat) : Int) := by
  have e : IntKind.wrap .u8 (m : Int) = ((m % 256 : Nat) : Int) := by rw [wru8]; omega
  rw [e, or128 _ (by omega)]
  omega
theorem put_last (m : Nat) (h : m < 128) : byl [IntKind.wrap .u8 (m : Int)] = Num.putN m := by
  have e : IntKind.wrap .u8 (m : Int) = ((m : Nat) : Int) := by rw [wru8]; omega
  rw [e, Num.putN_lt h]
  rfl
theorem put_step (m : Nat) (h : 128 ≤ m) : byl [bits .or .u8 (IntKind.wrap .u8 (m : Int)) 128] ++ Num.putN (m / 128) = Num.putN m := by
  rw [put_byte, Num.putN_ge h]
  rfl
theorem byl_len (xs : List Int) : (byl xs).length = xs.length := by simp [byl]

theorem num_Put (n : Nat) (hn : n < 18446744073709551616) : FnD Tryz.prog 158 [.c (.int .u64 n)] (· = .c (.str (Num.putN n))) := by
  have hlen : ∀ (xs : List Int) (m : Nat), byl xs ++ Num.putN m = Num.putN n → xs.length ≤ 10 := by
    intro xs m h
    have h1 := Num.putN_ten hn
    rw [← h, List.length_append, byl_len] at h1
    omega
  refine fn0 Tryz.func158 rfl rfl rfl ?_
  conv => whnf
  refine loop0 (α := Nat × List Int) (fun p => p.1 < 18446744073709551616 ∧ byl p.2 ++ Num.putN p.1 = Num.putN n) (fun p => putSt p.1 p.2) (fun p => p.1) ⟨(n, []), ⟨hn, rfl⟩, ?_⟩ ?_
  · conv => whnf
    exact ⟨rfl, ⟨rfl, rfl, trivial⟩, trivial, trivial⟩
  · rintro ⟨m, xs⟩ ⟨h1, h2⟩
    dsimp only at h1 h2 ⊢
    have hl := hlen _ _ h2
    have hdiv : (m : Int) / 2 ^ min (Int.toNat 7) IntKind.u64.bits = ((m / 128 : Nat) : Int) := by
      show (m : Int) / 2 ^ 7 = _
      omega
    cases xs with
    | nil =>
      conv => whnf
      refine ⟨fun h3 => ?_, fun h3 => ?_⟩
      · have h3 : 128 ≤ m := by simp at h3; omega
        conv => whnf
        refine ⟨by show 1 * 1 ≤ _; omega, ?_⟩
        conv => whnf
        refine ⟨by decide, ?_⟩
        conv => whnf
        refine ⟨(m / 128, [bits .or .u8 (IntKind.wrap .u8 m) 128]), ⟨⟨by dsimp only; omega, ?_⟩, by dsimp only; omega⟩, ?_⟩
        · dsimp only
          rw [put_step m h3, ← h2]
          rfl
        · conv => whnf
          exact ⟨rfl, ⟨hdiv, trivial, trivial⟩, trivial, rfl, trivial⟩
      · have h3 : m < 128 := by simp at h3; omega
        conv => whnf
        refine ⟨by show 1 * 1 ≤ _; omega, ?_⟩
        conv => whnf
        rw [← h2, ← put_last m h3]
        rfl
    | cons x xs =>
      have e1 : ((x :: xs).length + 1) * 1 ≤ 140737488355328 := by omega
      conv => whnf
      refine ⟨fun h3 => ?_, fun h3 => ?_⟩
      · have h3 : 128 ≤ m := by simp at h3; omega
        conv => whnf
        refine ⟨e1, ?_⟩
        conv => whnf
        refine ⟨by decide, ?_⟩
        conv => whnf
        refine ⟨(m / 128, x :: xs ++ [bits .or .u8 (IntKind.wrap .u8 m) 128]), ⟨⟨by dsimp only; omega, ?_⟩, by dsimp only; omega⟩, ?_⟩
        · dsimp only
          rw [byl_app, List.append_assoc, put_step m h3, ← h2]
        · conv => whnf
          exact ⟨rfl, ⟨hdiv, trivial, trivial⟩, trivial, rfl, trivial⟩
      · have h3 : m < 128 := by simp at h3; omega
        conv => whnf
        refine ⟨e1, ?_⟩
        conv => whnf
        rw [← h2, ← put_last m h3, ← byl_app]
end Go.Proofs.YtdhfipjfgigamaaGreatDoor
/- The walks of num.PutInt and num.PutText. Own work. -/
set_option linter.unusedVariables false
namespace Go.Proofs.YtdhfipjfgigamaaGreatDoor
open Go Go.RowKit OE

theorem putint_bits (n : Int) (h0 : -9223372036854775808 ≤ n) (h1 : n ≤ 9223372036854775807) :
    bits .xor .u64 (IntKind.wrap .u64 (IntKind.wrap .u64 n * 2 ^ min (Int.toNat 1) IntKind.u64.bits)) (IntKind.wrap .u64 (n / 2 ^ min (Int.toNat 63) IntKind.i64.bits)) = ((Num.zig n : Nat) : Int) := by
  have e1 : IntKind.wrap .u64 (IntKind.wrap .u64 n * 2 ^ min (Int.toNat 1) IntKind.u64.bits) = ((2 * n) % 18446744073709551616) := by
    rw [wru64m, wru64m]
    show (_ * 2 ^ 1) % _ = _
    omega
  have e2 : n / 2 ^ min (Int.toNat 63) IntKind.i64.bits = if 0 ≤ n then 0 else -1 := by
    show n / 2 ^ 63 = _
    split <;> omega
  rw [e1, e2]
  unfold Num.zig
  by_cases h : 0 ≤ n
  · rw [if_pos h, if_pos h]
    obtain ⟨m, rfl⟩ := Int.eq_ofNat_of_zero_le h
    have e3 : (2 * (m : Int)) % 18446744073709551616 = ((2 * m : Nat) : Int) := by omega
    have e4 : IntKind.wrap .u64 0 = ((0 : Nat) : Int) := rfl
    rw [e3, e4, u64_xor_nat _ _ (by omega) (by omega), Nat.xor_zero]
    omega
  · rw [if_neg h, if_neg h]
    have e3 : (2 * n) % 18446744073709551616 = (((2 * n + 18446744073709551616).toNat : Nat) : Int) := by omega
    have e4 : IntKind.wrap .u64 (-1) = ((18446744073709551615 : Nat) : Int) := rfl
    rw [e3, e4, u64_xor_nat _ _ (by omega) (by omega), xor_max _ (by omega)]
    omega
theorem zig_bd (n : Int) (h0 : -9223372036854775808 ≤ n) (h1 : n ≤ 9223372036854775807) : Num.zig n < 18446744073709551616 := by
  unfold Num.zig
  split <;> omega

theorem num_PutInt (n : Int) (h0 : -9223372036854775808 ≤ n) (h1 : n ≤ 9223372036854775807) : FnD Tryz.prog 169 [.c (.int .i64 n)] (· = .c (.str (Num.putZ n))) := by
  refine fn0 Tryz.func169 rfl rfl rfl ?_
  conv => whnf
  refine ⟨by decide, ?_⟩
  conv => whnf
  refine ⟨by decide, ?_⟩
  conv => whnf
  rw [putint_bits n h0 h1]
  refine call1 (num_Put _ (zig_bd n h0 h1)) rfl ?_
  conv => whnf
  rfl

theorem num_PutText (s : List UInt8) (hs : s.length ≤ 140737488355327) : FnD Tryz.prog 156 [.c (.str s)] (· = .c (.str (Num.putT s))) := by
  refine fn0 Tryz.func156 rfl rfl rfl ?_
  conv => whnf
  rw [wru64 _ (by omega) (by omega)]
  have hp := Num.putN_ten (n := s.length) (by omega)
  refine call1 (num_Put _ (by omega)) rfl ?_
  conv => whnf
  refine ⟨by omega, ?_⟩
  conv => whnf
  rfl
end Go.Proofs.YtdhfipjfgigamaaGreatDoor
/- The walks of the reference's Put, PutInt, PutText. Own work. -/
set_option linter.unusedVariables false
namespace Go.Proofs.YtdhfipjfgigamaaGreatDoor
open Go Go.RowKit OE

end Go.Proofs.YtdhfipjfgigamaaGreatDoor
/- The walks of rule.Encode and of the reference's. Own work. -/
set_option linter.unusedVariables false
set_option maxRecDepth 100000
namespace Go.Proofs.YtdhfipjfgigamaaGreatDoor
open Go Go.RowKit OE

theorem nameS_len {s : List UInt8} (h : nameS s = true) : s.length ≤ 16 := by
  unfold nameS at h
  simp only [Bool.and_eq_true, decide_eq_true_eq] at h
  exact h.1.1.2
/-- is a rule good? -/
def okS (r : RD.T) : Bool := formS r && decide (0 ≤ r.1) && decide (r.1 ≤ 1000000) && decide (0 ≤ r.2.2.2.2.2.2.2) && decide (r.2.2.2.2.2.2.2 ≤ 2)
/-- a good rule's bytes -/
def bytS (r : RD.T) : List UInt8 := Num.putN r.1.toNat ++ Num.putN r.2.1.toNat ++ Num.putN r.2.2.2.2.2.2.2.toNat ++ Num.putN r.2.2.2.2.2.2.1.toNat ++ Num.putT r.2.2.1 ++ Num.putT r.2.2.2.1 ++ Num.putT r.2.2.2.2.1 ++ Num.putT r.2.2.2.2.2.1
def encS (r : RD.T) : List UInt8 := if okS r = true then bytS r else []
def errS (r : RD.T) : Int := if okS r = true then 0 else 11

structure OkR (r : RD.T) : Prop where
  i0 : 0 ≤ r.1
  i1 : r.1 ≤ 1000000
  k0 : 1 ≤ r.2.1
  k1 : r.2.1 ≤ 4
  n0 : 0 ≤ r.2.2.2.2.2.2.1
  n1 : r.2.2.2.2.2.2.1 ≤ 1024
  s0 : 0 ≤ r.2.2.2.2.2.2.2
  s1 : r.2.2.2.2.2.2.2 ≤ 2
  t0 : r.2.2.1.length ≤ 16
  t1 : r.2.2.2.1.length ≤ 16
  t2 : r.2.2.2.2.1.length ≤ 16
  t3 : r.2.2.2.2.2.1.length ≤ 16
theorem okR {r : RD.T} (h : okS r = true) : OkR r := by
  simp only [okS, Bool.and_eq_true, decide_eq_true_eq] at h
  obtain ⟨⟨⟨⟨hf, h1⟩, h2⟩, h3⟩, h4⟩ := h
  unfold formS at hf
  rw [Bool.and_eq_true] at hf
  obtain ⟨hn, hf⟩ := hf
  have hn := nameS_len hn
  split at hf
  · rename_i hk
    simp only [Bool.and_eq_true, decide_eq_true_eq] at hf
    obtain ⟨⟨⟨f1, f2⟩, f3⟩, f4⟩ := hf
    have := nameS_len f1
    exact ⟨h1, h2, by rcases hk with hk | hk <;> rw [hk] <;> decide, by rcases hk with hk | hk <;> rw [hk] <;> decide, by rw [f4]; decide, by rw [f4]; decide, h3, h4, hn, this, by rw [f2]; decide, by rw [f3]; decide⟩
  · split at hf
    · rename_i hk
      simp only [Bool.and_eq_true, decide_eq_true_eq] at hf
      obtain ⟨⟨⟨f1, f2⟩, f3⟩, f4⟩ := hf
      have f1 := nameS_len f1
      have f2 := nameS_len f2
      exact ⟨h1, h2, by rw [hk]; decide, by rw [hk]; decide, by rw [f4]; decide, by rw [f4]; decide, h3, h4, hn, by rw [f3]; decide, f1, f2⟩
    · split at hf
      · rename_i hk
        simp only [Bool.and_eq_true, decide_eq_true_eq] at hf
        obtain ⟨⟨⟨⟨f1, f2⟩, f3⟩, f4⟩, f5⟩ := hf
        exact ⟨h1, h2, by rw [hk]; decide, by rw [hk]; decide, f4, f5, h3, h4, hn, by rw [f1]; decide, by rw [f2]; decide, by rw [f3]; decide⟩
      · cases hf

theorem wuN (x : Int) (h0 : 0 ≤ x) (h1 : x ≤ 1000000) : IntKind.wrap .u64 x = ((x.toNat : Nat) : Int) := by rw [wru64 x h0 (by omega)]; omega
theorem putN_b (x : Int) (h : x ≤ 1000000) : (Num.putN x.toNat).length ≤ 10 := Num.putN_ten (by omega)
theorem putT_b {s : List UInt8} (h : s.length ≤ 16) : (Num.putT s).length ≤ 26 := by
  have := Num.putN_ten (n := s.length) (by omega)
  unfold Num.putT
  rw [List.length_append]
  omega

theorem num_PutI (x : Int) (h0 : 0 ≤ x) (h1 : x ≤ 1000000) : FnD Tryz.prog 158 [.c (.int .u64 (IntKind.wrap .u64 x))] (· = .c (.str (Num.putN x.toNat))) := by
  rw [wuN x h0 h1]
  exact num_Put _ (by omega)

theorem rule_Encode (r : RD.T) : FnD Tryz.prog 137 [.agg (rc r)] (· = .tup [(false, [.str (encS r)]), (false, [.int .i64 (errS r)])]) := by
  refine fn0 Tryz.func137 rfl rfl rfl ?_
  conv => whnf
  refine call1 (rule_Form r) rfl ?_
  conv => whnf
  have hok : okS r = !(!formS r || decide (r.1 < 0) || decide (1000000 < r.1) || decide (r.2.2.2.2.2.2.2 < 0) || decide (2 < r.2.2.2.2.2.2.2)) := by
    rw [Bool.eq_iff_iff]; simp [okS]
  refine ⟨fun h1 => ?_, fun h1 => ?_⟩
  · conv => whnf
    rw [h1] at hok
    simp [encS, errS, hok]
  rw [h1] at hok
  have hO := okR hok
  obtain ⟨i0, i1, k0, k1, n0, n1, s0, s1, t0, t1, t2, t3⟩ := hO
  have k2 : 0 ≤ r.2.1 := Int.le_trans (by decide) k0
  have k3 : r.2.1 ≤ 1000000 := Int.le_trans k1 (by decide)
  have n2 : r.2.2.2.2.2.2.1 ≤ 1000000 := Int.le_trans n1 (by decide)
  have s2 : r.2.2.2.2.2.2.2 ≤ 1000000 := Int.le_trans s1 (by decide)
  have p1 := putN_b r.1 i1
  have p2 := putN_b r.2.1 k3
  have p3 := putN_b r.2.2.2.2.2.2.2 s2
  have p4 := putN_b r.2.2.2.2.2.2.1 n2
  have q1 := putT_b t0
  have q2 := putT_b t1
  have q3 := putT_b t2
  have q4 := putT_b t3
  conv => whnf
  intro _
  conv => whnf
  refine unroll0 5 ?_
  conv => whnf
  refine tk rfl ?_
  conv => whnf
  intro _
  conv => whnf
  refine ⟨show (0 : Int) ≤ 0 ∧ (0 : Int) < 4 from by decide, ?_⟩
  conv => whnf
  refine ⟨show (0 : Int) ≤ 0 ∧ (0 : Int) < 4 from by decide, ?_⟩
  conv => whnf
  refine call1 (num_PutI r.1 i0 i1) rfl ?_
  conv => whnf
  refine ⟨by show 0 + _ ≤ _; omega, ?_⟩
  conv => whnf
  refine tk rfl ?_
  conv => whnf
  intro _
  conv => whnf
  refine ⟨show (0 : Int) ≤ 1 ∧ (1 : Int) < 4 from by decide, ?_⟩
  conv => whnf
  refine ⟨show (0 : Int) ≤ 1 ∧ (1 : Int) < 4 from by decide, ?_⟩
  conv => whnf
  refine call1 (num_PutI r.2.1 k2 k3) rfl ?_
  conv => whnf
  refine ⟨by simp only [List.length_append, List.length_nil]; omega, ?_⟩
  conv => whnf
  refine tk rfl ?_
  conv => whnf
  intro _
  conv => whnf
  refine ⟨show (0 : Int) ≤ 2 ∧ (2 : Int) < 4 from by decide, ?_⟩
  conv => whnf
  refine ⟨show (0 : Int) ≤ 2 ∧ (2 : Int) < 4 from by decide, ?_⟩
  conv => whnf
  refine call1 (num_PutI r.2.2.2.2.2.2.2 s0 s2) rfl ?_
  conv => whnf
  refine ⟨by simp only [List.length_append, List.length_nil]; omega, ?_⟩
  conv => whnf
  refine tk rfl ?_
  conv => whnf
  intro _
  conv => whnf
  refine ⟨show (0 : Int) ≤ 3 ∧ (3 : Int) < 4 from by decide, ?_⟩
  conv => whnf
  refine ⟨show (0 : Int) ≤ 3 ∧ (3 : Int) < 4 from by decide, ?_⟩
  conv => whnf
  refine call1 (num_PutI r.2.2.2.2.2.2.1 n0 n2) rfl ?_
  conv => whnf
  refine ⟨by simp only [List.length_append, List.length_nil]; omega, ?_⟩
  conv => whnf
  refine fk rfl ?_
  conv => whnf
  intro _
  conv => whnf
  refine unroll0 5 ?_
  conv => whnf
  refine tk rfl ?_
  conv => whnf
  intro _
  conv => whnf
  refine ⟨show (0 : Int) ≤ 0 ∧ (0 : Int) < 4 from by decide, ?_⟩
  conv => whnf
  refine ⟨show (0 : Int) ≤ 0 ∧ (0 : Int) < 4 from by decide, ?_⟩
  conv => whnf
  refine call1 (num_PutText r.2.2.1 (Nat.le_trans t0 (by decide))) rfl ?_
  conv => whnf
  refine ⟨by simp only [List.length_append, List.length_nil]; omega, ?_⟩
  conv => whnf
  refine tk rfl ?_
  conv => whnf
  intro _
  conv => whnf
  refine ⟨show (0 : Int) ≤ 1 ∧ (1 : Int) < 4 from by decide, ?_⟩
  conv => whnf
  refine ⟨show (0 : Int) ≤ 1 ∧ (1 : Int) < 4 from by decide, ?_⟩
  conv => whnf
  refine call1 (num_PutText r.2.2.2.1 (Nat.le_trans t1 (by decide))) rfl ?_
  conv => whnf
  refine ⟨by simp only [List.length_append, List.length_nil]; omega, ?_⟩
  conv => whnf
  refine tk rfl ?_
  conv => whnf
  intro _
  conv => whnf
  refine ⟨show (0 : Int) ≤ 2 ∧ (2 : Int) < 4 from by decide, ?_⟩
  conv => whnf
  refine ⟨show (0 : Int) ≤ 2 ∧ (2 : Int) < 4 from by decide, ?_⟩
  conv => whnf
  refine call1 (num_PutText r.2.2.2.2.1 (Nat.le_trans t2 (by decide))) rfl ?_
  conv => whnf
  refine ⟨by simp only [List.length_append, List.length_nil]; omega, ?_⟩
  conv => whnf
  refine tk rfl ?_
  conv => whnf
  intro _
  conv => whnf
  refine ⟨show (0 : Int) ≤ 3 ∧ (3 : Int) < 4 from by decide, ?_⟩
  conv => whnf
  refine ⟨show (0 : Int) ≤ 3 ∧ (3 : Int) < 4 from by decide, ?_⟩
  conv => whnf
  refine call1 (num_PutText r.2.2.2.2.2.1 (Nat.le_trans t3 (by decide))) rfl ?_
  conv => whnf
  refine ⟨by simp only [List.length_append, List.length_nil]; omega, ?_⟩
  conv => whnf
  refine fk rfl ?_
  conv => whnf
  have hok' : okS r = true := hok
  rw [encS, errS, if_pos hok', if_pos hok']
  rfl

end Go.Proofs.YtdhfipjfgigamaaGreatDoor
/- The walks of the reference's Get, GetInt, GetText. Own work. -/
set_option linter.unusedVariables false
namespace Go.Proofs.YtdhfipjfgigamaaGreatDoor
open Go Go.RowKit OE

end Go.Proofs.YtdhfipjfgigamaaGreatDoor
/- The walks of the reference's GetInt and GetText. Own work. -/
set_option linter.unusedVariables false
namespace Go.Proofs.YtdhfipjfgigamaaGreatDoor
open Go Go.RowKit OE

end Go.Proofs.YtdhfipjfgigamaaGreatDoor
/- The walks of rule.Decode and of the reference's. Own work. -/
set_option linter.unusedVariables false
set_option maxRecDepth 100000
namespace Go.Proofs.YtdhfipjfgigamaaGreatDoor
open Go Go.RowKit OE

/-- a number that is no greater than a million -/
def gnS (s : List UInt8) (k : Int) : Option (Nat × Nat) := match Num.getN s k with | none => none | some p => if p.1 ≤ 1000000 then some p else none
/-- what a place holds, by its parts -/
def decP (s : List UInt8) (k : Int) : Option (RD.T × Nat) :=
  match gnS s k with
  | none => none
  | some (a, i1) =>
  match gnS s (k + i1) with
  | none => none
  | some (b, i2) =>
  match gnS s (k + i1 + i2) with
  | none => none
  | some (c, i3) =>
  match gnS s (k + i1 + i2 + i3) with
  | none => none
  | some (d, i4) =>
  match Num.getT s (k + i1 + i2 + i3 + i4) 16 with
  | none => none
  | some (t, i5) =>
  match Num.getT s (k + i1 + i2 + i3 + i4 + i5) 16 with
  | none => none
  | some (n, i6) =>
  match Num.getT s (k + i1 + i2 + i3 + i4 + i5 + i6) 16 with
  | none => none
  | some (f, i7) =>
  match Num.getT s (k + i1 + i2 + i3 + i4 + i5 + i6 + i7) 16 with
  | none => none
  | some (o, i8) => some ((((a : Nat) : Int), ((b : Nat) : Int), t, n, f, o, ((d : Nat) : Int), ((c : Nat) : Int)), i1 + i2 + i3 + i4 + i5 + i6 + i7 + i8)
/-- the rule that stands at a place -/
def decS (s : List UInt8) (k : Int) : Option (RD.T × Nat) := match decP s k with | none => none | some p => if okS p.1 = true then some p else none
def R0 : RD.T := RD.df
def decR (o : Option (RD.T × Nat)) : SV := .tup [(true, rc (o.getD (R0, 0)).1), (false, [.int .i64 ((o.getD (R0, 0)).2 : Nat)]), (false, [.bool (.sym o.isSome)])]

theorem gn_no {s : List UInt8} {k : Int} (h : (!(Num.getN s k).isSome || decide (1000000 < (((Num.getN s k).getD (0, 0)).1 : Int))) = true) : gnS s k = none := by
  unfold gnS
  revert h
  cases Num.getN s k with
  | none => intro _; rfl
  | some p => intro h; simp at h; exact if_neg (by omega)
theorem gn_yes {s : List UInt8} {k : Int} (h : (!(Num.getN s k).isSome || decide (1000000 < (((Num.getN s k).getD (0, 0)).1 : Int))) = false) (hs : s.length ≤ 100000000) :
    ∃ a i : Nat, Num.getN s k = some (a, i) ∧ gnS s k = some (a, i) ∧ IntKind.wrap .i64 (a : Int) = a ∧ IntKind.wrap .i64 (k + i) = k + i ∧ 0 ≤ k ∧ k + i ≤ s.length := by
  cases hg : Num.getN s k with
  | none => rw [hg] at h; simp at h
  | some p =>
    have hb := Num.getN_bd (m := p.1) (k := p.2) hg
    rw [hg] at h
    simp at h
    refine ⟨p.1, p.2, rfl, ?_, wr64 _ (by omega) (by omega), wr64 _ (by omega) (by omega), by omega, by omega⟩
    unfold gnS
    rw [hg]
    exact if_pos (by omega)
theorem gt_bd {s : List UInt8} {k : Int} {t : List UInt8} {i : Nat} (h : Num.getT s k 16 = some (t, i)) : 0 ≤ k ∧ k + i ≤ s.length := by
  unfold Num.getT at h
  cases hg : Num.getN s k with
  | none => rw [hg] at h; cases h
  | some p =>
    have hb := Num.getN_bd (m := p.1) (k := p.2) hg
    rw [hg] at h
    dsimp only at h
    split at h
    · cases h
    · simp only [Option.some.injEq, Prod.mk.injEq] at h
      omega
theorem gt_yes {s : List UInt8} {k : Int} (h : (!(Num.getT s k 16).isSome) = false) (hs : s.length ≤ 100000000) :
    ∃ (t : List UInt8) (i : Nat), Num.getT s k 16 = some (t, i) ∧ IntKind.wrap .i64 (k + i) = k + i ∧ 0 ≤ k ∧ k + i ≤ s.length := by
  cases hg : Num.getT s k 16 with
  | none => rw [hg] at h; simp at h
  | some p =>
    have hb := gt_bd (t := p.1) (i := p.2) hg
    exact ⟨p.1, p.2, rfl, wr64 _ (by omega) (by omega), by omega, by omega⟩
theorem gt_no {s : List UInt8} {k : Int} (h : (!(Num.getT s k 16).isSome) = true) : Num.getT s k 16 = none := by
  simpa using h

theorem rule_Decode (s : List UInt8) (k : Int) (hs : s.length ≤ 100000000) : FnD Tryz.prog 142 [.c (.str s), .c (.int .i64 k)] (· = decR (decS s k)) := by
  refine fn0 Tryz.func142 rfl rfl rfl ?_
  conv => whnf
  refine unroll0 5 ?_
  conv => whnf
  refine tk rfl ?_
  conv => whnf
  refine call1 (num_Get s (k) (by omega)) rfl ?_
  conv => whnf
  refine ⟨fun c1 => ?_, fun c1 => ?_⟩
  · conv => whnf
    have hd : decS s k = none := by simp only [decS, decP, gn_no c1]
    rw [hd]
    rfl
  obtain ⟨a1, i1, g1, h1, w1, u1, l1, m1⟩ := gn_yes c1 hs
  clear c1
  rw [g1]
  dsimp only [Option.getD_some, Option.isSome_some]
  conv => whnf
  rw [w1, u1]
  refine tk rfl ?_
  conv => whnf
  refine call1 (num_Get s (k + i1) (by omega)) rfl ?_
  conv => whnf
  refine ⟨fun c2 => ?_, fun c2 => ?_⟩
  · conv => whnf
    have hd : decS s k = none := by simp only [decS, decP, h1, gn_no c2]
    rw [hd]
    rfl
  obtain ⟨a2, i2, g2, h2, w2, u2, l2, m2⟩ := gn_yes c2 hs
  clear c2
  rw [g2]
  dsimp only [Option.getD_some, Option.isSome_some]
  conv => whnf
  rw [w2, u2]
  refine tk rfl ?_
  conv => whnf
  refine call1 (num_Get s (k + i1 + i2) (by omega)) rfl ?_
  conv => whnf
  refine ⟨fun c3 => ?_, fun c3 => ?_⟩
  · conv => whnf
    have hd : decS s k = none := by simp only [decS, decP, h1, h2, gn_no c3]
    rw [hd]
    rfl
  obtain ⟨a3, i3, g3, h3, w3, u3, l3, m3⟩ := gn_yes c3 hs
  clear c3
  rw [g3]
  dsimp only [Option.getD_some, Option.isSome_some]
  conv => whnf
  rw [w3, u3]
  refine tk rfl ?_
  conv => whnf
  refine call1 (num_Get s (k + i1 + i2 + i3) (by omega)) rfl ?_
  conv => whnf
  refine ⟨fun c4 => ?_, fun c4 => ?_⟩
  · conv => whnf
    have hd : decS s k = none := by simp only [decS, decP, h1, h2, h3, gn_no c4]
    rw [hd]
    rfl
  obtain ⟨a4, i4, g4, h4, w4, u4, l4, m4⟩ := gn_yes c4 hs
  clear c4
  rw [g4]
  dsimp only [Option.getD_some, Option.isSome_some]
  conv => whnf
  rw [w4, u4]
  refine fk rfl ?_
  conv => whnf
  refine unroll0 5 ?_
  conv => whnf
  refine tk rfl ?_
  conv => whnf
  refine call1 (num_GetText s (k + i1 + i2 + i3 + i4) 16 (by omega) (by decide)) rfl ?_
  conv => whnf
  refine ⟨fun c5 => ?_, fun c5 => ?_⟩
  · conv => whnf
    have hd : decS s k = none := by simp only [decS, decP, h1, h2, h3, h4, gt_no c5]
    rw [hd]
    rfl
  obtain ⟨a5, i5, g5, u5, l5, m5⟩ := gt_yes c5 hs
  clear c5
  rw [g5]
  dsimp only [Option.getD_some, Option.isSome_some]
  conv => whnf
  rw [u5]
  refine tk rfl ?_
  conv => whnf
  refine call1 (num_GetText s (k + i1 + i2 + i3 + i4 + i5) 16 (by omega) (by decide)) rfl ?_
  conv => whnf
  refine ⟨fun c6 => ?_, fun c6 => ?_⟩
  · conv => whnf
    have hd : decS s k = none := by simp only [decS, decP, h1, h2, h3, h4, g5, gt_no c6]
    rw [hd]
    rfl
  obtain ⟨a6, i6, g6, u6, l6, m6⟩ := gt_yes c6 hs
  clear c6
  rw [g6]
  dsimp only [Option.getD_some, Option.isSome_some]
  conv => whnf
  rw [u6]
  refine tk rfl ?_
  conv => whnf
  refine call1 (num_GetText s (k + i1 + i2 + i3 + i4 + i5 + i6) 16 (by omega) (by decide)) rfl ?_
  conv => whnf
  refine ⟨fun c7 => ?_, fun c7 => ?_⟩
  · conv => whnf
    have hd : decS s k = none := by simp only [decS, decP, h1, h2, h3, h4, g5, g6, gt_no c7]
    rw [hd]
    rfl
  obtain ⟨a7, i7, g7, u7, l7, m7⟩ := gt_yes c7 hs
  clear c7
  rw [g7]
  dsimp only [Option.getD_some, Option.isSome_some]
  conv => whnf
  rw [u7]
  refine tk rfl ?_
  conv => whnf
  refine call1 (num_GetText s (k + i1 + i2 + i3 + i4 + i5 + i6 + i7) 16 (by omega) (by decide)) rfl ?_
  conv => whnf
  refine ⟨fun c8 => ?_, fun c8 => ?_⟩
  · conv => whnf
    have hd : decS s k = none := by simp only [decS, decP, h1, h2, h3, h4, g5, g6, g7, gt_no c8]
    rw [hd]
    rfl
  obtain ⟨a8, i8, g8, u8, l8, m8⟩ := gt_yes c8 hs
  clear c8
  rw [g8]
  dsimp only [Option.getD_some, Option.isSome_some]
  conv => whnf
  rw [u8]
  refine fk rfl ?_
  conv => whnf
  have hp : decP s k = some ((((a1 : Nat) : Int), ((a2 : Nat) : Int), a5, a6, a7, a8, ((a4 : Nat) : Int), ((a3 : Nat) : Int)), i1 + i2 + i3 + i4 + i5 + i6 + i7 + i8) := by
    simp only [decP, h1, h2, h3, h4, g5, g6, g7, g8]
  refine call1 (rule_Encode ((((a1 : Nat) : Int), ((a2 : Nat) : Int), a5, a6, a7, a8, ((a4 : Nat) : Int), ((a3 : Nat) : Int)) : RD.T)) rfl ?_
  conv => whnf
  refine ⟨fun c9 => ?_, fun c9 => ?_⟩
  · conv => whnf
    have hn : okS ((((a1 : Nat) : Int), ((a2 : Nat) : Int), a5, a6, a7, a8, ((a4 : Nat) : Int), ((a3 : Nat) : Int)) : RD.T) = false := by
      cases h : okS ((((a1 : Nat) : Int), ((a2 : Nat) : Int), a5, a6, a7, a8, ((a4 : Nat) : Int), ((a3 : Nat) : Int)) : RD.T) with
      | false => rfl
      | true => simp [errS, h] at c9
    have hd : decS s k = none := by simp only [decS, hp, hn]; rfl
    rw [hd]
    rfl
  have hn : okS ((((a1 : Nat) : Int), ((a2 : Nat) : Int), a5, a6, a7, a8, ((a4 : Nat) : Int), ((a3 : Nat) : Int)) : RD.T) = true := by
    cases h : okS ((((a1 : Nat) : Int), ((a2 : Nat) : Int), a5, a6, a7, a8, ((a4 : Nat) : Int), ((a3 : Nat) : Int)) : RD.T) with
    | true => rfl
    | false => simp [errS, h] at c9
  have hd : decS s k = some (((((a1 : Nat) : Int), ((a2 : Nat) : Int), a5, a6, a7, a8, ((a4 : Nat) : Int), ((a3 : Nat) : Int)) : RD.T), i1 + i2 + i3 + i4 + i5 + i6 + i7 + i8) := by simp only [decS, hp, hn, if_true]
  have hz : IntKind.wrap .i64 (k + i1 + i2 + i3 + i4 + i5 + i6 + i7 + i8 - k) = ((i1 + i2 + i3 + i4 + i5 + i6 + i7 + i8 : Nat) : Int) := by
    rw [wr64 _ (by omega) (by omega)]; omega
  conv => whnf
  rw [hd, hz]
  rfl
end Go.Proofs.YtdhfipjfgigamaaGreatDoor
/- The walks of val.Good, of the three methods behind it, and of the reference's Good and Blank. Own work. -/
set_option linter.unusedVariables false
set_option maxRecDepth 100000
namespace Go.Proofs.YtdhfipjfgigamaaGreatDoor
open Go Go.RowKit OE

def good1 (v : VD.T) : Bool := (decide (v.2.1 = 0) || decide (v.2.1 = 1)) && decide (v.2.2 = [])
def good3 (v : VD.T) : Bool := decide (v.2.1 = 0) && decide ((v.2.2.length : Int) ≤ 1024)
def goodV (v : VD.T) : Bool := if v.1 = 1 then good1 v else if v.1 = 2 then decide (v.2.2 = []) else if v.1 = 3 then good3 v else false
def blankV (v : VD.T) : Bool := decide (v.1 = 0) && decide (v.2.1 = 0) && decide (v.2.2 = [])

theorem own_bool (v : VD.T) : FnD Tryz.prog 170 [.agg (vc v)] (· = .c (.bool (.sym (good1 v)))) := by
  refine fn0 Tryz.func170 rfl rfl rfl ?_
  conv => whnf
  rfl
theorem own_int (v : VD.T) : FnD Tryz.prog 171 [.agg (vc v)] (· = .c (.bool (.sym (decide (v.2.2 = []))))) := by
  refine fn0 Tryz.func171 rfl rfl rfl ?_
  conv => whnf
theorem own_text (v : VD.T) : FnD Tryz.prog 172 [.agg (vc v)] (· = .c (.bool (.sym (good3 v)))) := by
  refine fn0 Tryz.func172 rfl rfl rfl ?_
  conv => whnf
  rfl

theorem val_Good (v : VD.T) (hk : (Lit.int .i64 v.1).wf = true) : FnD Tryz.prog 168 [.agg (vc v)] (· = .c (.bool (.sym (goodV v)))) := by
  refine fn0 Tryz.func168 rfl rfl rfl ?_
  conv => whnf
  refine ⟨by decide, ?_⟩
  conv => whnf
  refine ⟨by decide, ?_⟩
  conv => whnf
  refine ⟨by decide, ?_⟩
  conv => whnf
  refine ⟨hk, ⟨fun h1 => ?_, fun h1 => ⟨fun h2 => ?_, fun h2 => ⟨fun h3 => ?_, fun h3 => ?_⟩⟩⟩⟩
  · conv => whnf
    refine call1 (own_bool v) rfl ?_
    conv => whnf
    simp at h1; simp [goodV, h1]
  · conv => whnf
    refine call1 (own_int v) rfl ?_
    conv => whnf
    simp at h1 h2; simp [goodV, h2]
  · conv => whnf
    refine call1 (own_text v) rfl ?_
    conv => whnf
    simp at h1 h2 h3; simp [goodV, h3]
  · conv => whnf
    simp at h1 h2 h3; simp [goodV, h1, h2, h3]

theorem ref_Good (v : VD.T) : FnD Tryz.prog 64 [.agg (vc v)] (· = .c (.bool (.sym (goodV v)))) := by
  refine fn0 Tryz.func64 rfl rfl rfl ?_
  conv => whnf
  refine ⟨fun h1 => ?_, fun h1 => ?_⟩
  · conv => whnf
    simp at h1; simp [goodV, good1, h1]
  conv => whnf
  refine ⟨fun h2 => ?_, fun h2 => ?_⟩
  · conv => whnf
    simp at h1 h2; simp [goodV, h2]
  conv => whnf
  refine ⟨fun h3 => ?_, fun h3 => ?_⟩
  · conv => whnf
    simp at h1 h2 h3; simp [goodV, good3, h3]
  · conv => whnf
    simp at h1 h2 h3; simp [goodV, h1, h2, h3]
end Go.Proofs.YtdhfipjfgigamaaGreatDoor
/- The walks of val.Encode and of the reference's. Own work. -/
set_option linter.unusedVariables false
set_option maxRecDepth 100000
namespace Go.Proofs.YtdhfipjfgigamaaGreatDoor
open Go Go.RowKit OE

/-- a kind's byte -/
def kb (k : Int) : List UInt8 := byl [IntKind.wrap .u8 k]
/-- a value's bytes -/
def encV (v : VD.T) : List UInt8 :=
  if blankV v = true then kb v.1
  else if goodV v = true then (if v.1 = 1 then kb v.1 ++ byl [IntKind.wrap .u8 v.2.1] else if v.1 = 2 then kb v.1 ++ Num.putZ v.2.1 else kb v.1 ++ Num.putT v.2.2)
  else []
theorem putZ_len (n : Int) (h0 : -9223372036854775808 ≤ n) (h1 : n ≤ 9223372036854775807) : (Num.putZ n).length ≤ 10 := Num.putN_ten (zig_bd n h0 h1)
theorem good_len {v : VD.T} (h : goodV v = true) : v.2.2.length ≤ 1024 := by
  unfold goodV at h
  split at h
  · simp [good1] at h; rw [h.2]; simp
  · split at h
    · simp at h; rw [h]; simp
    · split at h
      · simp only [good3, Bool.and_eq_true, decide_eq_true_eq] at h; omega
      · cases h
theorem blank_eq (v : VD.T) : VD.eqb v (0, 0, []) = blankV v := by
  simp [D.eqb, blankV, Bool.and_assoc]

theorem val_Encode (v : VD.T) (hv : Wf VD v) : FnD Tryz.prog 159 [.agg (vc v)] (· = .c (.str (encV v))) := by
  refine fn0 Tryz.func159 rfl rfl rfl ?_
  conv => whnf
  refine eqs0 VD (p := v) (q := (0, 0, [])) 100 rfl (by kernel_rfl) rfl (by kernel_rfl) rfl rfl rfl ?_
  rw [blank_eq]
  conv => whnf
  refine ⟨fun h1 => ?_, fun h1 => ?_⟩
  · conv => whnf
    simp [encV, h1, kb]
  conv => whnf
  refine call1 (val_Good v hv.1) rfl ?_
  conv => whnf
  refine ⟨fun h2 => ?_, fun h2 => ?_⟩
  · conv => whnf
    simp at h2
    simp [encV, h1, h2]
  simp at h2
  have hl := good_len h2
  have hE : encV v = if v.1 = 1 then kb v.1 ++ byl [IntKind.wrap .u8 v.2.1] else if v.1 = 2 then kb v.1 ++ Num.putZ v.2.1 else kb v.1 ++ Num.putT v.2.2 := by
    unfold encV; rw [if_neg (by simp [h1]), if_pos h2]
  rw [hE]
  conv => whnf
  refine ⟨fun h3 => ?_, fun h3 => ?_⟩
  · simp at h3
    rw [if_pos h3]
    conv => whnf
    refine ⟨by show 1 + 1 ≤ _; omega, ?_⟩
    conv => whnf
    rfl
  simp at h3
  rw [if_neg h3]
  conv => whnf
  refine ⟨fun h4 => ?_, fun h4 => ?_⟩
  · simp at h4
    rw [if_pos h4]
    have hz := wf_i64 hv.2.1
    have hzl := putZ_len v.2.1 hz.1 hz.2
    conv => whnf
    refine call1 (num_PutInt v.2.1 hz.1 hz.2) rfl ?_
    conv => whnf
    refine ⟨by show 1 + _ ≤ _; omega, ?_⟩
    conv => whnf
    rfl
  · simp at h4
    rw [if_neg h4]
    conv => whnf
    refine call1 (num_PutText v.2.2 (Nat.le_trans hl (by decide))) rfl ?_
    conv => whnf
    refine ⟨by
      show 1 + (Num.putT v.2.2).length ≤ _
      have := Num.putN_ten (n := v.2.2.length) (Nat.lt_of_le_of_lt hl (by decide))
      unfold Num.putT
      rw [List.length_append]
      omega, ?_⟩
    conv => whnf
    rfl

end Go.Proofs.YtdhfipjfgigamaaGreatDoor
/- The walks of val.Decode and of the reference's. Own work. -/
set_option linter.unusedVariables false
set_option maxRecDepth 100000
namespace Go.Proofs.YtdhfipjfgigamaaGreatDoor
open Go Go.RowKit OE

/-- the value that stands somewhere, and its size -/
def decB (s : List UInt8) (k : Int) : Option (VD.T × Nat) :=
  if bt s k = 0 then some ((0, 0, []), 1)
  else if bt s k = 1 then (if k + 1 < s.length ∧ bt s (k + 1) ≤ 1 then some ((1, bt s (k + 1), []), 2) else none)
  else if bt s k = 2 then (match Num.getN s (k + 1) with | none => none | some p => some ((2, Num.zag p.1, []), p.2 + 1))
  else if bt s k = 3 then (match Num.getT s (k + 1) 1024 with | none => none | some p => some ((3, 0, p.1), p.2 + 1))
  else none
def decV (s : List UInt8) (k : Int) : Option (VD.T × Nat) := if k < 0 ∨ (s.length : Int) ≤ k then none else decB s k
theorem getT_bd {s : List UInt8} {k m : Int} {t : List UInt8} {i : Nat} (h : Num.getT s k m = some (t, i)) : 0 ≤ k ∧ k + i ≤ s.length := by
  unfold Num.getT at h
  cases hg : Num.getN s k with
  | none => rw [hg] at h; cases h
  | some p =>
    have hb := Num.getN_bd (m := p.1) (k := p.2) hg
    rw [hg] at h
    dsimp only at h
    split at h
    · cases h
    · simp only [Option.some.injEq, Prod.mk.injEq] at h
      omega
def V0 : VD.T := VD.df
def decVR (o : Option (VD.T × Nat)) : SV := .tup [(true, vc (o.getD (V0, 0)).1), (false, [.int .i64 ((o.getD (V0, 0)).2 : Nat)]), (false, [.bool (.sym o.isSome)])]

theorem val_Decode (s : List UInt8) (k : Int) (hs : s.length ≤ 100000000) : FnD Tryz.prog 141 [.c (.str s), .c (.int .i64 k)] (· = decVR (decV s k)) := by
  refine fn0 Tryz.func141 rfl rfl rfl ?_
  conv => whnf
  refine ⟨fun h1 => ?_, fun h1 => ?_⟩
  · conv => whnf
    simp at h1
    have : decV s k = none := by unfold decV; rw [if_pos h1]
    rw [this]
    rfl
  simp at h1
  have hD : decV s k = decB s k := by unfold decV; rw [if_neg (by omega)]
  rw [hD]
  unfold decB
  have hb := bt_rng s k
  have e1 : IntKind.wrap .i64 (bt s k) = bt s k := wr64 _ (by omega) (by omega)
  have e2 : IntKind.wrap .i64 (k + 1) = k + 1 := wr64 _ (by omega) (by omega)
  conv => whnf
  refine ⟨by omega, ?_⟩
  conv => whnf
  rw [e1]
  refine ⟨fun h2 => ?_, fun h2 => ?_⟩
  · simp at h2
    rw [if_pos h2, h2]
    conv => whnf
    rfl
  simp at h2
  rw [if_neg h2]
  conv => whnf
  refine ⟨fun h3 => ?_, fun h3 => ?_⟩
  · simp at h3
    rw [if_pos h3, h3]
    conv => whnf
    rw [e2]
    refine ⟨fun h4 => ?_, fun h4 => ?_⟩
    · simp at h4
      conv => whnf
      have hb1 := bt_rng s (k + 1)
      have e3 : IntKind.wrap .i64 (bt s (k + 1)) = bt s (k + 1) := wr64 _ (by omega) (by omega)
      refine any0 ?_
      conv => whnf
      rw [e2]
      refine ⟨by omega, ?_⟩
      conv => whnf
      try rw [e3]
      refine ⟨by omega, ?_⟩
      conv => whnf
      refine ⟨.inl (by kernel_rfl), after0 ?_⟩
      conv => whnf
      try rw [e2]
      refine ⟨fun h5 => ?_, fun h5 => ?_⟩
      · try rw [e2] at h5
        simp at h5
        rw [if_neg (by omega)]
        conv => whnf
        rfl
      · try rw [e2] at h5
        simp at h5
        rw [if_pos ⟨h4, h5⟩]
        conv => whnf
        rfl
    · simp at h4
      rw [if_neg (by omega)]
      conv => whnf
      rfl
  simp at h3
  rw [if_neg h3]
  conv => whnf
  refine ⟨fun h4 => ?_, fun h4 => ?_⟩
  · simp at h4
    rw [if_pos h4, h4]
    conv => whnf
    rw [e2]
    refine call1 (num_GetInt s (k + 1) (by omega)) rfl ?_
    conv => whnf
    cases hg : Num.getN s (k + 1) with
    | none =>
      refine tk rfl ?_
      conv => whnf
      rfl
    | some p =>
      have hbd := Num.getN_bd (m := p.1) (k := p.2) hg
      refine fk rfl ?_
      conv => whnf
      have e4 : IntKind.wrap .i64 ((p.2 : Nat) + 1 : Int) = ((p.2 + 1 : Nat) : Int) := by rw [wr64 _ (by omega) (by omega)]; omega
      show SV.tup [(true, [.int .i64 2, .int .i64 (Num.zag p.1), .str []]), (false, [.int .i64 (IntKind.wrap .i64 ((p.2 : Nat) + 1 : Int))]), (false, [.bool (.sym true)])] = _
      rw [e4]
      rfl
  simp at h4
  rw [if_neg h4]
  conv => whnf
  refine ⟨fun h5 => ?_, fun h5 => ?_⟩
  · simp at h5
    rw [if_pos h5, h5]
    conv => whnf
    rw [e2]
    refine call1 (num_GetText s (k + 1) 1024 (by omega) (by decide)) rfl ?_
    conv => whnf
    cases hg : Num.getT s (k + 1) 1024 with
    | none =>
      refine tk rfl ?_
      conv => whnf
      rfl
    | some p =>
      have hbd := getT_bd (t := p.1) (i := p.2) hg
      refine fk rfl ?_
      conv => whnf
      have e4 : IntKind.wrap .i64 ((p.2 : Nat) + 1 : Int) = ((p.2 + 1 : Nat) : Int) := by rw [wr64 _ (by omega) (by omega)]; omega
      show SV.tup [(true, [.int .i64 3, .int .i64 0, .str p.1]), (false, [.int .i64 (IntKind.wrap .i64 ((p.2 : Nat) + 1 : Int))]), (false, [.bool (.sym true)])] = _
      rw [e4]
      rfl
  · simp at h5
    rw [if_neg h5]
    conv => whnf
    rfl

end Go.Proofs.YtdhfipjfgigamaaGreatDoor
/- The walks of wire.text, number, value; data of commands. Own work. -/
set_option linter.unusedVariables false
set_option maxRecDepth 100000
namespace Go.Proofs.YtdhfipjfgigamaaGreatDoor
open Go Go.RowKit OE

/-- a change: kind, Id, type, from, to, name, value, cascade -/
abbrev OD : D := .pair (.int .i64) (.pair (.int .i64) (.pair .str (.pair (.int .i64) (.pair (.int .i64) (.pair .str (.pair VD .bool))))))
abbrev oc (o : OD.T) : List C := [.int .i64 o.1, .int .i64 o.2.1, .str o.2.2.1, .int .i64 o.2.2.2.1, .int .i64 o.2.2.2.2.1, .str o.2.2.2.2.2.1, .int .i64 o.2.2.2.2.2.2.1.1, .int .i64 o.2.2.2.2.2.2.1.2.1, .str o.2.2.2.2.2.2.1.2.2, .bool (.sym o.2.2.2.2.2.2.2)]
/-- a command: kind, Id, type, name, value, to, N, change, rule -/
abbrev MD : D := .pair (.int .i64) (.pair (.int .i64) (.pair .str (.pair .str (.pair VD (.pair VD (.pair (.int .i64) (.pair OD RD)))))))
abbrev mc (m : MD.T) : List C := [.int .i64 m.1, .int .i64 m.2.1, .str m.2.2.1, .str m.2.2.2.1, .int .i64 m.2.2.2.2.1.1, .int .i64 m.2.2.2.2.1.2.1, .str m.2.2.2.2.1.2.2, .int .i64 m.2.2.2.2.2.1.1, .int .i64 m.2.2.2.2.2.1.2.1, .str m.2.2.2.2.2.1.2.2, .int .i64 m.2.2.2.2.2.2.1,
  .int .i64 m.2.2.2.2.2.2.2.1.1, .int .i64 m.2.2.2.2.2.2.2.1.2.1, .str m.2.2.2.2.2.2.2.1.2.2.1, .int .i64 m.2.2.2.2.2.2.2.1.2.2.2.1, .int .i64 m.2.2.2.2.2.2.2.1.2.2.2.2.1, .str m.2.2.2.2.2.2.2.1.2.2.2.2.2.1, .int .i64 m.2.2.2.2.2.2.2.1.2.2.2.2.2.2.1.1, .int .i64 m.2.2.2.2.2.2.2.1.2.2.2.2.2.2.1.2.1, .str m.2.2.2.2.2.2.2.1.2.2.2.2.2.2.1.2.2, .bool (.sym m.2.2.2.2.2.2.2.1.2.2.2.2.2.2.2),
  .int .i64 m.2.2.2.2.2.2.2.2.1, .int .i64 m.2.2.2.2.2.2.2.2.2.1, .str m.2.2.2.2.2.2.2.2.2.2.1, .str m.2.2.2.2.2.2.2.2.2.2.2.1, .str m.2.2.2.2.2.2.2.2.2.2.2.2.1, .str m.2.2.2.2.2.2.2.2.2.2.2.2.2.1, .int .i64 m.2.2.2.2.2.2.2.2.2.2.2.2.2.2.1, .int .i64 m.2.2.2.2.2.2.2.2.2.2.2.2.2.2.2]
def mType (m : MD.T) : List UInt8 := m.2.2.1
def mName (m : MD.T) : List UInt8 := m.2.2.2.1
def mV (m : MD.T) : VD.T := m.2.2.2.2.1
def mTo (m : MD.T) : VD.T := m.2.2.2.2.2.1
def mN (m : MD.T) : Int := m.2.2.2.2.2.2.1
def mOp (m : MD.T) : OD.T := m.2.2.2.2.2.2.2.1
def mRule (m : MD.T) : RD.T := m.2.2.2.2.2.2.2.2
def oV (o : OD.T) : VD.T := o.2.2.2.2.2.2.1

/-- the bytes of a field, and whether it has a form -/
def txS (s : List UInt8) (e : Bool) : List UInt8 × Bool := (Num.putT s, nameS s || (e && decide (s = [])))
def u64 (n : Int) : Nat := (IntKind.wrap .u64 n).toNat
def nuS (n least most : Int) : List UInt8 × Bool := (Num.putN (u64 n), decide (least ≤ n) && decide (n ≤ most))
def vaS (v : VD.T) (e : Bool) : List UInt8 × Bool := (encV v, !decide (encV v = []) && (e || !decide (v.1 = 0)))
theorem wrap_u64 (n : Int) : IntKind.wrap .u64 n = (u64 n : Int) ∧ u64 n < 18446744073709551616 := by
  have h : IntKind.wrap .u64 n = n % 18446744073709551616 := by simp [IntKind.wrap, IntKind.bits, IntKind.signed]
  unfold u64
  rw [h]
  omega
theorem u64_of {n : Int} (h0 : 0 ≤ n) (h1 : n < 18446744073709551616) : u64 n = n.toNat := by
  have h : IntKind.wrap .u64 n = n % 18446744073709551616 := by simp [IntKind.wrap, IntKind.bits, IntKind.signed]
  unfold u64
  rw [h]
  omega
abbrev paR (p : List UInt8 × Bool) : SV := .tup [(false, [.str p.1]), (false, [.bool (.sym p.2)])]
theorem wire_text0 (s : List UInt8) (hs : s.length ≤ 140737488355327) (b : Bool) : FnD Tryz.prog 134 [.c (.str s), .c (.bool (.sym b))] (· = paR (txS s b)) := by
  refine fn0 Tryz.func134 rfl rfl rfl ?_
  conv => whnf
  refine call1 (num_PutText s hs) rfl ?_
  conv => whnf
  refine call1 (val_Name s) rfl ?_
  conv => whnf
  rfl
theorem wire_text (s : List UInt8) (hs : s.length ≤ 140737488355327) (b : BE) : FnD Tryz.prog 134 [.c (.str s), .c (.bool b)] (· = paR (txS s b.v)) := by
  cases b with
  | tt => exact (wire_text0 s hs true).args fun w ok => ⟨fun _ h => h, fun _ h => h, trivial⟩
  | ff => exact (wire_text0 s hs false).args fun w ok => ⟨fun _ h => h, fun _ h => h, trivial⟩
  | sym b => exact wire_text0 s hs b
theorem wire_number (n least most : Int) : FnD Tryz.prog 135 [.c (.int .i64 n), .c (.int .i64 least), .c (.int .i64 most)] (· = paR (nuS n least most)) := by
  obtain ⟨e, hl⟩ := wrap_u64 n
  refine fn0 Tryz.func135 rfl rfl rfl ?_
  conv => whnf
  rw [e]
  refine call1 (num_Put (u64 n) hl) rfl ?_
  conv => whnf
  rfl
theorem wire_value0 (v : VD.T) (hv : Wf VD v) (b : Bool) : FnD Tryz.prog 136 [.agg (vc v), .c (.bool (.sym b))] (· = paR (vaS v b)) := by
  refine fn0 Tryz.func136 rfl rfl rfl ?_
  conv => whnf
  refine call1 (val_Encode v hv) rfl ?_
  conv => whnf
  refine any0 ?_
  conv => whnf
  refine ⟨.inl (by kernel_rfl), after0 ?_⟩
  conv => whnf
  rfl
theorem wire_value (v : VD.T) (hv : Wf VD v) (b : BE) : FnD Tryz.prog 136 [.agg (vc v), .c (.bool b)] (· = paR (vaS v b.v)) := by
  cases b with
  | tt => exact (wire_value0 v hv true).args fun w ok => ⟨fun _ h => h, fun _ h => h, trivial⟩
  | ff => exact (wire_value0 v hv false).args fun w ok => ⟨fun _ h => h, fun _ h => h, trivial⟩
  | sym b => exact wire_value0 v hv b
end Go.Proofs.YtdhfipjfgigamaaGreatDoor
/- The walks of place.put, all, change, bytes. Own work. -/
set_option linter.unusedVariables false
set_option maxRecDepth 100000
namespace Go.Proofs.YtdhfipjfgigamaaGreatDoor
open Go Go.RowKit OE

/-- where a change's fields stand: in an object of its own -/
abbrev plO (b o : Nat) : List C := [.ptr b (o + 2), .ptr b (o + 5), .ptr b (o + 1), .ptr b (o + 3), .ptr b (o + 4), .ptr b (o + 6), .val (.pointer none), .val (.pointer none), .ptr b (o + 9), .val (.pointer none), .val (.pointer none)]
abbrev obO (o : OD.T) : List (Nat × Ob) := [(0, .cells 26 (oc o))]
abbrev kp0 : List (Nat × Bool) := [(0, false)]
/-- a byte of a change's fields -/
def putO (o : OD.T) (f : Int) : List UInt8 × Bool :=
  if f = 116 ∨ f = 101 then txS o.2.2.1 (decide (f = 101))
  else if f = 110 then txS o.2.2.2.2.2.1 false
  else if f = 105 then nuS o.2.1 0 4611686018427387903
  else if f = 97 then nuS o.2.2.2.1 0 4611686018427387903
  else if f = 98 then nuS o.2.2.2.2.1 0 4611686018427387903
  else if f = 118 ∨ f = 119 then vaS (oV o) (decide (f = 119))
  else if o.2.2.2.2.2.2.2 = true then ([1], true) else ([0], true)
/-- the fields that a change may have -/
def fO (f : Int) : Prop := f = 116 ∨ f = 101 ∨ f = 110 ∨ f = 105 ∨ f = 97 ∨ f = 98 ∨ f = 118 ∨ f = 119 ∨ f = 99
theorem wire_ofOp (o : OD.T) : FnP Tryz.prog 161 [.c (.ptr 0 0)] (obO o) 1 kp0 (.agg (plO 0 0)) (obO o) 1 := by
  refine fnP noI Tryz.func161 rfl rfl rfl rfl ?_
  conv => whnf
  refine any0 ?_
  conv => whnf
  refine ⟨.inl (by kernel_rfl), after0 ?_⟩
  conv => whnf
  refine ⟨rfl, ?_, ?_, ?_⟩ <;> (repeat' apply And.intro) <;> first | exact trivial | rfl | assumption
theorem wire_putO (o : OD.T) (f : Int) (hf : fO f) (h1 : o.2.2.1.length ≤ 140737488355327) (h2 : o.2.2.2.2.2.1.length ≤ 140737488355327) (h3 : Wf VD (oV o)) : FnP Tryz.prog 114 [.agg (plO 0 0), .c (.int .u8 f)] (obO o) 1 kp0 (paR (putO o f)) (obO o) 1 := by
  refine fnP noI Tryz.func114 rfl rfl rfl rfl ?_
  conv => whnf
  refine ⟨fun a => ?_, fun a => ?_⟩
  · have a : f = 116 := of_decide_eq_true a
    conv => whnf
    have hA : putO o f = txS o.2.2.1 (decide (f = 101)) := by unfold putO; exact if_pos (.inl a)
    rw [hA]
    conv => whnf
    refine call1 (wire_text o.2.2.1 h1 _) rfl ?_
    conv => whnf
    refine ⟨rfl, ?_, ?_, ?_⟩ <;> (repeat' apply And.intro) <;> first | exact trivial | rfl | assumption
  have a1 : ¬ f = 116 := of_decide_eq_false a
  clear a
  conv => whnf
  refine ⟨fun a => ?_, fun a => ?_⟩
  · have a : f = 101 := of_decide_eq_true a
    conv => whnf
    have hA : putO o f = txS o.2.2.1 (decide (f = 101)) := by unfold putO; exact if_pos (.inr a)
    rw [hA]
    conv => whnf
    refine call1 (wire_text o.2.2.1 h1 _) rfl ?_
    conv => whnf
    refine ⟨rfl, ?_, ?_, ?_⟩ <;> (repeat' apply And.intro) <;> first | exact trivial | rfl | assumption
  have a2 : ¬ f = 101 := of_decide_eq_false a
  have q1 : ¬ (f = 116 ∨ f = 101) := fun h => h.elim a1 a2
  clear a
  conv => whnf
  refine ⟨fun a => ?_, fun a => ?_⟩
  · have a : f = 110 := of_decide_eq_true a
    conv => whnf
    have hA : putO o f = txS o.2.2.2.2.2.1 false := by unfold putO; rw [if_neg q1, if_pos a]
    rw [hA]
    conv => whnf
    refine call1 (wire_text o.2.2.2.2.2.1 h2 _) rfl ?_
    conv => whnf
    refine ⟨rfl, ?_, ?_, ?_⟩ <;> (repeat' apply And.intro) <;> first | exact trivial | rfl | assumption
  have a3 : ¬ f = 110 := of_decide_eq_false a
  clear a
  conv => whnf
  refine ⟨fun a => ?_, fun a => ?_⟩
  · have a : f = 105 := of_decide_eq_true a
    conv => whnf
    have hA : putO o f = nuS o.2.1 0 4611686018427387903 := by unfold putO; rw [if_neg q1, if_neg a3, if_pos a]
    rw [hA]
    conv => whnf
    refine call1 (wire_number _ _ _) rfl ?_
    conv => whnf
    refine ⟨rfl, ?_, ?_, ?_⟩ <;> (repeat' apply And.intro) <;> first | exact trivial | rfl | assumption
  have a4 : ¬ f = 105 := of_decide_eq_false a
  clear a
  conv => whnf
  refine ⟨fun a => ?_, fun a => ?_⟩
  · have a : f = 97 := of_decide_eq_true a
    conv => whnf
    have hA : putO o f = nuS o.2.2.2.1 0 4611686018427387903 := by unfold putO; rw [if_neg q1, if_neg a3, if_neg a4, if_pos a]
    rw [hA]
    conv => whnf
    refine call1 (wire_number _ _ _) rfl ?_
    conv => whnf
    refine ⟨rfl, ?_, ?_, ?_⟩ <;> (repeat' apply And.intro) <;> first | exact trivial | rfl | assumption
  have a5 : ¬ f = 97 := of_decide_eq_false a
  clear a
  conv => whnf
  refine ⟨fun a => ?_, fun a => ?_⟩
  · have a : f = 98 := of_decide_eq_true a
    conv => whnf
    have hA : putO o f = nuS o.2.2.2.2.1 0 4611686018427387903 := by unfold putO; rw [if_neg q1, if_neg a3, if_neg a4, if_neg a5, if_pos a]
    rw [hA]
    conv => whnf
    refine call1 (wire_number _ _ _) rfl ?_
    conv => whnf
    refine ⟨rfl, ?_, ?_, ?_⟩ <;> (repeat' apply And.intro) <;> first | exact trivial | rfl | assumption
  have a6 : ¬ f = 98 := of_decide_eq_false a
  clear a
  conv => whnf
  refine ⟨fun a => ?_, fun a => ?_⟩
  · have a : f = 118 := of_decide_eq_true a
    conv => whnf
    have hA : putO o f = vaS (oV o) (decide (f = 119)) := by unfold putO; rw [if_neg q1, if_neg a3, if_neg a4, if_neg a5, if_neg a6, if_pos (.inl a)]
    rw [hA]
    conv => whnf
    refine call1 (wire_value (oV o) h3 _) rfl ?_
    conv => whnf
    refine ⟨rfl, ?_, ?_, ?_⟩ <;> (repeat' apply And.intro) <;> first | exact trivial | rfl | assumption
  have a7 : ¬ f = 118 := of_decide_eq_false a
  clear a
  conv => whnf
  refine ⟨fun a => ?_, fun a => ?_⟩
  · have a : f = 119 := of_decide_eq_true a
    conv => whnf
    have hA : putO o f = vaS (oV o) (decide (f = 119)) := by unfold putO; rw [if_neg q1, if_neg a3, if_neg a4, if_neg a5, if_neg a6, if_pos (.inr a)]
    rw [hA]
    conv => whnf
    refine call1 (wire_value (oV o) h3 _) rfl ?_
    conv => whnf
    refine ⟨rfl, ?_, ?_, ?_⟩ <;> (repeat' apply And.intro) <;> first | exact trivial | rfl | assumption
  have a8 : ¬ f = 119 := of_decide_eq_false a
  have q2 : ¬ (f = 118 ∨ f = 119) := fun h => h.elim a7 a8
  clear a
  have a : f = 99 := by rcases hf with h | h | h | h | h | h | h | h | h <;> first | exact h | exact absurd h (by assumption)
  conv => whnf
  refine fk (by simp [a]) ?_
  conv => whnf
  refine fk (by simp [a]) ?_
  conv => whnf
  refine fk (by simp [a]) ?_
  conv => whnf
  refine tk (by simp [a]) ?_
  conv => whnf
  refine ⟨fun b => ?_, fun b => ?_⟩
  · have hA : putO o f = ([1], true) := by unfold putO; rw [if_neg q1, if_neg a3, if_neg a4, if_neg a5, if_neg a6, if_neg q2, if_pos b]
    rw [hA]
    conv => whnf
    refine ⟨rfl, ?_, ?_, ?_⟩ <;> (repeat' apply And.intro) <;> first | exact trivial | rfl | assumption
  · have hA : putO o f = ([0], true) := by unfold putO; rw [if_neg q1, if_neg a3, if_neg a4, if_neg a5, if_neg a6, if_neg q2, if_neg (by rw [b]; decide)]
    rw [hA]
    conv => whnf
    refine ⟨rfl, ?_, ?_, ?_⟩ <;> (repeat' apply And.intro) <;> first | exact trivial | rfl | assumption
end Go.Proofs.YtdhfipjfgigamaaGreatDoor
/- The walks of all, change, of changes. Own work. -/
set_option linter.unusedVariables false
set_option maxRecDepth 100000
namespace Go.Proofs.YtdhfipjfgigamaaGreatDoor
open Go Go.RowKit OE

/-- a kind's byte and its fields -/
def allS (P : Int → List UInt8 × Bool) (k : Int) (l : List UInt8) : List UInt8 × Bool :=
  if (l.all fun f => (P f.toNat).2) = true then (byl [k] ++ l.flatMap (fun f => (P f.toNat).1), true) else ([], false)
theorem flat_len {P : Int → List UInt8 × Bool} {B : Nat} (h : ∀ f, (P f).1.length ≤ B) : ∀ l : List UInt8, (l.flatMap fun f => (P f.toNat).1).length ≤ l.length * B
  | [] => by simp
  | f :: l => by
    have ih := flat_len h l
    have h1 := h f.toNat
    simp only [List.flatMap_cons, List.length_append, List.length_cons, Nat.add_mul, Nat.one_mul]
    omega
theorem wire_allO (o : OD.T) (k : Int) (l : List UInt8) (hl : l.length ≤ 100) (hf : ∀ f ∈ l, fO f.toNat) (hb : ∀ f, (putO o f).1.length ≤ 1000000) (h1 : o.2.2.1.length ≤ 140737488355327) (h2 : o.2.2.2.2.2.1.length ≤ 140737488355327) (h3 : Wf VD (oV o)) :
    FnP Tryz.prog 86 [.c (.int .u8 k), .c (.str l), .agg (plO 0 0)] (obO o) 1 kp0 (paR (allS (putO o) k l)) (obO o) 1 := by
  refine fnP noI Tryz.func86 rfl rfl rfl rfl ?_
  conv => whnf
  refine loop0 (α := Nat) (fun j => j ≤ l.length ∧ ((l.take j).all fun f => (putO o f.toNat).2) = true)
    (fun j => ⟨[(1, .c (.str l)), (5, .c (.ptr 1 0)), (8, .c (.str (byl [k] ++ (l.take j).flatMap fun f => (putO o f.toNat).1))), (16, .c (.int .i64 l.length)), (17, .c (.int .i64 j))], (1, .cells 147 (plO 0 0)) :: obO o, 2⟩) (fun j => l.length - j) ⟨0, ⟨by omega, rfl⟩, ?_⟩ ?_
  · (conv => whnf); refine ⟨rfl, ?_, ?_, ?_⟩ <;> (repeat' apply And.intro) <;> first | exact trivial | rfl | exact wr_succ _ (by omega) | assumption | exact decide_eq_false (by assumption) | exact decide_eq_true (by assumption)
  rintro j ⟨hJ1, hJ2⟩
  conv => whnf
  refine ⟨fun h4 => ?_, fun h4 => ?_⟩
  · have h4 : j < l.length := by simp at h4; omega
    conv => whnf
    refine any0 ?_
    conv => whnf
    refine ⟨by omega, ?_⟩
    conv => whnf
    rw [bt_nat l j h4]
    refine callrp0 [0] rfl rfl rfl (wire_putO o l[j].toNat (hf _ (List.getElem_mem h4)) h1 h2 h3) rfl rfl rfl rfl rfl rfl [0] rfl rfl ?_
    conv => whnf
    refine ⟨.inl (by kernel_rfl), after0 ?_⟩
    conv => whnf
    refine ⟨fun h5 => ?_, fun h5 => ?_⟩
    · have h5 : (putO o l[j].toNat).2 = false := by simpa using h5
      have hA : allS (putO o) k l = ([], false) := if_neg fun h => by
        have := List.all_eq_true.1 h _ (List.getElem_mem h4)
        rw [h5] at this; cases this
      rw [hA]
      conv => whnf
      refine ⟨rfl, ?_, ?_, ?_⟩ <;> (repeat' apply And.intro) <;> first | exact trivial | rfl | assumption
    have h5 : (putO o l[j].toNat).2 = true := by simpa using h5
    have hT : l.take (j + 1) = l.take j ++ [l[j]] := take_step h4
    conv => whnf
    refine ⟨by
      have e1 := flat_len hb (l.take j)
      have e2 := hb l[j].toNat
      have e3 : (l.take j).length * 1000000 ≤ 100 * 1000000 := Nat.mul_le_mul_right _ (by rw [List.length_take]; omega)
      have e4 : (byl [k]).length = 1 := rfl
      rw [List.length_append, e4]
      omega, ?_⟩
    conv => whnf
    refine ⟨j + 1, ⟨⟨by omega, ?_⟩, by omega⟩, ?_⟩
    · rw [hT, List.all_append, hJ2]; simpa using h5
    rw [hT, List.flatMap_append, ← List.append_assoc, show List.flatMap (fun f => (putO o f.toNat).1) [l[j]] = (putO o l[j].toNat).1 from by simp]
    (conv => whnf); refine ⟨rfl, ?_, ?_, ?_⟩ <;> (repeat' apply And.intro) <;> first | exact trivial | rfl | exact wr_succ _ (by omega) | assumption | exact decide_eq_false (by assumption) | exact decide_eq_true (by assumption)
  · have h4 : l.length ≤ j := by simp at h4; omega
    rw [List.take_of_length_le h4] at hJ2 ⊢
    have hA : allS (putO o) k l = (byl [k] ++ l.flatMap (fun f => (putO o f.toNat).1), true) := if_pos hJ2
    rw [hA]
    conv => whnf
    refine ⟨rfl, ?_, ?_, ?_⟩ <;> (repeat' apply And.intro) <;> first | exact trivial | rfl | assumption
end Go.Proofs.YtdhfipjfgigamaaGreatDoor
/- The walk of wire.change. Own work. -/
set_option linter.unusedVariables false
set_option maxRecDepth 100000
namespace Go.Proofs.YtdhfipjfgigamaaGreatDoor
open Go Go.RowKit OE

/-- the fields of each kind of change -/
abbrev opsL : List (List UInt8) := [[], [116], [105, 99], [116, 97, 98], [105], [105, 110, 119]]
def chgS (o : OD.T) : List UInt8 × Bool :=
  if (o.1 : Int) < 0 ∨ (6 : Int) ≤ o.1 ∨ gt (d := .str) opsL o.1 = [] then ([], false)
  else allS (putO o) (IntKind.wrap .u8 o.1) (gt (d := .str) opsL o.1)
instance (f : Int) : Decidable (fO f) := by unfold fO; infer_instance
theorem ops_fin : ∀ n : Fin 6, (opsL.getD n.1 []).length ≤ 100 ∧ ∀ f ∈ opsL.getD n.1 [], fO f.toNat := by decide
theorem ops_ok (k : Int) : (gt (d := .str) opsL k).length ≤ 100 ∧ ∀ f ∈ gt (d := .str) opsL k, fO f.toNat := by
  show (opsL.getD k.toNat []).length ≤ 100 ∧ ∀ f ∈ opsL.getD k.toNat [], fO f.toNat
  rcases Nat.lt_or_ge k.toNat 6 with h | h
  · exact ops_fin ⟨k.toNat, h⟩
  · have : opsL.getD k.toNat [] = [] := by rw [List.getD_eq_getElem?_getD, List.getElem?_eq_none h]; rfl
    rw [this]
    exact ⟨by decide, fun _ h => by cases h⟩
theorem wire_change (o : OD.T) (hb : ∀ f, (putO o f).1.length ≤ 1000000) (h1 : o.2.2.1.length ≤ 140737488355327) (h2 : o.2.2.2.2.2.1.length ≤ 140737488355327) (h3 : Wf VD (oV o)) :
    FnD Tryz.prog 138 [.agg (oc o)] (· = paR (chgS o)) := by
  refine fn0 Tryz.func138 rfl rfl rfl ?_
  conv => whnf
  refine ⟨fun h => ?_, ?_⟩
  · rw [Bool.or_eq_false_iff, decide_eq_false_iff_not, decide_eq_false_iff_not] at h
    exact ⟨⟨Int.not_lt.1 h.1, Int.not_le.1 h.2⟩, Int.not_le.1 h.2⟩
  conv => whnf
  refine ⟨fun a => ?_, fun a => ?_⟩
  · have hA : chgS o = ([], false) := if_pos (by simpa [or_assoc] using a)
    rw [hA]
    conv => whnf
  have a0 : ¬ ((o.1 : Int) < 0 ∨ (6 : Int) ≤ o.1 ∨ gt (d := .str) opsL o.1 = []) := by
    rw [Bool.or_eq_false_iff, Bool.or_eq_false_iff, decide_eq_false_iff_not, decide_eq_false_iff_not, decide_eq_false_iff_not] at a
    rintro (h | h | h)
    · exact a.1.1 h
    · exact a.1.2 h
    · exact a.2 h
  rw [show chgS o = allS (putO o) (IntKind.wrap .u8 o.1) (gt (d := .str) opsL o.1) from if_neg a0]
  have a1 : 0 ≤ (o.1 : Int) := Int.not_lt.1 fun h => a0 (.inl h)
  have a2 : (o.1 : Int) < 6 := Int.not_le.1 fun h => a0 (.inr (.inl h))
  clear a a0
  conv => whnf
  refine any0 ?_
  conv => whnf
  refine ⟨⟨⟨a1, a2⟩, a2⟩, ?_⟩
  conv => whnf
  refine callrp0 [0] rfl rfl rfl (wire_ofOp o) rfl rfl rfl rfl rfl rfl [0] rfl rfl ?_
  conv => whnf
  refine callrp0 [0] rfl rfl rfl (wire_allO o (IntKind.wrap .u8 o.1) (gt (d := .str) opsL o.1) (ops_ok _).1 (ops_ok _).2 hb h1 h2 h3) rfl rfl rfl rfl rfl rfl [0] rfl rfl ?_
  conv => whnf
  refine ⟨.inl (by kernel_rfl), after0 ?_⟩
  conv => whnf
end Go.Proofs.YtdhfipjfgigamaaGreatDoor
/- The walks of place.put, all, bytes, of commands. Own work. -/
set_option linter.unusedVariables false
set_option maxRecDepth 100000
namespace Go.Proofs.YtdhfipjfgigamaaGreatDoor
open Go Go.RowKit OE

/-- where a command's fields stand -/
abbrev plM : List C := [.ptr 0 2, .ptr 0 3, .ptr 0 1, .val (.pointer none), .val (.pointer none), .ptr 0 4, .ptr 0 7, .ptr 0 10, .val (.pointer none), .ptr 0 21, .ptr 0 11]
abbrev obM (m : MD.T) : List (Nat × Ob) := [(0, .cells 30 (mc m))]
def ruS (r : RD.T) : List UInt8 × Bool := (encS r, decide (errS r = 0) && decide (r.1 = 0) && decide (r.2.2.2.2.2.2.2 = 0))
def putM (m : MD.T) (f : Int) : List UInt8 × Bool :=
  if f = 116 ∨ f = 101 then txS (mType m) (decide (f = 101))
  else if f = 110 then txS (mName m) false
  else if f = 105 then nuS m.2.1 0 4611686018427387903
  else if f = 118 ∨ f = 119 then vaS (mV m) (decide (f = 119))
  else if f = 120 then vaS (mTo m) true
  else if f = 107 then nuS (mN m) 1 2
  else if f = 109 then nuS (mN m) 0 1000000
  else if f = 114 then ruS (mRule m)
  else chgS (mOp m)
/-- the fields that a command may have -/
def fM (f : Int) : Prop := f = 116 ∨ f = 101 ∨ f = 110 ∨ f = 105 ∨ f = 118 ∨ f = 119 ∨ f = 120 ∨ f = 107 ∨ f = 109 ∨ f = 114 ∨ f = 111
theorem wire_ofCmd (m : MD.T) : FnP Tryz.prog 87 [.c (.ptr 0 0)] (obM m) 1 kp0 (.agg plM) (obM m) 1 := by
  refine fnP noI Tryz.func87 rfl rfl rfl rfl ?_
  conv => whnf
  refine any0 ?_
  conv => whnf
  refine ⟨.inl (by kernel_rfl), after0 ?_⟩
  conv => whnf
  refine ⟨rfl, ?_, ?_, ?_⟩ <;> (repeat' apply And.intro) <;> first | exact trivial | rfl | assumption
/-- what is small of a command -/
structure SmM (m : MD.T) : Prop where
  ty : (mType m).length ≤ 100000
  nm : (mName m).length ≤ 100000
  v : Wf VD (mV m)
  to : Wf VD (mTo m)
  op : ∀ f, (putO (mOp m) f).1.length ≤ 1000000
  o1 : (mOp m).2.2.1.length ≤ 140737488355327
  o2 : (mOp m).2.2.2.2.2.1.length ≤ 140737488355327
  o3 : Wf VD (oV (mOp m))
theorem wire_putM (m : MD.T) (f : Int) (hf : fM f) (hm : SmM m) : FnP Tryz.prog 114 [.agg plM, .c (.int .u8 f)] (obM m) 1 kp0 (paR (putM m f)) (obM m) 1 := by
  have h1 : (mType m).length ≤ 140737488355327 := Nat.le_trans hm.ty (by decide)
  have h2 : (mName m).length ≤ 140737488355327 := Nat.le_trans hm.nm (by decide)
  refine fnP noI Tryz.func114 rfl rfl rfl rfl ?_
  conv => whnf
  refine ⟨fun a => ?_, fun a => ?_⟩
  · have a : f = 116 := of_decide_eq_true a
    conv => whnf
    have hA : putM m f = txS (mType m) (decide (f = 101)) := by unfold putM; exact if_pos (.inl a)
    rw [hA]
    conv => whnf
    refine call1 (wire_text (mType m) h1 _) rfl ?_
    conv => whnf
    refine ⟨rfl, ?_, ?_, ?_⟩ <;> (repeat' apply And.intro) <;> first | exact trivial | rfl | assumption
  have a1 : ¬ f = 116 := of_decide_eq_false a
  clear a
  conv => whnf
  refine ⟨fun a => ?_, fun a => ?_⟩
  · have a : f = 101 := of_decide_eq_true a
    conv => whnf
    have hA : putM m f = txS (mType m) (decide (f = 101)) := by unfold putM; exact if_pos (.inr a)
    rw [hA]
    conv => whnf
    refine call1 (wire_text (mType m) h1 _) rfl ?_
    conv => whnf
    refine ⟨rfl, ?_, ?_, ?_⟩ <;> (repeat' apply And.intro) <;> first | exact trivial | rfl | assumption
  have a2 : ¬ f = 101 := of_decide_eq_false a
  have q1 : ¬ (f = 116 ∨ f = 101) := fun h => h.elim a1 a2
  clear a
  conv => whnf
  refine ⟨fun a => ?_, fun a => ?_⟩
  · have a : f = 110 := of_decide_eq_true a
    conv => whnf
    have hA : putM m f = txS (mName m) false := by unfold putM; rw [if_neg q1, if_pos a]
    rw [hA]
    conv => whnf
    refine call1 (wire_text (mName m) h2 _) rfl ?_
    conv => whnf
    refine ⟨rfl, ?_, ?_, ?_⟩ <;> (repeat' apply And.intro) <;> first | exact trivial | rfl | assumption
  have a3 : ¬ f = 110 := of_decide_eq_false a
  clear a
  conv => whnf
  refine ⟨fun a => ?_, fun a => ?_⟩
  · have a : f = 105 := of_decide_eq_true a
    conv => whnf
    have hA : putM m f = nuS m.2.1 0 4611686018427387903 := by unfold putM; rw [if_neg q1, if_neg a3, if_pos a]
    rw [hA]
    conv => whnf
    refine call1 (wire_number _ _ _) rfl ?_
    conv => whnf
    refine ⟨rfl, ?_, ?_, ?_⟩ <;> (repeat' apply And.intro) <;> first | exact trivial | rfl | assumption
  have a4 : ¬ f = 105 := of_decide_eq_false a
  have n1 : ¬ f = 97 := fun e => by rcases hf with h | h | h | h | h | h | h | h | h | h | h <;> rw [h] at e <;> exact absurd e (by decide)
  have n2 : ¬ f = 98 := fun e => by rcases hf with h | h | h | h | h | h | h | h | h | h | h <;> rw [h] at e <;> exact absurd e (by decide)
  have n3 : ¬ f = 99 := fun e => by rcases hf with h | h | h | h | h | h | h | h | h | h | h <;> rw [h] at e <;> exact absurd e (by decide)
  clear a
  conv => whnf
  refine fk (decide_eq_false n1) ?_
  conv => whnf
  refine fk (decide_eq_false n2) ?_
  conv => whnf
  refine ⟨fun a => ?_, fun a => ?_⟩
  · have a : f = 118 := of_decide_eq_true a
    conv => whnf
    have hA : putM m f = vaS (mV m) (decide (f = 119)) := by unfold putM; rw [if_neg q1, if_neg a3, if_neg a4, if_pos (.inl a)]
    rw [hA]
    conv => whnf
    refine call1 (wire_value (mV m) hm.v _) rfl ?_
    conv => whnf
    refine ⟨rfl, ?_, ?_, ?_⟩ <;> (repeat' apply And.intro) <;> first | exact trivial | rfl | assumption
  have a7 : ¬ f = 118 := of_decide_eq_false a
  clear a
  conv => whnf
  refine ⟨fun a => ?_, fun a => ?_⟩
  · have a : f = 119 := of_decide_eq_true a
    conv => whnf
    have hA : putM m f = vaS (mV m) (decide (f = 119)) := by unfold putM; rw [if_neg q1, if_neg a3, if_neg a4, if_pos (.inr a)]
    rw [hA]
    conv => whnf
    refine call1 (wire_value (mV m) hm.v _) rfl ?_
    conv => whnf
    refine ⟨rfl, ?_, ?_, ?_⟩ <;> (repeat' apply And.intro) <;> first | exact trivial | rfl | assumption
  have a8 : ¬ f = 119 := of_decide_eq_false a
  have q2 : ¬ (f = 118 ∨ f = 119) := fun h => h.elim a7 a8
  clear a
  conv => whnf
  refine ⟨fun a => ?_, fun a => ?_⟩
  · have a : f = 120 := of_decide_eq_true a
    conv => whnf
    have hA : putM m f = vaS (mTo m) true := by unfold putM; rw [if_neg q1, if_neg a3, if_neg a4, if_neg q2, if_pos a]
    rw [hA]
    conv => whnf
    refine call1 (wire_value (mTo m) hm.to _) rfl ?_
    conv => whnf
    refine ⟨rfl, ?_, ?_, ?_⟩ <;> (repeat' apply And.intro) <;> first | exact trivial | rfl | assumption
  have a9 : ¬ f = 120 := of_decide_eq_false a
  clear a
  conv => whnf
  refine ⟨fun a => ?_, fun a => ?_⟩
  · have a : f = 107 := of_decide_eq_true a
    conv => whnf
    have hA : putM m f = nuS (mN m) 1 2 := by unfold putM; rw [if_neg q1, if_neg a3, if_neg a4, if_neg q2, if_neg a9, if_pos a]
    rw [hA]
    conv => whnf
    refine call1 (wire_number _ _ _) rfl ?_
    conv => whnf
    refine ⟨rfl, ?_, ?_, ?_⟩ <;> (repeat' apply And.intro) <;> first | exact trivial | rfl | assumption
  have a10 : ¬ f = 107 := of_decide_eq_false a
  clear a
  conv => whnf
  refine ⟨fun a => ?_, fun a => ?_⟩
  · have a : f = 109 := of_decide_eq_true a
    conv => whnf
    have hA : putM m f = nuS (mN m) 0 1000000 := by unfold putM; rw [if_neg q1, if_neg a3, if_neg a4, if_neg q2, if_neg a9, if_neg a10, if_pos a]
    rw [hA]
    conv => whnf
    refine call1 (wire_number _ _ _) rfl ?_
    conv => whnf
    refine ⟨rfl, ?_, ?_, ?_⟩ <;> (repeat' apply And.intro) <;> first | exact trivial | rfl | assumption
  have a11 : ¬ f = 109 := of_decide_eq_false a
  clear a
  conv => whnf
  refine fk (decide_eq_false n3) ?_
  conv => whnf
  refine ⟨fun a => ?_, fun a => ?_⟩
  · have a : f = 114 := of_decide_eq_true a
    have hA : putM m f = ruS (mRule m) := by unfold putM; rw [if_neg q1, if_neg a3, if_neg a4, if_neg q2, if_neg a9, if_neg a10, if_neg a11, if_pos a]
    rw [hA]
    conv => whnf
    refine call1 (rule_Encode (mRule m)) rfl ?_
    conv => whnf
    refine any0 ?_
    conv => whnf
    refine ⟨.inl (by kernel_rfl), after0 ?_⟩
    conv => whnf
    refine ⟨rfl, ?_, ?_, ?_⟩ <;> (repeat' apply And.intro) <;> first | exact trivial | rfl | assumption
  have a12 : ¬ f = 114 := of_decide_eq_false a
  conv => whnf
  have hA : putM m f = chgS (mOp m) := by unfold putM; rw [if_neg q1, if_neg a3, if_neg a4, if_neg q2, if_neg a9, if_neg a10, if_neg a11, if_neg a12]
  rw [hA]
  conv => whnf
  refine call1 (wire_change (mOp m) hm.op hm.o1 hm.o2 hm.o3) rfl ?_
  conv => whnf
  refine ⟨rfl, ?_, ?_, ?_⟩ <;> (repeat' apply And.intro) <;> first | exact trivial | rfl | assumption
theorem wire_allM (m : MD.T) (k : Int) (l : List UInt8) (hl : l.length ≤ 100) (hf : ∀ f ∈ l, fM f.toNat) (hb : ∀ f, (putM m f).1.length ≤ 1000000) (hm : SmM m) :
    FnP Tryz.prog 86 [.c (.int .u8 k), .c (.str l), .agg plM] (obM m) 1 kp0 (paR (allS (putM m) k l)) (obM m) 1 := by
  refine fnP noI Tryz.func86 rfl rfl rfl rfl ?_
  conv => whnf
  refine loop0 (α := Nat) (fun j => j ≤ l.length ∧ ((l.take j).all fun f => (putM m f.toNat).2) = true)
    (fun j => ⟨[(1, .c (.str l)), (5, .c (.ptr 1 0)), (8, .c (.str (byl [k] ++ (l.take j).flatMap fun f => (putM m f.toNat).1))), (16, .c (.int .i64 l.length)), (17, .c (.int .i64 j))], (1, .cells 147 (plM)) :: obM m, 2⟩) (fun j => l.length - j) ⟨0, ⟨by omega, rfl⟩, ?_⟩ ?_
  · (conv => whnf); refine ⟨rfl, ?_, ?_, ?_⟩ <;> (repeat' apply And.intro) <;> first | exact trivial | rfl | exact wr_succ _ (by omega) | assumption | exact decide_eq_false (by assumption) | exact decide_eq_true (by assumption)
  rintro j ⟨hJ1, hJ2⟩
  conv => whnf
  refine ⟨fun h4 => ?_, fun h4 => ?_⟩
  · have h4 : j < l.length := by simp at h4; omega
    conv => whnf
    refine any0 ?_
    conv => whnf
    refine ⟨by omega, ?_⟩
    conv => whnf
    rw [bt_nat l j h4]
    refine callrp0 [0] rfl rfl rfl (wire_putM m l[j].toNat (hf _ (List.getElem_mem h4)) hm) rfl rfl rfl rfl rfl rfl [0] rfl rfl ?_
    conv => whnf
    refine ⟨.inl (by kernel_rfl), after0 ?_⟩
    conv => whnf
    refine ⟨fun h5 => ?_, fun h5 => ?_⟩
    · have h5 : (putM m l[j].toNat).2 = false := by simpa using h5
      have hA : allS (putM m) k l = ([], false) := if_neg fun h => by
        have := List.all_eq_true.1 h _ (List.getElem_mem h4)
        rw [h5] at this; cases this
      rw [hA]
      conv => whnf
      refine ⟨rfl, ?_, ?_, ?_⟩ <;> (repeat' apply And.intro) <;> first | exact trivial | rfl | assumption
    have h5 : (putM m l[j].toNat).2 = true := by simpa using h5
    have hT : l.take (j + 1) = l.take j ++ [l[j]] := take_step h4
    conv => whnf
    refine ⟨by
      have e1 := flat_len hb (l.take j)
      have e2 := hb l[j].toNat
      have e3 : (l.take j).length * 1000000 ≤ 100 * 1000000 := Nat.mul_le_mul_right _ (by rw [List.length_take]; omega)
      have e4 : (byl [k]).length = 1 := rfl
      rw [List.length_append, e4]
      omega, ?_⟩
    conv => whnf
    refine ⟨j + 1, ⟨⟨by omega, ?_⟩, by omega⟩, ?_⟩
    · rw [hT, List.all_append, hJ2]; simpa using h5
    rw [hT, List.flatMap_append, ← List.append_assoc, show List.flatMap (fun f => (putM m f.toNat).1) [l[j]] = (putM m l[j].toNat).1 from by simp]
    (conv => whnf); refine ⟨rfl, ?_, ?_, ?_⟩ <;> (repeat' apply And.intro) <;> first | exact trivial | rfl | exact wr_succ _ (by omega) | assumption | exact decide_eq_false (by assumption) | exact decide_eq_true (by assumption)
  · have h4 : l.length ≤ j := by simp at h4; omega
    rw [List.take_of_length_le h4] at hJ2 ⊢
    have hA : allS (putM m) k l = (byl [k] ++ l.flatMap (fun f => (putM m f.toNat).1), true) := if_pos hJ2
    rw [hA]
    conv => whnf
    refine ⟨rfl, ?_, ?_, ?_⟩ <;> (repeat' apply And.intro) <;> first | exact trivial | rfl | assumption
/-- the fields of each kind of command -/
abbrev cmdL : List (List UInt8) := [[], [], [], [], [110], [110], [111], [105], [105], [105, 101], [105, 101], [116], [116, 110, 118], [116, 110, 119, 120], [116, 107], [116, 107], [114], [109], [116, 110], [116, 110], []]
instance (f : Int) : Decidable (fM f) := by unfold fM; infer_instance
theorem cmd_fin : ∀ n : Fin 21, (cmdL.getD n.1 []).length ≤ 100 ∧ ∀ f ∈ cmdL.getD n.1 [], fM f.toNat := by decide
theorem cmd_ok (k : Int) : (gt (d := .str) cmdL k).length ≤ 100 ∧ ∀ f ∈ gt (d := .str) cmdL k, fM f.toNat := by
  show (cmdL.getD k.toNat []).length ≤ 100 ∧ ∀ f ∈ cmdL.getD k.toNat [], fM f.toNat
  rcases Nat.lt_or_ge k.toNat 21 with h | h
  · exact cmd_fin ⟨k.toNat, h⟩
  · have : cmdL.getD k.toNat [] = [] := by rw [List.getD_eq_getElem?_getD, List.getElem?_eq_none h]; rfl
    rw [this]
    exact ⟨by decide, fun _ h => by cases h⟩
def knownM (k : Int) : Bool := decide (1 ≤ k) && decide (k < 21)
theorem wire_known (k : Int) : FnD Tryz.prog 85 [.c (.int .i64 k)] (· = .c (.bool (.sym (knownM k)))) := by
  refine fn0 Tryz.func85 rfl rfl rfl ?_
  conv => whnf
  rfl
/-- the bytes of a command, but for the fields that it has not -/
def bytM (m : MD.T) : List UInt8 × Bool := if knownM m.1 = false then ([], false) else allS (putM m) (IntKind.wrap .u8 m.1) (gt (d := .str) cmdL m.1)
theorem wire_bytes (m : MD.T) (hb : ∀ f, (putM m f).1.length ≤ 1000000) (hm : SmM m) : FnD Tryz.prog 56 [.agg (mc m)] (· = paR (bytM m)) := by
  refine fn0 Tryz.func56 rfl rfl rfl ?_
  conv => whnf
  refine call1 (wire_known m.1) rfl ?_
  conv => whnf
  refine ⟨fun a => ?_, fun a => ?_⟩
  · rw [show bytM m = ([], false) from if_pos (by simpa using a)]
    conv => whnf
  have a : knownM m.1 = true := by simpa using a
  rw [show bytM m = allS (putM m) (IntKind.wrap .u8 m.1) (gt (d := .str) cmdL m.1) from if_neg (by rw [a]; decide)]
  have a1 : 1 ≤ (m.1 : Int) ∧ (m.1 : Int) < 21 := by simpa [knownM] using a
  have a2 : 0 ≤ (m.1 : Int) := Int.le_trans (by decide) a1.1
  clear a
  conv => whnf
  refine any0 ?_
  conv => whnf
  refine ⟨⟨⟨a2, a1.2⟩, a1.2⟩, ?_⟩
  conv => whnf
  refine callrp0 [0] rfl rfl rfl (wire_ofCmd m) rfl rfl rfl rfl rfl rfl [0] rfl rfl ?_
  conv => whnf
  refine callrp0 [0] rfl rfl rfl (wire_allM m (IntKind.wrap .u8 m.1) (gt (d := .str) cmdL m.1) (cmd_ok _).1 (cmd_ok _).2 hb hm) rfl rfl rfl rfl rfl rfl [0] rfl rfl ?_
  conv => whnf
  refine ⟨.inl (by kernel_rfl), after0 ?_⟩
  conv => whnf
end Go.Proofs.YtdhfipjfgigamaaGreatDoor
/- The walk of place.get, of a change's fields. Own work. -/
set_option linter.unusedVariables false
set_option maxRecDepth 100000
namespace Go.Proofs.YtdhfipjfgigamaaGreatDoor
open Go Go.RowKit OE

def idN (n : Nat) : Int := IntKind.wrap .i64 (bits .and .u64 (n : Int) 4611686018427387903)
def sO (m : MD.T) (o : OD.T) : MD.T := (m.1, m.2.1, m.2.2.1, m.2.2.2.1, m.2.2.2.2.1, m.2.2.2.2.2.1, m.2.2.2.2.2.2.1, o, m.2.2.2.2.2.2.2.2)
/-- what is got: a text, a number, a value -/
def tS (s : List UInt8) (k : Int) : List UInt8 × Nat := (Num.getT s k 16).getD ([], 0)
def nS (s : List UInt8) (k : Int) : Nat × Nat := (Num.getN s k).getD (0, 0)
def vS' (s : List UInt8) (k : Int) : VD.T × Nat := (decV s k).getD (V0, 0)
def oT (o : OD.T) (t : List UInt8) : OD.T := (o.1, o.2.1, t, o.2.2.2)
def oN (o : OD.T) (t : List UInt8) : OD.T := (o.1, o.2.1, o.2.2.1, o.2.2.2.1, o.2.2.2.2.1, t, o.2.2.2.2.2.2)
def oI (o : OD.T) (n : Int) : OD.T := (o.1, n, o.2.2)
def oF (o : OD.T) (n : Int) : OD.T := (o.1, o.2.1, o.2.2.1, n, o.2.2.2.2)
def oE (o : OD.T) (n : Int) : OD.T := (o.1, o.2.1, o.2.2.1, o.2.2.2.1, n, o.2.2.2.2.2)
def oVl (o : OD.T) (v : VD.T) : OD.T := (o.1, o.2.1, o.2.2.1, o.2.2.2.1, o.2.2.2.2.1, o.2.2.2.2.2.1, v, o.2.2.2.2.2.2.2)
def oC (o : OD.T) (b : Bool) : OD.T := (o.1, o.2.1, o.2.2.1, o.2.2.2.1, o.2.2.2.2.1, o.2.2.2.2.2.1, o.2.2.2.2.2.2.1, b)
def gO (o : OD.T) (f : Int) (s : List UInt8) (k : Int) : OD.T × Int × Bool :=
  if f = 116 ∨ f = 101 then (oT o (tS s k).1, ((tS s k).2 : Int), (Num.getT s k 16).isSome)
  else if f = 110 then (oN o (tS s k).1, ((tS s k).2 : Int), (Num.getT s k 16).isSome)
  else if f = 105 then (oI o (idN (nS s k).1), ((nS s k).2 : Int), (Num.getN s k).isSome)
  else if f = 97 then (oF o (idN (nS s k).1), ((nS s k).2 : Int), (Num.getN s k).isSome)
  else if f = 98 then (oE o (idN (nS s k).1), ((nS s k).2 : Int), (Num.getN s k).isSome)
  else if f = 118 ∨ f = 119 then (oVl o (vS' s k).1, ((vS' s k).2 : Int), (decV s k).isSome)
  else if k < s.length then (oC o (decide (bt s k = 1)), 1, true)
  else (o, 0, false)
abbrev geR (n : Int) (b : Bool) : SV := .tup [(false, [.int .i64 n]), (false, [.bool (.sym b)])]
theorem wire_getO (m : MD.T) (f : Int) (hf : fO f) (s : List UInt8) (hs : s.length ≤ 100000000) (k : Int) (h0 : 0 ≤ k) :
    FnP Tryz.prog 115 [.agg (plO 0 11), .c (.int .u8 f), .c (.str s), .c (.int .i64 k)] (obM m) 1 kp0 (geR (gO (mOp m) f s k).2.1 (gO (mOp m) f s k).2.2) (obM (sO m (gO (mOp m) f s k).1)) 1 := by
  refine fnP noI Tryz.func115 rfl rfl rfl rfl ?_
  conv => whnf
  refine ⟨fun a => ?_, fun a => ?_⟩
  · have a : f = 116 := of_decide_eq_true a
    have hA : gO (mOp m) f s k = (oT (mOp m) (tS s k).1, ((tS s k).2 : Int), (Num.getT s k 16).isSome) := by unfold gO; exact if_pos (.inl a)
    rw [hA]
    conv => whnf
    refine any0 ?_
    conv => whnf
    refine callr0 (num_GetText s k 16 (Nat.le_trans hs (by decide)) (by decide)) rfl ?_
    conv => whnf
    refine ⟨.inl (by kernel_rfl), after0 ?_⟩
    conv => whnf
    refine ⟨rfl, ?_, ?_, ?_⟩ <;> (repeat' apply And.intro) <;> first | exact trivial | rfl | assumption
  have a1 : ¬ f = 116 := of_decide_eq_false a
  clear a
  conv => whnf
  refine ⟨fun a => ?_, fun a => ?_⟩
  · have a : f = 101 := of_decide_eq_true a
    have hA : gO (mOp m) f s k = (oT (mOp m) (tS s k).1, ((tS s k).2 : Int), (Num.getT s k 16).isSome) := by unfold gO; exact if_pos (.inr a)
    rw [hA]
    conv => whnf
    refine any0 ?_
    conv => whnf
    refine callr0 (num_GetText s k 16 (Nat.le_trans hs (by decide)) (by decide)) rfl ?_
    conv => whnf
    refine ⟨.inl (by kernel_rfl), after0 ?_⟩
    conv => whnf
    refine ⟨rfl, ?_, ?_, ?_⟩ <;> (repeat' apply And.intro) <;> first | exact trivial | rfl | assumption
  have a2 : ¬ f = 101 := of_decide_eq_false a
  have q1 : ¬ (f = 116 ∨ f = 101) := fun h => h.elim a1 a2
  clear a
  conv => whnf
  refine ⟨fun a => ?_, fun a => ?_⟩
  · have a : f = 110 := of_decide_eq_true a
    have hA : gO (mOp m) f s k = (oN (mOp m) (tS s k).1, ((tS s k).2 : Int), (Num.getT s k 16).isSome) := by unfold gO; rw [if_neg q1, if_pos a]
    rw [hA]
    conv => whnf
    refine any0 ?_
    conv => whnf
    refine callr0 (num_GetText s k 16 (Nat.le_trans hs (by decide)) (by decide)) rfl ?_
    conv => whnf
    refine ⟨.inl (by kernel_rfl), after0 ?_⟩
    conv => whnf
    refine ⟨rfl, ?_, ?_, ?_⟩ <;> (repeat' apply And.intro) <;> first | exact trivial | rfl | assumption
  have a3 : ¬ f = 110 := of_decide_eq_false a
  clear a
  conv => whnf
  refine ⟨fun a => ?_, fun a => ?_⟩
  · have a : f = 105 := of_decide_eq_true a
    have hA : gO (mOp m) f s k = (oI (mOp m) (idN (nS s k).1), ((nS s k).2 : Int), (Num.getN s k).isSome) := by unfold gO; rw [if_neg q1, if_neg a3, if_pos a]
    rw [hA]
    conv => whnf
    refine call1 (num_Get s k (Nat.le_trans hs (by decide))) rfl ?_
    conv => whnf
    refine fk (by rw [a]; rfl) ?_
    conv => whnf
    refine fk (by rw [a]; rfl) ?_
    conv => whnf
    refine ⟨rfl, ?_, ?_, ?_⟩ <;> (repeat' apply And.intro) <;> first | exact trivial | rfl | assumption
  have a4 : ¬ f = 105 := of_decide_eq_false a
  clear a
  conv => whnf
  refine ⟨fun a => ?_, fun a => ?_⟩
  · have a : f = 97 := of_decide_eq_true a
    have hA : gO (mOp m) f s k = (oF (mOp m) (idN (nS s k).1), ((nS s k).2 : Int), (Num.getN s k).isSome) := by unfold gO; rw [if_neg q1, if_neg a3, if_neg a4, if_pos a]
    rw [hA]
    conv => whnf
    refine call1 (num_Get s k (Nat.le_trans hs (by decide))) rfl ?_
    conv => whnf
    refine tk (by rw [a]; rfl) ?_
    conv => whnf
    refine ⟨rfl, ?_, ?_, ?_⟩ <;> (repeat' apply And.intro) <;> first | exact trivial | rfl | assumption
  have a5 : ¬ f = 97 := of_decide_eq_false a
  clear a
  conv => whnf
  refine ⟨fun a => ?_, fun a => ?_⟩
  · have a : f = 98 := of_decide_eq_true a
    have hA : gO (mOp m) f s k = (oE (mOp m) (idN (nS s k).1), ((nS s k).2 : Int), (Num.getN s k).isSome) := by unfold gO; rw [if_neg q1, if_neg a3, if_neg a4, if_neg a5, if_pos a]
    rw [hA]
    conv => whnf
    refine call1 (num_Get s k (Nat.le_trans hs (by decide))) rfl ?_
    conv => whnf
    refine fk (by rw [a]; rfl) ?_
    conv => whnf
    refine tk (by rw [a]; rfl) ?_
    conv => whnf
    refine ⟨rfl, ?_, ?_, ?_⟩ <;> (repeat' apply And.intro) <;> first | exact trivial | rfl | assumption
  have a6 : ¬ f = 98 := of_decide_eq_false a
  clear a
  conv => whnf
  refine ⟨fun a => ?_, fun a => ?_⟩
  · have a : f = 118 := of_decide_eq_true a
    have hA : gO (mOp m) f s k = (oVl (mOp m) (vS' s k).1, ((vS' s k).2 : Int), (decV s k).isSome) := by unfold gO; rw [if_neg q1, if_neg a3, if_neg a4, if_neg a5, if_neg a6, if_pos (.inl a)]
    rw [hA]
    conv => whnf
    refine any0 ?_
    conv => whnf
    refine callr0 (val_Decode s k hs) rfl ?_
    conv => whnf
    refine ⟨.inl (by kernel_rfl), after0 ?_⟩
    conv => whnf
    refine ⟨rfl, ?_, ?_, ?_⟩ <;> (repeat' apply And.intro) <;> first | exact trivial | rfl | assumption
  have a7 : ¬ f = 118 := of_decide_eq_false a
  clear a
  conv => whnf
  refine ⟨fun a => ?_, fun a => ?_⟩
  · have a : f = 119 := of_decide_eq_true a
    have hA : gO (mOp m) f s k = (oVl (mOp m) (vS' s k).1, ((vS' s k).2 : Int), (decV s k).isSome) := by unfold gO; rw [if_neg q1, if_neg a3, if_neg a4, if_neg a5, if_neg a6, if_pos (.inr a)]
    rw [hA]
    conv => whnf
    refine any0 ?_
    conv => whnf
    refine callr0 (val_Decode s k hs) rfl ?_
    conv => whnf
    refine ⟨.inl (by kernel_rfl), after0 ?_⟩
    conv => whnf
    refine ⟨rfl, ?_, ?_, ?_⟩ <;> (repeat' apply And.intro) <;> first | exact trivial | rfl | assumption
  have a8 : ¬ f = 119 := of_decide_eq_false a
  have q2 : ¬ (f = 118 ∨ f = 119) := fun h => h.elim a7 a8
  clear a
  have a : f = 99 := by rcases hf with h | h | h | h | h | h | h | h | h <;> first | exact h | exact absurd h (by assumption)
  conv => whnf
  refine fk (by rw [a]; rfl) ?_
  conv => whnf
  refine fk (by rw [a]; rfl) ?_
  conv => whnf
  refine fk (by rw [a]; rfl) ?_
  conv => whnf
  refine tk (by rw [a]; rfl) ?_
  conv => whnf
  refine ⟨fun b => ?_, fun b => ?_⟩
  · have b : k < s.length := of_decide_eq_true b
    have hA : gO (mOp m) f s k = (oC (mOp m) (decide (bt s k = 1)), 1, true) := by unfold gO; rw [if_neg q1, if_neg a3, if_neg a4, if_neg a5, if_neg a6, if_neg q2, if_pos b]
    rw [hA]
    conv => whnf
    refine any0 ?_
    conv => whnf
    refine ⟨⟨h0, b⟩, ?_⟩
    conv => whnf
    refine ⟨.inl (by kernel_rfl), after0 ?_⟩
    conv => whnf
    refine ⟨rfl, ?_, ?_, ?_⟩ <;> (repeat' apply And.intro) <;> first | exact trivial | rfl | assumption
  · have b : ¬ k < s.length := of_decide_eq_false b
    have hA : gO (mOp m) f s k = (mOp m, 0, false) := by unfold gO; rw [if_neg q1, if_neg a3, if_neg a4, if_neg a5, if_neg a6, if_neg q2, if_neg b]
    rw [hA]
    conv => whnf
    refine ⟨rfl, ?_, ?_, ?_⟩ <;> (repeat' apply And.intro) <;> first | exact trivial | rfl | assumption
end Go.Proofs.YtdhfipjfgigamaaGreatDoor
/- The walks of place.fields and place.change, of a change's fields. Own work. -/
set_option linter.unusedVariables false
set_option maxRecDepth 100000
namespace Go.Proofs.YtdhfipjfgigamaaGreatDoor
open Go Go.RowKit OE

/-- fields, one behind the other -/
def fldS (G : MD.T → Int → Int → MD.T × Int × Bool) : List UInt8 → MD.T → Int → Int → MD.T × Int × Bool
  | [], m, _, z => (m, z, true)
  | f :: l, m, k, z => if (G m f.toNat (k + z)).2.2 = true then fldS G l (G m f.toNat (k + z)).1 k (z + (G m f.toNat (k + z)).2.1) else ((G m f.toNat (k + z)).1, 0, false)
def goM (s : List UInt8) (m : MD.T) (f k : Int) : MD.T × Int × Bool := (sO m (gO (mOp m) f s k).1, (gO (mOp m) f s k).2.1, (gO (mOp m) f s k).2.2)
theorem nS_bd {s : List UInt8} {k : Int} (h : (Num.getN s k).isSome = true) : k + ((nS s k).2 : Int) ≤ s.length := by
  unfold nS
  cases hg : Num.getN s k with
  | none => rw [hg] at h; cases h
  | some p =>
    obtain ⟨n, i⟩ := p
    have := Num.getN_bd hg
    simp only [Option.getD_some]
    omega
theorem tS_bd {s : List UInt8} {k : Int} (h : (Num.getT s k 16).isSome = true) : k + ((tS s k).2 : Int) ≤ s.length := by
  unfold tS
  cases hg : Num.getT s k 16 with
  | none => rw [hg] at h; cases h
  | some p =>
    obtain ⟨n, i⟩ := p
    have := getT_bd hg
    simp only [Option.getD_some]
    omega
theorem vS_bd {s : List UInt8} {k : Int} (h : (decV s k).isSome = true) : k + ((vS' s k).2 : Int) ≤ s.length := by
  unfold vS'
  unfold decV at h ⊢
  split at h
  · cases h
  · rename_i hk
    rw [if_neg hk]
    unfold decB at h ⊢
    have hk' : 0 ≤ k ∧ k < s.length := by omega
    split
    · simp; omega
    · split
      · split
        · simp; omega
        · simp_all
      · split
        · cases hg : Num.getN s (k + 1) with
          | none => simp_all
          | some p =>
            obtain ⟨n, i⟩ := p
            have := Num.getN_bd hg
            simp; omega
        · split
          · cases hg : Num.getT s (k + 1) 1024 with
            | none => simp_all
            | some p =>
              obtain ⟨n, i⟩ := p
              have := getT_bd hg
              simp; omega
          · simp_all
theorem gO_bd {o : OD.T} {f : Int} {s : List UInt8} {k : Int} (h0 : 0 ≤ k) (h : (gO o f s k).2.2 = true) : 0 ≤ (gO o f s k).2.1 ∧ k + (gO o f s k).2.1 ≤ s.length := by
  generalize hr : gO o f s k = r at h ⊢
  unfold gO at hr
  repeat' split at hr
  all_goals subst hr
  all_goals first | exact ⟨Int.natCast_nonneg _, tS_bd h⟩ | exact ⟨Int.natCast_nonneg _, nS_bd h⟩ | exact ⟨Int.natCast_nonneg _, vS_bd h⟩ | (dsimp only at h ⊢; constructor <;> omega) | cases h
theorem goM_bd {s : List UInt8} {m : MD.T} {f k : Int} (h0 : 0 ≤ k) (h1 : k ≤ s.length) (h : (goM s m f k).2.2 = true) : 0 ≤ (goM s m f k).2.1 ∧ k + (goM s m f k).2.1 ≤ s.length := gO_bd h0 h
theorem wnt {b : Bool} (h : (!b) = true) : b = false := by cases b <;> simp_all
theorem wnf {b : Bool} (h : (!b) = false) : b = true := by cases b <;> simp_all
theorem wire_fldO (m : MD.T) (l : List UInt8) (hl : l.length ≤ 100) (hf : ∀ f ∈ l, fO f.toNat) (s : List UInt8) (hs : s.length ≤ 100000000) (k : Int) (h0 : 0 ≤ k) (h1 : k ≤ s.length) :
    FnP Tryz.prog 88 [.agg (plO 0 11), .c (.str l), .c (.str s), .c (.int .i64 k)] (obM m) 1 kp0 (geR (fldS (goM s) l m k 0).2.1 (fldS (goM s) l m k 0).2.2) (obM (fldS (goM s) l m k 0).1) 1 := by
  refine fnP noI Tryz.func88 rfl rfl rfl rfl ?_
  conv => whnf
  refine loop0 (α := Nat × MD.T × Int) (fun p => p.1 ≤ l.length ∧ 0 ≤ p.2.2 ∧ k + p.2.2 ≤ s.length ∧ fldS (goM s) l m k 0 = fldS (goM s) (l.drop p.1) p.2.1 k p.2.2)
    (fun p => ⟨[(1, .c (.str l)), (2, .c (.str s)), (3, .c (.int .i64 k)), (4, .c (.ptr 1 0)), (8, .c (.int .i64 p.2.2)), (14, .c (.int .i64 l.length)), (15, .c (.int .i64 p.1))], (1, .cells 147 (plO 0 11)) :: obM p.2.1, 2⟩) (fun p => l.length - p.1) ⟨(0, m, 0), ⟨by dsimp only; omega, Int.le_refl _, by dsimp only; omega, rfl⟩, ?_⟩ ?_
  · (conv => whnf); refine ⟨rfl, ?_, ?_, ?_⟩ <;> (repeat' apply And.intro) <;> first | exact trivial | rfl | exact wr_succ _ (by omega) | assumption | exact decide_eq_false (by assumption) | exact decide_eq_true (by assumption)
  rintro ⟨j, m', z⟩ ⟨hJ1, hJ2, hJ3, hJ4⟩
  dsimp only at hJ1 hJ2 hJ3 hJ4 ⊢
  conv => whnf
  refine ⟨fun h4 => ?_, fun h4 => ?_⟩
  · have h4 : j < l.length := by simp at h4; omega
    have hS : fldS (goM s) (l.drop j) m' k z = (if ((goM s) m' l[j].toNat (k + z)).2.2 = true then fldS (goM s) (l.drop (j + 1)) ((goM s) m' l[j].toNat (k + z)).1 k (z + ((goM s) m' l[j].toNat (k + z)).2.1) else (((goM s) m' l[j].toNat (k + z)).1, 0, false)) := by
      rw [List.drop_eq_getElem_cons h4]; rfl
    rw [hS] at hJ4
    have hk : IntKind.wrap .i64 (k + z) = k + z := wr64 _ (by omega) (by omega)
    have hGB : ((goM s) m' l[j].toNat (k + z)).2.2 = true → 0 ≤ ((goM s) m' l[j].toNat (k + z)).2.1 ∧ (k + z) + ((goM s) m' l[j].toNat (k + z)).2.1 ≤ s.length := fun h => goM_bd (by omega) (by omega) h
    conv => whnf
    refine any0 ?_
    conv => whnf
    refine ⟨by omega, ?_⟩
    conv => whnf
    rw [bt_nat l j h4, hk]
    refine callrp0 [0] rfl rfl rfl (wire_getO m' l[j].toNat (hf _ (List.getElem_mem h4)) s hs (k + z) (by omega)) rfl rfl rfl rfl rfl rfl [] rfl rfl ?_
    conv => whnf
    refine ⟨.inl (by kernel_rfl), after0 ?_⟩
    conv => whnf
    refine ⟨fun h5 => ?_, fun h5 => ?_⟩
    · have h5 : ((goM s) m' l[j].toNat (k + z)).2.2 = false := wnt h5
      rw [if_neg (by rw [h5]; decide)] at hJ4
      rw [hJ4]
      conv => whnf
      refine ⟨rfl, ?_, ?_, ?_⟩ <;> (repeat' apply And.intro) <;> first | exact trivial | rfl | assumption
    have h5 : ((goM s) m' l[j].toNat (k + z)).2.2 = true := wnf h5
    rw [if_pos h5] at hJ4
    obtain ⟨b1, b2⟩ := hGB h5
    conv => whnf
    refine ⟨(j + 1, ((goM s) m' l[j].toNat (k + z)).1, z + ((goM s) m' l[j].toNat (k + z)).2.1), ⟨⟨by dsimp only; omega, by dsimp only; omega, by dsimp only; omega, hJ4⟩, by dsimp only; omega⟩, ?_⟩
    have hw : z + ((goM s) m' l[j].toNat (k + z)).2.1 = IntKind.wrap .i64 (z + ((goM s) m' l[j].toNat (k + z)).2.1) := (wr64 _ (by omega) (by omega)).symm
    (conv => whnf); refine ⟨rfl, ?_, ?_, ?_⟩ <;> (repeat' apply And.intro) <;> first | exact trivial | rfl | exact wr_succ _ (by omega) | assumption | exact decide_eq_false (by assumption) | exact decide_eq_true (by assumption)
  · have h4 : l.length ≤ j := by simp at h4; omega
    rw [List.drop_eq_nil_of_le h4] at hJ4
    rw [show fldS (goM s) l m k 0 = (m', z, true) from hJ4]
    conv => whnf
    refine ⟨rfl, ?_, ?_, ?_⟩ <;> (repeat' apply And.intro) <;> first | exact trivial | rfl | assumption
theorem wire_ofOpM (m : MD.T) : FnP Tryz.prog 161 [.c (.ptr 0 11)] (obM m) 1 kp0 (.agg (plO 0 11)) (obM m) 1 := by
  refine fnP noI Tryz.func161 rfl rfl rfl rfl ?_
  conv => whnf
  refine any0 ?_
  conv => whnf
  refine ⟨.inl (by kernel_rfl), after0 ?_⟩
  conv => whnf
  refine ⟨rfl, ?_, ?_, ?_⟩ <;> (repeat' apply And.intro) <;> first | exact trivial | rfl | assumption
def oK (o : OD.T) (n : Int) : OD.T := (n, o.2)
/-- the change that stands somewhere, into a command -/
def chR (s : List UInt8) (m : MD.T) (k : Int) : MD.T × Int × Bool :=
  if (s.length : Int) ≤ k ∨ 6 ≤ bt s k then (m, 0, false)
  else ((fldS (goM s) (gt (d := .str) opsL (bt s k)) (sO m (oK (mOp m) (bt s k))) (k + 1) 0).1, (fldS (goM s) (gt (d := .str) opsL (bt s k)) (sO m (oK (mOp m) (bt s k))) (k + 1) 0).2.1 + 1, (fldS (goM s) (gt (d := .str) opsL (bt s k)) (sO m (oK (mOp m) (bt s k))) (k + 1) 0).2.2)
theorem fld_bd {G : MD.T → Int → Int → MD.T × Int × Bool} {n : Nat} (hG : ∀ m (f k : Int), 0 ≤ k → k ≤ (n : Int) → (G m f k).2.2 = true → 0 ≤ (G m f k).2.1 ∧ k + (G m f k).2.1 ≤ (n : Int)) : ∀ (l : List UInt8) (m : MD.T) (k z : Int), 0 ≤ k → 0 ≤ z → k + z ≤ (n : Int) → 0 ≤ (fldS G l m k z).2.1 ∧ ((fldS G l m k z).2.2 = true → k + (fldS G l m k z).2.1 ≤ (n : Int)) ∧ (fldS G l m k z).2.1 ≤ (n : Int)
  | [], m, k, z, h0, h1, h2 => ⟨h1, fun _ => h2, by simp only [fldS]; omega⟩
  | f :: l, m, k, z, h0, h1, h2 => by
    unfold fldS
    split
    · rename_i h
      obtain ⟨b1, b2⟩ := hG m f.toNat (k + z) (by omega) h2 h
      exact fld_bd hG l _ k _ h0 (by omega) (by omega)
    · exact ⟨Int.le_refl 0, fun h => (by cases h), Int.natCast_nonneg n⟩
theorem wire_pchange (m : MD.T) (s : List UInt8) (hs : s.length ≤ 100000000) (k : Int) (h0 : 0 ≤ k) (h1 : k ≤ s.length) :
    FnP Tryz.prog 143 [.agg plM, .c (.str s), .c (.int .i64 k)] (obM m) 1 kp0 (geR (chR s m k).2.1 (chR s m k).2.2) (obM (chR s m k).1) 1 := by
  have hr := bt_rng s k
  have hw : IntKind.wrap .i64 (bt s k) = bt s k := wr64 _ (by omega) (by omega)
  refine fnP noI Tryz.func143 rfl rfl rfl rfl ?_
  conv => whnf
  refine ⟨fun h => ⟨h0, by have := of_decide_eq_false h; omega⟩, ?_⟩
  conv => whnf
  rw [hw]
  refine ⟨fun a => ?_, fun a => ?_⟩
  · have a : (s.length : Int) ≤ k ∨ 6 ≤ bt s k := by
      rw [Bool.or_eq_true, decide_eq_true_eq, decide_eq_true_eq] at a
      exact a
    rw [show chR s m k = (m, 0, false) from if_pos a]
    conv => whnf
    refine ⟨rfl, ?_, ?_, ?_⟩ <;> (repeat' apply And.intro) <;> first | exact trivial | rfl | assumption
  have a : ¬ ((s.length : Int) ≤ k ∨ 6 ≤ bt s k) := by
    rw [Bool.or_eq_false_iff, decide_eq_false_iff_not, decide_eq_false_iff_not] at a
    exact fun h => h.elim a.1 a.2
  have a1 : k < s.length := by omega
  have a2 : bt s k < 6 := by omega
  conv => whnf
  refine any0 ?_
  conv => whnf
  refine ⟨⟨h0, a1⟩, ?_⟩
  conv => whnf
  refine ⟨.inl (by kernel_rfl), after0 ?_⟩
  conv => whnf
  refine any0 ?_
  conv => whnf
  rw [hw]
  refine callrp0 [0] rfl rfl rfl (wire_ofOpM (sO m (oK (mOp m) (bt s k)))) rfl rfl rfl rfl rfl rfl [0] rfl rfl ?_
  conv => whnf
  refine ⟨⟨⟨hr.1, a2⟩, a2⟩, ?_⟩
  conv => whnf
  rw [show IntKind.wrap .i64 (k + 1) = k + 1 from wr64 _ (by omega) (by omega)]
  refine callrp0 [0] rfl rfl rfl (wire_fldO (sO m (oK (mOp m) (bt s k))) (gt (d := .str) opsL (bt s k)) (ops_ok _).1 (ops_ok _).2 s hs (k + 1) (by omega) (by omega)) rfl rfl rfl rfl rfl rfl [] rfl rfl ?_
  conv => whnf
  refine ⟨.inl (by kernel_rfl), after0 ?_⟩
  conv => whnf
  have hb := fld_bd (G := goM s) (n := s.length) (fun m f k h0 h1 h => goM_bd h0 h1 h) (gt (d := .str) opsL (bt s k)) (sO m (oK (mOp m) (bt s k))) (k + 1) 0 (by omega) (Int.le_refl 0) (by omega)
  have hA : chR s m k = _ := if_neg a
  rw [hA]
  have hw2 := wr64 ((fldS (goM s) (gt (d := .str) opsL (bt s k)) (sO m (oK (mOp m) (bt s k))) (k + 1) 0).2.1 + 1) (by omega) (by omega)
  rw [hw2]
  refine ⟨rfl, ?_, ?_, ?_⟩ <;> (repeat' apply And.intro) <;> first | exact trivial | rfl | assumption
end Go.Proofs.YtdhfipjfgigamaaGreatDoor
/- The walk of place.get, fields, read, of commands. Own work. -/
set_option linter.unusedVariables false
set_option maxRecDepth 100000
namespace Go.Proofs.YtdhfipjfgigamaaGreatDoor
open Go Go.RowKit OE

def mT (m : MD.T) (t : List UInt8) : MD.T := (m.1, m.2.1, t, m.2.2.2)
def mNm (m : MD.T) (t : List UInt8) : MD.T := (m.1, m.2.1, m.2.2.1, t, m.2.2.2.2)
def mI (m : MD.T) (n : Int) : MD.T := (m.1, n, m.2.2)
def mVl (m : MD.T) (v : VD.T) : MD.T := (m.1, m.2.1, m.2.2.1, m.2.2.2.1, v, m.2.2.2.2.2)
def mW (m : MD.T) (v : VD.T) : MD.T := (m.1, m.2.1, m.2.2.1, m.2.2.2.1, m.2.2.2.2.1, v, m.2.2.2.2.2.2)
def mM (m : MD.T) (n : Int) : MD.T := (m.1, m.2.1, m.2.2.1, m.2.2.2.1, m.2.2.2.2.1, m.2.2.2.2.2.1, n, m.2.2.2.2.2.2.2)
def mR (m : MD.T) (r : RD.T) : MD.T := (m.1, m.2.1, m.2.2.1, m.2.2.2.1, m.2.2.2.2.1, m.2.2.2.2.2.1, m.2.2.2.2.2.2.1, m.2.2.2.2.2.2.2.1, r)
def rS' (s : List UInt8) (k : Int) : RD.T × Nat := (decS s k).getD (R0, 0)
def miN (n : Nat) : Int := IntKind.wrap .i64 (if (1000001 : Int) < (n : Int) then 1000001 else (n : Int))
/-- the field that stands somewhere, into a command -/
def gM (s : List UInt8) (m : MD.T) (f k : Int) : MD.T × Int × Bool :=
  if f = 116 ∨ f = 101 then (mT m (tS s k).1, ((tS s k).2 : Int), (Num.getT s k 16).isSome)
  else if f = 110 then (mNm m (tS s k).1, ((tS s k).2 : Int), (Num.getT s k 16).isSome)
  else if f = 105 then (mI m (idN (nS s k).1), ((nS s k).2 : Int), (Num.getN s k).isSome)
  else if f = 118 ∨ f = 119 then (mVl m (vS' s k).1, ((vS' s k).2 : Int), (decV s k).isSome)
  else if f = 120 then (mW m (vS' s k).1, ((vS' s k).2 : Int), (decV s k).isSome)
  else if f = 107 ∨ f = 109 then (mM m (miN (nS s k).1), ((nS s k).2 : Int), (Num.getN s k).isSome)
  else if f = 114 then (mR m (rS' s k).1, ((rS' s k).2 : Int), (decS s k).isSome)
  else chR s m k
theorem wire_getM (m : MD.T) (f : Int) (hf : fM f) (s : List UInt8) (hs : s.length ≤ 100000000) (k : Int) (h0 : 0 ≤ k) (h1 : k ≤ s.length) :
    FnP Tryz.prog 115 [.agg plM, .c (.int .u8 f), .c (.str s), .c (.int .i64 k)] (obM m) 1 kp0 (geR (gM s m f k).2.1 (gM s m f k).2.2) (obM (gM s m f k).1) 1 := by
  have n1 : ¬ f = 97 := fun e => by rcases hf with h | h | h | h | h | h | h | h | h | h | h <;> rw [h] at e <;> exact absurd e (by decide)
  have n2 : ¬ f = 98 := fun e => by rcases hf with h | h | h | h | h | h | h | h | h | h | h <;> rw [h] at e <;> exact absurd e (by decide)
  have n3 : ¬ f = 99 := fun e => by rcases hf with h | h | h | h | h | h | h | h | h | h | h <;> rw [h] at e <;> exact absurd e (by decide)
  refine fnP noI Tryz.func115 rfl rfl rfl rfl ?_
  conv => whnf
  refine ⟨fun a => ?_, fun a => ?_⟩
  · have a : f = 116 := of_decide_eq_true a
    have hA : gM s m f k = (mT m (tS s k).1, ((tS s k).2 : Int), (Num.getT s k 16).isSome) := by unfold gM; exact if_pos (.inl a)
    rw [hA]
    conv => whnf
    refine any0 ?_
    conv => whnf
    refine callr0 (num_GetText s k 16 (Nat.le_trans hs (by decide)) (by decide)) rfl ?_
    conv => whnf
    refine ⟨.inl (by kernel_rfl), after0 ?_⟩
    conv => whnf
    refine ⟨rfl, ?_, ?_, ?_⟩ <;> (repeat' apply And.intro) <;> first | exact trivial | rfl | assumption
  have a1 : ¬ f = 116 := of_decide_eq_false a
  clear a
  conv => whnf
  refine ⟨fun a => ?_, fun a => ?_⟩
  · have a : f = 101 := of_decide_eq_true a
    have hA : gM s m f k = (mT m (tS s k).1, ((tS s k).2 : Int), (Num.getT s k 16).isSome) := by unfold gM; exact if_pos (.inr a)
    rw [hA]
    conv => whnf
    refine any0 ?_
    conv => whnf
    refine callr0 (num_GetText s k 16 (Nat.le_trans hs (by decide)) (by decide)) rfl ?_
    conv => whnf
    refine ⟨.inl (by kernel_rfl), after0 ?_⟩
    conv => whnf
    refine ⟨rfl, ?_, ?_, ?_⟩ <;> (repeat' apply And.intro) <;> first | exact trivial | rfl | assumption
  have a2 : ¬ f = 101 := of_decide_eq_false a
  have q1 : ¬ (f = 116 ∨ f = 101) := fun h => h.elim a1 a2
  clear a
  conv => whnf
  refine ⟨fun a => ?_, fun a => ?_⟩
  · have a : f = 110 := of_decide_eq_true a
    have hA : gM s m f k = (mNm m (tS s k).1, ((tS s k).2 : Int), (Num.getT s k 16).isSome) := by unfold gM; rw [if_neg q1, if_pos a]
    rw [hA]
    conv => whnf
    refine any0 ?_
    conv => whnf
    refine callr0 (num_GetText s k 16 (Nat.le_trans hs (by decide)) (by decide)) rfl ?_
    conv => whnf
    refine ⟨.inl (by kernel_rfl), after0 ?_⟩
    conv => whnf
    refine ⟨rfl, ?_, ?_, ?_⟩ <;> (repeat' apply And.intro) <;> first | exact trivial | rfl | assumption
  have a3 : ¬ f = 110 := of_decide_eq_false a
  clear a
  conv => whnf
  refine ⟨fun a => ?_, fun a => ?_⟩
  · have a : f = 105 := of_decide_eq_true a
    have hA : gM s m f k = (mI m (idN (nS s k).1), ((nS s k).2 : Int), (Num.getN s k).isSome) := by unfold gM; rw [if_neg q1, if_neg a3, if_pos a]
    rw [hA]
    conv => whnf
    refine call1 (num_Get s k (Nat.le_trans hs (by decide))) rfl ?_
    conv => whnf
    refine fk (by rw [a]; rfl) ?_
    conv => whnf
    refine fk (by rw [a]; rfl) ?_
    conv => whnf
    refine ⟨rfl, ?_, ?_, ?_⟩ <;> (repeat' apply And.intro) <;> first | exact trivial | rfl | assumption
  have a4 : ¬ f = 105 := of_decide_eq_false a
  clear a
  conv => whnf
  refine fk (decide_eq_false n1) ?_
  conv => whnf
  refine fk (decide_eq_false n2) ?_
  conv => whnf
  refine ⟨fun a => ?_, fun a => ?_⟩
  · have a : f = 118 := of_decide_eq_true a
    have hA : gM s m f k = (mVl m (vS' s k).1, ((vS' s k).2 : Int), (decV s k).isSome) := by unfold gM; rw [if_neg q1, if_neg a3, if_neg a4, if_pos (.inl a)]
    rw [hA]
    conv => whnf
    refine any0 ?_
    conv => whnf
    refine callr0 (val_Decode s k hs) rfl ?_
    conv => whnf
    refine ⟨.inl (by kernel_rfl), after0 ?_⟩
    conv => whnf
    refine ⟨rfl, ?_, ?_, ?_⟩ <;> (repeat' apply And.intro) <;> first | exact trivial | rfl | assumption
  have a7 : ¬ f = 118 := of_decide_eq_false a
  clear a
  conv => whnf
  refine ⟨fun a => ?_, fun a => ?_⟩
  · have a : f = 119 := of_decide_eq_true a
    have hA : gM s m f k = (mVl m (vS' s k).1, ((vS' s k).2 : Int), (decV s k).isSome) := by unfold gM; rw [if_neg q1, if_neg a3, if_neg a4, if_pos (.inr a)]
    rw [hA]
    conv => whnf
    refine any0 ?_
    conv => whnf
    refine callr0 (val_Decode s k hs) rfl ?_
    conv => whnf
    refine ⟨.inl (by kernel_rfl), after0 ?_⟩
    conv => whnf
    refine ⟨rfl, ?_, ?_, ?_⟩ <;> (repeat' apply And.intro) <;> first | exact trivial | rfl | assumption
  have a8 : ¬ f = 119 := of_decide_eq_false a
  have q2 : ¬ (f = 118 ∨ f = 119) := fun h => h.elim a7 a8
  clear a
  conv => whnf
  refine ⟨fun a => ?_, fun a => ?_⟩
  · have a : f = 120 := of_decide_eq_true a
    have hA : gM s m f k = (mW m (vS' s k).1, ((vS' s k).2 : Int), (decV s k).isSome) := by unfold gM; rw [if_neg q1, if_neg a3, if_neg a4, if_neg q2, if_pos a]
    rw [hA]
    conv => whnf
    refine any0 ?_
    conv => whnf
    refine callr0 (val_Decode s k hs) rfl ?_
    conv => whnf
    refine ⟨.inl (by kernel_rfl), after0 ?_⟩
    conv => whnf
    refine ⟨rfl, ?_, ?_, ?_⟩ <;> (repeat' apply And.intro) <;> first | exact trivial | rfl | assumption
  have a9 : ¬ f = 120 := of_decide_eq_false a
  clear a
  conv => whnf
  refine ⟨fun a => ?_, fun a => ?_⟩
  · have a : f = 107 := of_decide_eq_true a
    have hA : gM s m f k = (mM m (miN (nS s k).1), ((nS s k).2 : Int), (Num.getN s k).isSome) := by unfold gM; rw [if_neg q1, if_neg a3, if_neg a4, if_neg q2, if_neg a9, if_pos (.inl a)]
    rw [hA]
    conv => whnf
    refine call1 (num_Get s k (Nat.le_trans hs (by decide))) rfl ?_
    conv => whnf
    refine ⟨rfl, ?_, ?_, ?_⟩ <;> (repeat' apply And.intro) <;> first | exact trivial | rfl | assumption
  have a10 : ¬ f = 107 := of_decide_eq_false a
  clear a
  conv => whnf
  refine ⟨fun a => ?_, fun a => ?_⟩
  · have a : f = 109 := of_decide_eq_true a
    have hA : gM s m f k = (mM m (miN (nS s k).1), ((nS s k).2 : Int), (Num.getN s k).isSome) := by unfold gM; rw [if_neg q1, if_neg a3, if_neg a4, if_neg q2, if_neg a9, if_pos (.inr a)]
    rw [hA]
    conv => whnf
    refine call1 (num_Get s k (Nat.le_trans hs (by decide))) rfl ?_
    conv => whnf
    refine ⟨rfl, ?_, ?_, ?_⟩ <;> (repeat' apply And.intro) <;> first | exact trivial | rfl | assumption
  have a11 : ¬ f = 109 := of_decide_eq_false a
  have q3 : ¬ (f = 107 ∨ f = 109) := fun h => h.elim a10 a11
  clear a
  conv => whnf
  refine fk (decide_eq_false n3) ?_
  conv => whnf
  refine ⟨fun a => ?_, fun a => ?_⟩
  · have a : f = 114 := of_decide_eq_true a
    have hA : gM s m f k = (mR m (rS' s k).1, ((rS' s k).2 : Int), (decS s k).isSome) := by unfold gM; rw [if_neg q1, if_neg a3, if_neg a4, if_neg q2, if_neg a9, if_neg q3, if_pos a]
    rw [hA]
    conv => whnf
    refine any0 ?_
    conv => whnf
    refine callr0 (rule_Decode s k hs) rfl ?_
    conv => whnf
    refine ⟨.inl (by kernel_rfl), after0 ?_⟩
    conv => whnf
    refine ⟨rfl, ?_, ?_, ?_⟩ <;> (repeat' apply And.intro) <;> first | exact trivial | rfl | assumption
  have a12 : ¬ f = 114 := of_decide_eq_false a
  have a : f = 111 := by rcases hf with h | h | h | h | h | h | h | h | h | h | h <;> first | exact h | exact absurd h (by assumption)
  conv => whnf
  refine tk (by rw [a]; rfl) ?_
  have hA : gM s m f k = chR s m k := by unfold gM; rw [if_neg q1, if_neg a3, if_neg a4, if_neg q2, if_neg a9, if_neg q3, if_neg a12]
  rw [hA]
  conv => whnf
  refine callp0 [0] rfl rfl (wire_pchange m s hs k h0 h1) rfl rfl rfl rfl rfl ?_
  conv => whnf
  refine ⟨rfl, ?_, ?_, ?_⟩ <;> (repeat' apply And.intro) <;> first | exact trivial | rfl | assumption
theorem decS_bdZ {s : List UInt8} {a : Int} {r : RD.T} {n : Nat} (h : decS s a = some (r, n)) : a + n ≤ s.length := by
  unfold decS at h
  split at h
  · cases h
  rename_i p hp
  split at h
  · cases h
    unfold decP at hp
    repeat (split at hp; · cases hp)
    rename_i h8
    cases hp
    have := getT_bd h8
    omega
  · cases h
theorem rS_bd {s : List UInt8} {k : Int} (h : (decS s k).isSome = true) : k + ((rS' s k).2 : Int) ≤ s.length := by
  unfold rS'
  cases hg : decS s k with
  | none => rw [hg] at h; cases h
  | some p =>
    obtain ⟨r, i⟩ := p
    have := decS_bdZ hg
    simp only [Option.getD_some]
    omega
theorem gM_bd {s : List UInt8} {m : MD.T} {f k : Int} (h0 : 0 ≤ k) (h1 : k ≤ s.length) (h : (gM s m f k).2.2 = true) : 0 ≤ (gM s m f k).2.1 ∧ k + (gM s m f k).2.1 ≤ s.length := by
  generalize hr : gM s m f k = r at h ⊢
  unfold gM at hr
  repeat' split at hr
  all_goals subst hr
  all_goals first | exact ⟨Int.natCast_nonneg _, tS_bd h⟩ | exact ⟨Int.natCast_nonneg _, nS_bd h⟩ | exact ⟨Int.natCast_nonneg _, vS_bd h⟩ | exact ⟨Int.natCast_nonneg _, rS_bd h⟩ | skip
  generalize hr : chR s m k = r at h ⊢
  unfold chR at hr
  split at hr
  · subst hr; cases h
  · rename_i hc
    have hb := fld_bd (G := goM s) (n := s.length) (fun m f k h0 h1 h => goM_bd h0 h1 h) (gt (d := .str) opsL (bt s k)) (sO m (oK (mOp m) (bt s k))) (k + 1) 0 (by omega) (Int.le_refl 0) (by omega)
    subst hr
    dsimp only at h ⊢
    have := hb.2.1 h
    omega
theorem wire_fldM (m : MD.T) (l : List UInt8) (hl : l.length ≤ 100) (hf : ∀ f ∈ l, fM f.toNat) (s : List UInt8) (hs : s.length ≤ 100000000) (k : Int) (h0 : 0 ≤ k) (h1 : k ≤ s.length) :
    FnP Tryz.prog 88 [.agg plM, .c (.str l), .c (.str s), .c (.int .i64 k)] (obM m) 1 kp0 (geR (fldS (gM s) l m k 0).2.1 (fldS (gM s) l m k 0).2.2) (obM (fldS (gM s) l m k 0).1) 1 := by
  refine fnP noI Tryz.func88 rfl rfl rfl rfl ?_
  conv => whnf
  refine loop0 (α := Nat × MD.T × Int) (fun p => p.1 ≤ l.length ∧ 0 ≤ p.2.2 ∧ k + p.2.2 ≤ s.length ∧ fldS (gM s) l m k 0 = fldS (gM s) (l.drop p.1) p.2.1 k p.2.2)
    (fun p => ⟨[(1, .c (.str l)), (2, .c (.str s)), (3, .c (.int .i64 k)), (4, .c (.ptr 1 0)), (8, .c (.int .i64 p.2.2)), (14, .c (.int .i64 l.length)), (15, .c (.int .i64 p.1))], (1, .cells 147 (plM)) :: obM p.2.1, 2⟩) (fun p => l.length - p.1) ⟨(0, m, 0), ⟨by dsimp only; omega, Int.le_refl _, by dsimp only; omega, rfl⟩, ?_⟩ ?_
  · (conv => whnf); refine ⟨rfl, ?_, ?_, ?_⟩ <;> (repeat' apply And.intro) <;> first | exact trivial | rfl | exact wr_succ _ (by omega) | assumption | exact decide_eq_false (by assumption) | exact decide_eq_true (by assumption)
  rintro ⟨j, m', z⟩ ⟨hJ1, hJ2, hJ3, hJ4⟩
  dsimp only at hJ1 hJ2 hJ3 hJ4 ⊢
  conv => whnf
  refine ⟨fun h4 => ?_, fun h4 => ?_⟩
  · have h4 : j < l.length := by simp at h4; omega
    have hS : fldS (gM s) (l.drop j) m' k z = (if ((gM s) m' l[j].toNat (k + z)).2.2 = true then fldS (gM s) (l.drop (j + 1)) ((gM s) m' l[j].toNat (k + z)).1 k (z + ((gM s) m' l[j].toNat (k + z)).2.1) else (((gM s) m' l[j].toNat (k + z)).1, 0, false)) := by
      rw [List.drop_eq_getElem_cons h4]; rfl
    rw [hS] at hJ4
    have hk : IntKind.wrap .i64 (k + z) = k + z := wr64 _ (by omega) (by omega)
    have hGB : ((gM s) m' l[j].toNat (k + z)).2.2 = true → 0 ≤ ((gM s) m' l[j].toNat (k + z)).2.1 ∧ (k + z) + ((gM s) m' l[j].toNat (k + z)).2.1 ≤ s.length := fun h => gM_bd (by omega) (by omega) h
    conv => whnf
    refine any0 ?_
    conv => whnf
    refine ⟨by omega, ?_⟩
    conv => whnf
    rw [bt_nat l j h4, hk]
    refine callrp0 [0] rfl rfl rfl (wire_getM m' l[j].toNat (hf _ (List.getElem_mem h4)) s hs (k + z) (by omega) hJ3) rfl rfl rfl rfl rfl rfl [] rfl rfl ?_
    conv => whnf
    refine ⟨.inl (by kernel_rfl), after0 ?_⟩
    conv => whnf
    refine ⟨fun h5 => ?_, fun h5 => ?_⟩
    · have h5 : ((gM s) m' l[j].toNat (k + z)).2.2 = false := wnt h5
      rw [if_neg (by rw [h5]; decide)] at hJ4
      rw [hJ4]
      conv => whnf
      refine ⟨rfl, ?_, ?_, ?_⟩ <;> (repeat' apply And.intro) <;> first | exact trivial | rfl | assumption
    have h5 : ((gM s) m' l[j].toNat (k + z)).2.2 = true := wnf h5
    rw [if_pos h5] at hJ4
    obtain ⟨b1, b2⟩ := hGB h5
    conv => whnf
    refine ⟨(j + 1, ((gM s) m' l[j].toNat (k + z)).1, z + ((gM s) m' l[j].toNat (k + z)).2.1), ⟨⟨by dsimp only; omega, by dsimp only; omega, by dsimp only; omega, hJ4⟩, by dsimp only; omega⟩, ?_⟩
    have hw : z + ((gM s) m' l[j].toNat (k + z)).2.1 = IntKind.wrap .i64 (z + ((gM s) m' l[j].toNat (k + z)).2.1) := (wr64 _ (by omega) (by omega)).symm
    (conv => whnf); refine ⟨rfl, ?_, ?_, ?_⟩ <;> (repeat' apply And.intro) <;> first | exact trivial | rfl | exact wr_succ _ (by omega) | assumption | exact decide_eq_false (by assumption) | exact decide_eq_true (by assumption)
  · have h4 : l.length ≤ j := by simp at h4; omega
    rw [List.drop_eq_nil_of_le h4] at hJ4
    rw [show fldS (gM s) l m k 0 = (m', z, true) from hJ4]
    conv => whnf
    refine ⟨rfl, ?_, ?_, ?_⟩ <;> (repeat' apply And.intro) <;> first | exact trivial | rfl | assumption
/-- a command of a kind, else empty -/
def m0 (k : Int) : MD.T := (k, MD.df.2)
/-- the command of bytes, and whether there is one -/
def readS (s : List UInt8) : MD.T × Bool :=
  if s = [] ∨ knownM (bt s 0) = false then (MD.df, false)
  else ((fldS (gM s) (gt (d := .str) cmdL (bt s 0)) (m0 (bt s 0)) 1 0).1, (fldS (gM s) (gt (d := .str) cmdL (bt s 0)) (m0 (bt s 0)) 1 0).2.2)
theorem wire_read (s : List UInt8) (hs : s.length ≤ 100000000) : FnD Tryz.prog 57 [.c (.str s)] (· = .tup [(true, mc (readS s).1), (false, [.bool (.sym (readS s).2)])]) := by
  have hr := bt_rng s 0
  have hw : IntKind.wrap .i64 (bt s 0) = bt s 0 := wr64 _ (by omega) (by omega)
  refine fn0 Tryz.func57 rfl rfl rfl ?_
  conv => whnf
  refine ⟨fun h => ⟨by decide, by
    have h : ¬ s = [] := of_decide_eq_false h
    have : 0 < s.length := List.length_pos_iff.2 h
    omega⟩, ?_⟩
  conv => whnf
  rw [hw]
  refine callg0 (fun _ => wire_known (bt s 0)) rfl ?_
  conv => whnf
  refine ⟨fun a => ?_, fun a => ?_⟩
  · have a : s = [] ∨ knownM (bt s 0) = false := by
      rw [Bool.or_eq_true, decide_eq_true_eq, Bool.not_eq_true'] at a
      exact a
    rw [show readS s = (MD.df, false) from if_pos a]
    conv => whnf
    rfl
  have a : ¬ (s = [] ∨ knownM (bt s 0) = false) := by
    rw [Bool.or_eq_false_iff, decide_eq_false_iff_not, Bool.not_eq_false'] at a
    rintro (h | h)
    · exact a.1 h
    · rw [a.2] at h; cases h
  have a0 : 0 < s.length := List.length_pos_iff.2 fun h => a (.inl h)
  have a1 : 1 ≤ bt s 0 ∧ bt s 0 < 21 := by
    have : knownM (bt s 0) = true := by
      cases h : knownM (bt s 0) with
      | true => rfl
      | false => exact (a (.inr h)).elim
    simpa [knownM] using this
  conv => whnf
  refine ⟨by omega, ?_⟩
  conv => whnf
  rw [hw]
  refine ⟨weaken (st := ⟨[(0, .c (.str s)), (2, .c (.ptr 0 0)), (3, .c (.bool .ff)), (4, .c (.ptr 1 0))], [(0, .cells 30 (mc MD.df)), (1, .cells 30 (mc (m0 (bt s 0))))], 2⟩) ?_ (go0 ?_)⟩
  · (conv => whnf); refine ⟨rfl, ?_, ?_, ?_⟩ <;> (repeat' apply And.intro) <;> first | exact trivial | rfl | exact wr_succ _ (by omega) | assumption | exact decide_eq_false (by assumption) | exact decide_eq_true (by assumption)
  refine any0 ?_
  conv => whnf
  refine callrp0 [1] rfl rfl rfl (wire_ofCmd (m0 (bt s 0))) rfl rfl rfl rfl rfl rfl [0] rfl rfl ?_
  conv => whnf
  refine ⟨⟨⟨hr.1, a1.2⟩, a1.2⟩, ?_⟩
  conv => whnf
  refine callrp0 [1] rfl rfl rfl (wire_fldM (m0 (bt s 0)) (gt (d := .str) cmdL (bt s 0)) (cmd_ok _).1 (cmd_ok _).2 s hs 1 (by decide) (by omega)) rfl rfl rfl rfl rfl rfl [] rfl rfl ?_
  conv => whnf
  refine ⟨.inl (by kernel_rfl), after0 ?_⟩
  conv => whnf
  rw [show readS s = _ from if_neg a]
end Go.Proofs.YtdhfipjfgigamaaGreatDoor
/- The order of texts; no program in sight. Own work. -/
set_option linter.unusedVariables false
set_option maxRecDepth 100000
namespace Go.Proofs.YtdhfipjfgigamaaGreatDoor
open Go Go.RowKit OE

theorem not_t {b : Bool} (h : (!b) = true) : b = false := by cases b <;> first | rfl | cases h
theorem not_f {b : Bool} (h : (!b) = false) : b = true := by cases b <;> first | rfl | cases h
end Go.Proofs.YtdhfipjfgigamaaGreatDoor
