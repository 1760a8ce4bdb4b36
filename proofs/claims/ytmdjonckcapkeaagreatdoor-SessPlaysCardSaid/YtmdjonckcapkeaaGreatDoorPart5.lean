/- Several texts of the proof, one behind the other; put together by a program of the session (mrg.py). Own work. -/
import Derived.Test.YtmdjonckcapkeaaGreatDoorProg
import Derived.KernelRfl
import Derived.Conc.LoneCalls
import Derived.Conc.LoneSelectN
import Derived.Test.YtmdjonckcapkeaaGreatDoorPart4
/- The types of this seat's translation, as the engine wants them; short rules. Written by a program of the session (oegen.py). -/
set_option linter.unusedVariables false
namespace Go.Proofs.YtmdjonckcapkeaaGreatDoor
open Go Go.RowKit OE
def tab : List (Nat × TI) := [
  (1, ⟨.other, 1, 8, [.val .nilFunc], .bool⟩),
  (2, ⟨.int .i64, 1, 8, [.int .i64 0], (.int .i64)⟩),
  (3, ⟨.int .i64, 1, 8, [.int .i64 0], (.int .i64)⟩),
  (4, ⟨.bool, 1, 1, [.bool .ff], .bool⟩),
  (5, ⟨.int .u8, 1, 1, [.int .u8 0], (.int .u8)⟩),
  (6, ⟨.int .u8, 1, 1, [.int .u8 0], (.int .u8)⟩),
  (7, ⟨.strct [(0, 1, false), (1, 1, false), (2, 1, false), (3, 1, false)], 4, 24, [.int .i64 0, .int .i64 0, .bool .ff, .int .u8 0], (.pair (.int .i64) (.pair (.int .i64) (.pair .bool (.int .u8))))⟩),
  (8, ⟨.strct [(0, 1, false), (1, 1, false), (2, 1, false), (3, 1, false)], 4, 24, [.int .i64 0, .int .i64 0, .bool .ff, .int .u8 0], (.pair (.int .i64) (.pair (.int .i64) (.pair .bool (.int .u8))))⟩),
  (9, ⟨.str, 1, 16, [.str []], .str⟩),
  (10, ⟨.str, 1, 16, [.str []], .str⟩),
  (11, ⟨.str, 1, 16, [.str []], .str⟩),
  (12, ⟨.int .u64, 1, 8, [.int .u64 0], (.int .u64)⟩),
  (13, ⟨.strct [(0, 1, false), (1, 1, false)], 2, 24, [.str [], .int .u64 0], (.pair .str (.int .u64))⟩),
  (14, ⟨.strct [(0, 1, false), (1, 1, false)], 2, 24, [.str [], .int .u64 0], (.pair .str (.int .u64))⟩),
  (15, ⟨.ptr 220, 1, 8, [.val (.pointer none)], .bool⟩),
  (16, ⟨.ptr 223, 1, 8, [.val (.pointer none)], .bool⟩),
  (17, ⟨.ptr 231, 1, 8, [.val (.pointer none)], .bool⟩),
  (18, ⟨.strct [(0, 1, false)], 1, 8, [.val (.pointer none)], .bool⟩),
  (19, ⟨.strct [(0, 1, false)], 1, 8, [.val (.pointer none)], .bool⟩),
  (20, ⟨.other, 1, 16, [.val .nilIface], .bool⟩),
  (21, ⟨.int .i32, 1, 4, [.int .i32 0], (.int .i32)⟩),
  (22, ⟨.slice 42, 1, 24, [.val (.slice none 0 0)], (.list (.pair (.int .i64) (.pair .str (.pair (.int .i64) (.pair (.int .i64) (.pair (.int .i64) (.pair (.list (.pair (.int .i64) (.pair .str (.list (.pair .str (.pair (.int .i64) (.pair (.int .i64) .str))))))) (.pair (.list (.pair (.int .i64) (.pair .str (.pair (.int .i64) (.pair (.int .i64) (.list (.pair .str (.pair (.int .i64) (.pair (.int .i64) .str))))))))) (.pair (.list (.int .i64)) (.pair (.list .str) (.pair (.list .str) (.pair (.list (.pair (.int .i64) (.pair (.int .i64) (.pair .str (.pair .str (.pair .str (.pair .str (.pair (.int .i64) (.int .i64))))))))) (.pair (.list (.pair .str .str)) (.int .i64))))))))))))))⟩),
  (23, ⟨.ptr 62, 1, 8, [.val (.pointer none)], .bool⟩),
  (24, ⟨.other, 1, 8, [.val .nilFunc], .bool⟩),
  (25, ⟨.ptr 28, 1, 8, [.val (.pointer none)], .bool⟩),
  (26, ⟨.slice 55, 1, 24, [.val (.slice none 0 0)], (.list (.pair (.int .i64) (.pair (.int .i64) (.pair .str (.pair .str (.pair (.pair (.int .i64) (.pair (.int .i64) .str)) (.pair (.pair (.int .i64) (.pair (.int .i64) .str)) (.pair (.int .i64) (.pair (.pair (.int .i64) (.pair (.int .i64) (.pair .str (.pair (.int .i64) (.pair (.int .i64) (.pair .str (.pair (.pair (.int .i64) (.pair (.int .i64) .str)) .bool))))))) (.pair (.int .i64) (.pair (.int .i64) (.pair .str (.pair .str (.pair .str (.pair .str (.pair (.int .i64) (.int .i64)))))))))))))))))⟩),
  (27, ⟨.strct [(0, 1, false), (1, 1, false), (2, 1, false), (3, 1, false)], 4, 64, [.str [], .val (.slice none 0 0), .str [], .bool .ff], (.pair .str (.pair (.list (.pair (.int .i64) (.pair (.int .i64) (.pair .str (.pair .str (.pair (.pair (.int .i64) (.pair (.int .i64) .str)) (.pair (.pair (.int .i64) (.pair (.int .i64) .str)) (.pair (.int .i64) (.pair (.pair (.int .i64) (.pair (.int .i64) (.pair .str (.pair (.int .i64) (.pair (.int .i64) (.pair .str (.pair (.pair (.int .i64) (.pair (.int .i64) .str)) .bool))))))) (.pair (.int .i64) (.pair (.int .i64) (.pair .str (.pair .str (.pair .str (.pair .str (.pair (.int .i64) (.int .i64))))))))))))))))) (.pair .str .bool)))⟩),
  (28, ⟨.strct [(0, 1, false), (1, 1, false), (2, 1, false), (3, 1, false)], 4, 64, [.str [], .val (.slice none 0 0), .str [], .bool .ff], (.pair .str (.pair (.list (.pair (.int .i64) (.pair (.int .i64) (.pair .str (.pair .str (.pair (.pair (.int .i64) (.pair (.int .i64) .str)) (.pair (.pair (.int .i64) (.pair (.int .i64) .str)) (.pair (.int .i64) (.pair (.pair (.int .i64) (.pair (.int .i64) (.pair .str (.pair (.int .i64) (.pair (.int .i64) (.pair .str (.pair (.pair (.int .i64) (.pair (.int .i64) .str)) .bool))))))) (.pair (.int .i64) (.pair (.int .i64) (.pair .str (.pair .str (.pair .str (.pair .str (.pair (.int .i64) (.int .i64))))))))))))))))) (.pair .str .bool)))⟩),
  (29, ⟨.other, 1, 8, [.val .nilFunc], .bool⟩),
  (30, ⟨.other, 1, 8, [.val .nilFunc], .bool⟩),
  (31, ⟨.slice 104, 1, 24, [.val (.slice none 0 0)], (.list (.pair (.int .i64) (.pair .str (.list (.pair .str (.pair (.int .i64) (.pair (.int .i64) .str)))))))⟩),
  (32, ⟨.slice 107, 1, 24, [.val (.slice none 0 0)], (.list (.pair (.int .i64) (.pair .str (.pair (.int .i64) (.pair (.int .i64) (.list (.pair .str (.pair (.int .i64) (.pair (.int .i64) .str)))))))))⟩),
  (33, ⟨.slice 2, 1, 24, [.val (.slice none 0 0)], (.list (.int .i64))⟩),
  (34, ⟨.slice 9, 1, 24, [.val (.slice none 0 0)], (.list .str)⟩),
  (35, ⟨.slice 53, 1, 24, [.val (.slice none 0 0)], (.list (.pair (.int .i64) (.pair (.int .i64) (.pair .str (.pair .str (.pair .str (.pair .str (.pair (.int .i64) (.int .i64)))))))))⟩),
  (36, ⟨.slice 110, 1, 24, [.val (.slice none 0 0)], (.list (.pair .str .str))⟩),
  (37, ⟨.strct [(0, 1, false), (1, 1, false), (2, 1, false), (3, 1, false), (4, 1, false)], 5, 104, [.val (.slice none 0 0), .val (.slice none 0 0), .val (.slice none 0 0), .val (.slice none 0 0), .int .i64 0], (.pair (.list .str) (.pair (.list .str) (.pair (.list (.pair (.int .i64) (.pair (.int .i64) (.pair .str (.pair .str (.pair .str (.pair .str (.pair (.int .i64) (.int .i64))))))))) (.pair (.list (.pair .str .str)) (.int .i64)))))⟩),
  (38, ⟨.strct [(0, 1, false), (1, 1, false), (2, 1, false), (3, 1, false), (4, 1, false)], 5, 104, [.val (.slice none 0 0), .val (.slice none 0 0), .val (.slice none 0 0), .val (.slice none 0 0), .int .i64 0], (.pair (.list .str) (.pair (.list .str) (.pair (.list (.pair (.int .i64) (.pair (.int .i64) (.pair .str (.pair .str (.pair .str (.pair .str (.pair (.int .i64) (.int .i64))))))))) (.pair (.list (.pair .str .str)) (.int .i64)))))⟩),
  (39, ⟨.strct [(0, 1, false), (1, 1, false), (2, 1, false), (3, 1, false), (4, 1, false), (5, 1, false), (6, 5, true)], 11, 200, [.int .i64 0, .int .i64 0, .int .i64 0, .val (.slice none 0 0), .val (.slice none 0 0), .val (.slice none 0 0), .val (.slice none 0 0), .val (.slice none 0 0), .val (.slice none 0 0), .val (.slice none 0 0), .int .i64 0], (.pair (.int .i64) (.pair (.int .i64) (.pair (.int .i64) (.pair (.list (.pair (.int .i64) (.pair .str (.list (.pair .str (.pair (.int .i64) (.pair (.int .i64) .str))))))) (.pair (.list (.pair (.int .i64) (.pair .str (.pair (.int .i64) (.pair (.int .i64) (.list (.pair .str (.pair (.int .i64) (.pair (.int .i64) .str))))))))) (.pair (.list (.int .i64)) (.pair (.list .str) (.pair (.list .str) (.pair (.list (.pair (.int .i64) (.pair (.int .i64) (.pair .str (.pair .str (.pair .str (.pair .str (.pair (.int .i64) (.int .i64))))))))) (.pair (.list (.pair .str .str)) (.int .i64)))))))))))⟩),
  (40, ⟨.strct [(0, 1, false), (1, 1, false), (2, 1, false), (3, 1, false), (4, 1, false), (5, 1, false), (6, 5, true)], 11, 200, [.int .i64 0, .int .i64 0, .int .i64 0, .val (.slice none 0 0), .val (.slice none 0 0), .val (.slice none 0 0), .val (.slice none 0 0), .val (.slice none 0 0), .val (.slice none 0 0), .val (.slice none 0 0), .int .i64 0], (.pair (.int .i64) (.pair (.int .i64) (.pair (.int .i64) (.pair (.list (.pair (.int .i64) (.pair .str (.list (.pair .str (.pair (.int .i64) (.pair (.int .i64) .str))))))) (.pair (.list (.pair (.int .i64) (.pair .str (.pair (.int .i64) (.pair (.int .i64) (.list (.pair .str (.pair (.int .i64) (.pair (.int .i64) .str))))))))) (.pair (.list (.int .i64)) (.pair (.list .str) (.pair (.list .str) (.pair (.list (.pair (.int .i64) (.pair (.int .i64) (.pair .str (.pair .str (.pair .str (.pair .str (.pair (.int .i64) (.int .i64))))))))) (.pair (.list (.pair .str .str)) (.int .i64)))))))))))⟩),
  (41, ⟨.strct [(0, 1, false), (1, 1, false), (2, 11, true)], 13, 224, [.int .i64 0, .str [], .int .i64 0, .int .i64 0, .int .i64 0, .val (.slice none 0 0), .val (.slice none 0 0), .val (.slice none 0 0), .val (.slice none 0 0), .val (.slice none 0 0), .val (.slice none 0 0), .val (.slice none 0 0), .int .i64 0], (.pair (.int .i64) (.pair .str (.pair (.int .i64) (.pair (.int .i64) (.pair (.int .i64) (.pair (.list (.pair (.int .i64) (.pair .str (.list (.pair .str (.pair (.int .i64) (.pair (.int .i64) .str))))))) (.pair (.list (.pair (.int .i64) (.pair .str (.pair (.int .i64) (.pair (.int .i64) (.list (.pair .str (.pair (.int .i64) (.pair (.int .i64) .str))))))))) (.pair (.list (.int .i64)) (.pair (.list .str) (.pair (.list .str) (.pair (.list (.pair (.int .i64) (.pair (.int .i64) (.pair .str (.pair .str (.pair .str (.pair .str (.pair (.int .i64) (.int .i64))))))))) (.pair (.list (.pair .str .str)) (.int .i64)))))))))))))⟩),
  (42, ⟨.strct [(0, 1, false), (1, 1, false), (2, 11, true)], 13, 224, [.int .i64 0, .str [], .int .i64 0, .int .i64 0, .int .i64 0, .val (.slice none 0 0), .val (.slice none 0 0), .val (.slice none 0 0), .val (.slice none 0 0), .val (.slice none 0 0), .val (.slice none 0 0), .val (.slice none 0 0), .int .i64 0], (.pair (.int .i64) (.pair .str (.pair (.int .i64) (.pair (.int .i64) (.pair (.int .i64) (.pair (.list (.pair (.int .i64) (.pair .str (.list (.pair .str (.pair (.int .i64) (.pair (.int .i64) .str))))))) (.pair (.list (.pair (.int .i64) (.pair .str (.pair (.int .i64) (.pair (.int .i64) (.list (.pair .str (.pair (.int .i64) (.pair (.int .i64) .str))))))))) (.pair (.list (.int .i64)) (.pair (.list .str) (.pair (.list .str) (.pair (.list (.pair (.int .i64) (.pair (.int .i64) (.pair .str (.pair .str (.pair .str (.pair .str (.pair (.int .i64) (.int .i64))))))))) (.pair (.list (.pair .str .str)) (.int .i64)))))))))))))⟩),
  (43, ⟨.other, 1, 8, [.val .nilFunc], .bool⟩),
  (44, ⟨.int .i64, 1, 8, [.int .i64 0], (.int .i64)⟩),
  (45, ⟨.other, 1, 8, [.val .nilFunc], .bool⟩),
  (46, ⟨.other, 1, 8, [.val .nilFunc], .bool⟩),
  (47, ⟨.other, 1, 8, [.val .nilFunc], .bool⟩),
  (48, ⟨.strct [(0, 1, false), (1, 1, false), (2, 1, false)], 3, 32, [.int .i64 0, .int .i64 0, .str []], (.pair (.int .i64) (.pair (.int .i64) .str))⟩),
  (49, ⟨.strct [(0, 1, false), (1, 1, false), (2, 1, false)], 3, 32, [.int .i64 0, .int .i64 0, .str []], (.pair (.int .i64) (.pair (.int .i64) .str))⟩),
  (50, ⟨.strct [(0, 1, false), (1, 1, false), (2, 1, false), (3, 1, false), (4, 1, false), (5, 1, false), (6, 3, true), (9, 1, false)], 10, 104, [.int .i64 0, .int .i64 0, .str [], .int .i64 0, .int .i64 0, .str [], .int .i64 0, .int .i64 0, .str [], .bool .ff], (.pair (.int .i64) (.pair (.int .i64) (.pair .str (.pair (.int .i64) (.pair (.int .i64) (.pair .str (.pair (.pair (.int .i64) (.pair (.int .i64) .str)) .bool)))))))⟩),
  (51, ⟨.strct [(0, 1, false), (1, 1, false), (2, 1, false), (3, 1, false), (4, 1, false), (5, 1, false), (6, 3, true), (9, 1, false)], 10, 104, [.int .i64 0, .int .i64 0, .str [], .int .i64 0, .int .i64 0, .str [], .int .i64 0, .int .i64 0, .str [], .bool .ff], (.pair (.int .i64) (.pair (.int .i64) (.pair .str (.pair (.int .i64) (.pair (.int .i64) (.pair .str (.pair (.pair (.int .i64) (.pair (.int .i64) .str)) .bool)))))))⟩),
  (52, ⟨.strct [(0, 1, false), (1, 1, false), (2, 1, false), (3, 1, false), (4, 1, false), (5, 1, false), (6, 1, false), (7, 1, false)], 8, 96, [.int .i64 0, .int .i64 0, .str [], .str [], .str [], .str [], .int .i64 0, .int .i64 0], (.pair (.int .i64) (.pair (.int .i64) (.pair .str (.pair .str (.pair .str (.pair .str (.pair (.int .i64) (.int .i64))))))))⟩),
  (53, ⟨.strct [(0, 1, false), (1, 1, false), (2, 1, false), (3, 1, false), (4, 1, false), (5, 1, false), (6, 1, false), (7, 1, false)], 8, 96, [.int .i64 0, .int .i64 0, .str [], .str [], .str [], .str [], .int .i64 0, .int .i64 0], (.pair (.int .i64) (.pair (.int .i64) (.pair .str (.pair .str (.pair .str (.pair .str (.pair (.int .i64) (.int .i64))))))))⟩),
  (54, ⟨.strct [(0, 1, false), (1, 1, false), (2, 1, false), (3, 1, false), (4, 3, true), (7, 3, true), (10, 1, false), (11, 10, true), (21, 8, true)], 29, 320, [.int .i64 0, .int .i64 0, .str [], .str [], .int .i64 0, .int .i64 0, .str [], .int .i64 0, .int .i64 0, .str [], .int .i64 0, .int .i64 0, .int .i64 0, .str [], .int .i64 0, .int .i64 0, .str [], .int .i64 0, .int .i64 0, .str [], .bool .ff, .int .i64 0, .int .i64 0, .str [], .str [], .str [], .str [], .int .i64 0, .int .i64 0], (.pair (.int .i64) (.pair (.int .i64) (.pair .str (.pair .str (.pair (.pair (.int .i64) (.pair (.int .i64) .str)) (.pair (.pair (.int .i64) (.pair (.int .i64) .str)) (.pair (.int .i64) (.pair (.pair (.int .i64) (.pair (.int .i64) (.pair .str (.pair (.int .i64) (.pair (.int .i64) (.pair .str (.pair (.pair (.int .i64) (.pair (.int .i64) .str)) .bool))))))) (.pair (.int .i64) (.pair (.int .i64) (.pair .str (.pair .str (.pair .str (.pair .str (.pair (.int .i64) (.int .i64))))))))))))))))⟩),
  (55, ⟨.strct [(0, 1, false), (1, 1, false), (2, 1, false), (3, 1, false), (4, 3, true), (7, 3, true), (10, 1, false), (11, 10, true), (21, 8, true)], 29, 320, [.int .i64 0, .int .i64 0, .str [], .str [], .int .i64 0, .int .i64 0, .str [], .int .i64 0, .int .i64 0, .str [], .int .i64 0, .int .i64 0, .int .i64 0, .str [], .int .i64 0, .int .i64 0, .str [], .int .i64 0, .int .i64 0, .str [], .bool .ff, .int .i64 0, .int .i64 0, .str [], .str [], .str [], .str [], .int .i64 0, .int .i64 0], (.pair (.int .i64) (.pair (.int .i64) (.pair .str (.pair .str (.pair (.pair (.int .i64) (.pair (.int .i64) .str)) (.pair (.pair (.int .i64) (.pair (.int .i64) .str)) (.pair (.int .i64) (.pair (.pair (.int .i64) (.pair (.int .i64) (.pair .str (.pair (.int .i64) (.pair (.int .i64) (.pair .str (.pair (.pair (.int .i64) (.pair (.int .i64) .str)) .bool))))))) (.pair (.int .i64) (.pair (.int .i64) (.pair .str (.pair .str (.pair .str (.pair .str (.pair (.int .i64) (.int .i64))))))))))))))))⟩),
  (57, ⟨.other, 1, 8, [.val .nilFunc], .bool⟩),
  (58, ⟨.other, 1, 8, [.val .nilFunc], .bool⟩),
  (59, ⟨.other, 1, 8, [.val .nilFunc], .bool⟩),
  (60, ⟨.other, 1, 8, [.val (.chan none)], .bool⟩),
  (61, ⟨.strct [(0, 1, false), (1, 1, false), (2, 29, true), (31, 1, false), (32, 1, false), (33, 1, false)], 34, 376, [.str [], .val (.chan none), .int .i64 0, .int .i64 0, .str [], .str [], .int .i64 0, .int .i64 0, .str [], .int .i64 0, .int .i64 0, .str [], .int .i64 0, .int .i64 0, .int .i64 0, .str [], .int .i64 0, .int .i64 0, .str [], .int .i64 0, .int .i64 0, .str [], .bool .ff, .int .i64 0, .int .i64 0, .str [], .str [], .str [], .str [], .int .i64 0, .int .i64 0, .bool .ff, .str [], .bool .ff], (.pair .str (.pair .bool (.pair (.pair (.int .i64) (.pair (.int .i64) (.pair .str (.pair .str (.pair (.pair (.int .i64) (.pair (.int .i64) .str)) (.pair (.pair (.int .i64) (.pair (.int .i64) .str)) (.pair (.int .i64) (.pair (.pair (.int .i64) (.pair (.int .i64) (.pair .str (.pair (.int .i64) (.pair (.int .i64) (.pair .str (.pair (.pair (.int .i64) (.pair (.int .i64) .str)) .bool))))))) (.pair (.int .i64) (.pair (.int .i64) (.pair .str (.pair .str (.pair .str (.pair .str (.pair (.int .i64) (.int .i64)))))))))))))))) (.pair .bool (.pair .str .bool)))))⟩),
  (62, ⟨.strct [(0, 1, false), (1, 1, false), (2, 29, true), (31, 1, false), (32, 1, false), (33, 1, false)], 34, 376, [.str [], .val (.chan none), .int .i64 0, .int .i64 0, .str [], .str [], .int .i64 0, .int .i64 0, .str [], .int .i64 0, .int .i64 0, .str [], .int .i64 0, .int .i64 0, .int .i64 0, .str [], .int .i64 0, .int .i64 0, .str [], .int .i64 0, .int .i64 0, .str [], .bool .ff, .int .i64 0, .int .i64 0, .str [], .str [], .str [], .str [], .int .i64 0, .int .i64 0, .bool .ff, .str [], .bool .ff], (.pair .str (.pair .bool (.pair (.pair (.int .i64) (.pair (.int .i64) (.pair .str (.pair .str (.pair (.pair (.int .i64) (.pair (.int .i64) .str)) (.pair (.pair (.int .i64) (.pair (.int .i64) .str)) (.pair (.int .i64) (.pair (.pair (.int .i64) (.pair (.int .i64) (.pair .str (.pair (.int .i64) (.pair (.int .i64) (.pair .str (.pair (.pair (.int .i64) (.pair (.int .i64) .str)) .bool))))))) (.pair (.int .i64) (.pair (.int .i64) (.pair .str (.pair .str (.pair .str (.pair .str (.pair (.int .i64) (.int .i64)))))))))))))))) (.pair .bool (.pair .str .bool)))))⟩),
  (63, ⟨.other, 1, 8, [.val .nilFunc], .bool⟩),
  (65, ⟨.other, 1, 8, [.val .nilFunc], .bool⟩),
  (67, ⟨.other, 1, 8, [.val .nilFunc], .bool⟩),
  (68, ⟨.strct [(0, 1, false), (1, 1, false)], 2, 24, [.str [], .int .i64 0], (.pair .str (.int .i64))⟩),
  (69, ⟨.strct [(0, 1, false), (1, 1, false)], 2, 24, [.str [], .int .i64 0], (.pair .str (.int .i64))⟩),
  (71, ⟨.other, 1, 8, [.val .nilFunc], .bool⟩),
  (73, ⟨.other, 1, 8, [.val .nilFunc], .bool⟩),
  (75, ⟨.other, 1, 8, [.val .nilFunc], .bool⟩),
  (77, ⟨.other, 1, 8, [.val .nilFunc], .bool⟩),
  (78, ⟨.other, 1, 8, [.val .nilFunc], .bool⟩),
  (79, ⟨.other, 1, 8, [.val .nilFunc], .bool⟩),
  (80, ⟨.other, 1, 8, [.val .nilFunc], .bool⟩),
  (81, ⟨.other, 1, 8, [.val .nilFunc], .bool⟩),
  (82, ⟨.other, 1, 8, [.val .nilFunc], .bool⟩),
  (83, ⟨.int .u64, 1, 8, [.int .u64 0], (.int .u64)⟩),
  (85, ⟨.other, 1, 8, [.val .nilFunc], .bool⟩),
  (86, ⟨.other, 1, 8, [.val .nilFunc], .bool⟩),
  (87, ⟨.other, 1, 8, [.val .nilFunc], .bool⟩),
  (89, ⟨.other, 1, 8, [.val .nilFunc], .bool⟩),
  (90, ⟨.ptr 92, 1, 8, [.val (.pointer none)], .bool⟩),
  (91, ⟨.strct [(0, 1, false), (1, 1, false), (2, 1, false)], 3, 32, [.str [], .int .i64 0, .bool .ff], (.pair .str (.pair (.int .i64) .bool))⟩),
  (92, ⟨.strct [(0, 1, false), (1, 1, false), (2, 1, false)], 3, 32, [.str [], .int .i64 0, .bool .ff], (.pair .str (.pair (.int .i64) .bool))⟩),
  (93, ⟨.other, 1, 8, [.val .nilFunc], .bool⟩),
  (94, ⟨.other, 1, 8, [.val .nilFunc], .bool⟩),
  (95, ⟨.other, 1, 8, [.val .nilFunc], .bool⟩),
  (96, ⟨.other, 1, 8, [.val .nilFunc], .bool⟩),
  (97, ⟨.strct [(0, 8, true), (8, 1, false), (9, 1, false)], 10, 112, [.int .i64 0, .int .i64 0, .str [], .str [], .str [], .str [], .int .i64 0, .int .i64 0, .int .i64 0, .bool .ff], (.pair (.pair (.int .i64) (.pair (.int .i64) (.pair .str (.pair .str (.pair .str (.pair .str (.pair (.int .i64) (.int .i64)))))))) (.pair (.int .i64) .bool))⟩),
  (98, ⟨.strct [(0, 8, true), (8, 1, false), (9, 1, false)], 10, 112, [.int .i64 0, .int .i64 0, .str [], .str [], .str [], .str [], .int .i64 0, .int .i64 0, .int .i64 0, .bool .ff], (.pair (.pair (.int .i64) (.pair (.int .i64) (.pair .str (.pair .str (.pair .str (.pair .str (.pair (.int .i64) (.int .i64)))))))) (.pair (.int .i64) .bool))⟩),
  (99, ⟨.other, 1, 8, [.val .nilFunc], .bool⟩),
  (100, ⟨.other, 1, 8, [.val .nilFunc], .bool⟩),
  (101, ⟨.other, 1, 8, [.val .nilFunc], .bool⟩),
  (102, ⟨.slice 162, 1, 24, [.val (.slice none 0 0)], (.list (.pair .str (.pair (.int .i64) (.pair (.int .i64) .str))))⟩),
  (103, ⟨.strct [(0, 1, false), (1, 1, false), (2, 1, false)], 3, 48, [.int .i64 0, .str [], .val (.slice none 0 0)], (.pair (.int .i64) (.pair .str (.list (.pair .str (.pair (.int .i64) (.pair (.int .i64) .str))))))⟩),
  (104, ⟨.strct [(0, 1, false), (1, 1, false), (2, 1, false)], 3, 48, [.int .i64 0, .str [], .val (.slice none 0 0)], (.pair (.int .i64) (.pair .str (.list (.pair .str (.pair (.int .i64) (.pair (.int .i64) .str))))))⟩),
  (105, ⟨.other, 1, 8, [.val .nilFunc], .bool⟩),
  (106, ⟨.strct [(0, 1, false), (1, 1, false), (2, 1, false), (3, 1, false), (4, 1, false)], 5, 64, [.int .i64 0, .str [], .int .i64 0, .int .i64 0, .val (.slice none 0 0)], (.pair (.int .i64) (.pair .str (.pair (.int .i64) (.pair (.int .i64) (.list (.pair .str (.pair (.int .i64) (.pair (.int .i64) .str))))))))⟩),
  (107, ⟨.strct [(0, 1, false), (1, 1, false), (2, 1, false), (3, 1, false), (4, 1, false)], 5, 64, [.int .i64 0, .str [], .int .i64 0, .int .i64 0, .val (.slice none 0 0)], (.pair (.int .i64) (.pair .str (.pair (.int .i64) (.pair (.int .i64) (.list (.pair .str (.pair (.int .i64) (.pair (.int .i64) .str))))))))⟩),
  (108, ⟨.other, 1, 8, [.val .nilFunc], .bool⟩),
  (109, ⟨.strct [(0, 1, false), (1, 1, false)], 2, 32, [.str [], .str []], (.pair .str .str)⟩),
  (110, ⟨.strct [(0, 1, false), (1, 1, false)], 2, 32, [.str [], .str []], (.pair .str .str)⟩),
  (111, ⟨.other, 1, 8, [.val .nilFunc], .bool⟩),
  (113, ⟨.ptr 9, 1, 8, [.val (.pointer none)], .bool⟩),
  (114, ⟨.ptr 2, 1, 8, [.val (.pointer none)], .bool⟩),
  (115, ⟨.ptr 49, 1, 8, [.val (.pointer none)], .bool⟩),
  (116, ⟨.ptr 3, 1, 8, [.val (.pointer none)], .bool⟩),
  (117, ⟨.ptr 4, 1, 8, [.val (.pointer none)], .bool⟩),
  (118, ⟨.ptr 53, 1, 8, [.val (.pointer none)], .bool⟩),
  (119, ⟨.ptr 51, 1, 8, [.val (.pointer none)], .bool⟩),
  (120, ⟨.strct [(0, 1, false), (1, 1, false), (2, 1, false), (3, 1, false), (4, 1, false), (5, 1, false), (6, 1, false), (7, 1, false), (8, 1, false), (9, 1, false), (10, 1, false)], 11, 88, [.val (.pointer none), .val (.pointer none), .val (.pointer none), .val (.pointer none), .val (.pointer none), .val (.pointer none), .val (.pointer none), .val (.pointer none), .val (.pointer none), .val (.pointer none), .val (.pointer none)], (.pair .bool (.pair .bool (.pair .bool (.pair .bool (.pair .bool (.pair .bool (.pair .bool (.pair .bool (.pair .bool (.pair .bool .bool))))))))))⟩),
  (121, ⟨.strct [(0, 1, false), (1, 1, false), (2, 1, false), (3, 1, false), (4, 1, false), (5, 1, false), (6, 1, false), (7, 1, false), (8, 1, false), (9, 1, false), (10, 1, false)], 11, 88, [.val (.pointer none), .val (.pointer none), .val (.pointer none), .val (.pointer none), .val (.pointer none), .val (.pointer none), .val (.pointer none), .val (.pointer none), .val (.pointer none), .val (.pointer none), .val (.pointer none)], (.pair .bool (.pair .bool (.pair .bool (.pair .bool (.pair .bool (.pair .bool (.pair .bool (.pair .bool (.pair .bool (.pair .bool .bool))))))))))⟩),
  (122, ⟨.other, 1, 8, [.val .nilFunc], .bool⟩),
  (123, ⟨.ptr 55, 1, 8, [.val (.pointer none)], .bool⟩),
  (124, ⟨.other, 1, 8, [.val .nilFunc], .bool⟩),
  (125, ⟨.array 21 9, 21, 336, [.str [], .str [], .str [], .str [], .str [], .str [], .str [], .str [], .str [], .str [], .str [], .str [], .str [], .str [], .str [], .str [], .str [], .str [], .str [], .str [], .str []], .bool⟩),
  (126, ⟨.other, 1, 8, [.val .nilFunc], .bool⟩),
  (127, ⟨.strct [(0, 1, false), (1, 1, false), (2, 1, false)], 3, 32, [.str [], .int .i64 0, .bool .ff], (.pair .str (.pair (.int .i64) .bool))⟩),
  (128, ⟨.strct [(0, 1, false), (1, 1, false), (2, 1, false)], 3, 32, [.str [], .int .i64 0, .bool .ff], (.pair .str (.pair (.int .i64) .bool))⟩),
  (129, ⟨.other, 1, 8, [.val .nilFunc], .bool⟩),
  (130, ⟨.strct [(0, 1, false), (1, 1, false), (2, 1, false)], 3, 24, [.int .u64 0, .int .i64 0, .bool .ff], (.pair (.int .u64) (.pair (.int .i64) .bool))⟩),
  (131, ⟨.strct [(0, 1, false), (1, 1, false), (2, 1, false)], 3, 24, [.int .u64 0, .int .i64 0, .bool .ff], (.pair (.int .u64) (.pair (.int .i64) .bool))⟩),
  (132, ⟨.other, 1, 8, [.val .nilFunc], .bool⟩),
  (133, ⟨.strct [(0, 3, true), (3, 1, false), (4, 1, false)], 5, 48, [.int .i64 0, .int .i64 0, .str [], .int .i64 0, .bool .ff], (.pair (.pair (.int .i64) (.pair (.int .i64) .str)) (.pair (.int .i64) .bool))⟩),
  (134, ⟨.strct [(0, 3, true), (3, 1, false), (4, 1, false)], 5, 48, [.int .i64 0, .int .i64 0, .str [], .int .i64 0, .bool .ff], (.pair (.pair (.int .i64) (.pair (.int .i64) .str)) (.pair (.int .i64) .bool))⟩),
  (135, ⟨.other, 1, 8, [.val .nilFunc], .bool⟩),
  (136, ⟨.array 4 3, 4, 32, [.int .i64 0, .int .i64 0, .int .i64 0, .int .i64 0], (.pair (.int .i64) (.pair (.int .i64) (.pair (.int .i64) (.int .i64))))⟩),
  (137, ⟨.array 4 9, 4, 64, [.str [], .str [], .str [], .str []], (.pair .str (.pair .str (.pair .str .str)))⟩),
  (138, ⟨.other, 1, 8, [.val .nilFunc], .bool⟩),
  (139, ⟨.other, 1, 8, [.val .nilFunc], .bool⟩),
  (140, ⟨.other, 1, 8, [.val .nilFunc], .bool⟩),
  (141, ⟨.other, 1, 8, [.val .nilFunc], .bool⟩),
  (142, ⟨.other, 1, 8, [.val .nilFunc], .bool⟩),
  (143, ⟨.ptr 149, 1, 8, [.val (.pointer none)], .bool⟩),
  (144, ⟨.ptr 147, 1, 8, [.val (.pointer none)], .bool⟩),
  (145, ⟨.slice 5, 1, 24, [.val (.slice none 0 0)], (.list (.int .u8))⟩),
  (146, ⟨.strct [(0, 1, false), (1, 1, false)], 2, 32, [.val (.pointer none), .val (.slice none 0 0)], (.pair .bool (.list (.int .u8)))⟩),
  (147, ⟨.strct [(0, 1, false), (1, 1, false)], 2, 32, [.val (.pointer none), .val (.slice none 0 0)], (.pair .bool (.list (.int .u8)))⟩),
  (148, ⟨.strct [(0, 2, true)], 2, 32, [.val (.pointer none), .val (.slice none 0 0)], (.pair .bool (.list (.int .u8)))⟩),
  (149, ⟨.strct [(0, 2, true)], 2, 32, [.val (.pointer none), .val (.slice none 0 0)], (.pair .bool (.list (.int .u8)))⟩),
  (150, ⟨.other, 1, 8, [.val .nilFunc], .bool⟩),
  (151, ⟨.other, 1, 16, [.val .nilIface], .bool⟩),
  (152, ⟨.other, 1, 16, [.val .nilIface], .bool⟩),
  (154, ⟨.other, 1, 8, [.val .nilFunc], .bool⟩),
  (155, ⟨.other, 1, 8, [.val .nilFunc], .bool⟩),
  (156, ⟨.other, 1, 8, [.val .nilFunc], .bool⟩),
  (157, ⟨.other, 1, 8, [.val .nilFunc], .bool⟩),
  (158, ⟨.other, 1, 8, [.val .nilFunc], .bool⟩),
  (159, ⟨.other, 1, 8, [.val .nilFunc], .bool⟩),
  (160, ⟨.other, 1, 8, [.val .nilFunc], .bool⟩),
  (161, ⟨.strct [(0, 1, false), (1, 3, true)], 4, 48, [.str [], .int .i64 0, .int .i64 0, .str []], (.pair .str (.pair (.int .i64) (.pair (.int .i64) .str)))⟩),
  (162, ⟨.strct [(0, 1, false), (1, 3, true)], 4, 48, [.str [], .int .i64 0, .int .i64 0, .str []], (.pair .str (.pair (.int .i64) (.pair (.int .i64) .str)))⟩),
  (163, ⟨.other, 1, 8, [.val .nilFunc], .bool⟩),
  (164, ⟨.other, 1, 8, [.val .nilFunc], .bool⟩),
  (165, ⟨.strct [(0, 1, false), (1, 1, false), (2, 1, false)], 3, 24, [.int .i64 0, .int .i64 0, .bool .ff], (.pair (.int .i64) (.pair (.int .i64) .bool))⟩),
  (166, ⟨.strct [(0, 1, false), (1, 1, false), (2, 1, false)], 3, 24, [.int .i64 0, .int .i64 0, .bool .ff], (.pair (.int .i64) (.pair (.int .i64) .bool))⟩),
  (167, ⟨.other, 1, 8, [.val .nilFunc], .bool⟩),
  (169, ⟨.other, 1, 8, [.val .nilFunc], .bool⟩),
  (170, ⟨.other, 1, 8, [.val .nilFunc], .bool⟩),
  (171, ⟨.other, 1, 8, [.val .nilFunc], .bool⟩),
  (172, ⟨.slice 34, 1, 24, [.val (.slice none 0 0)], (.list (.list .str))⟩),
  (173, ⟨.other, 1, 8, [.val .nilFunc], .bool⟩),
  (174, ⟨.ptr 5, 1, 8, [.val (.pointer none)], .bool⟩),
  (175, ⟨.int .u64, 1, 8, [.int .u64 0], (.int .u64)⟩),
  (176, ⟨.other, 1, 8, [.val .nilFunc], .bool⟩),
  (177, ⟨.other, 1, 8, [.val .nilFunc], .bool⟩),
  (178, ⟨.other, 1, 8, [.val .nilFunc], .bool⟩),
  (180, ⟨.other, 1, 8, [.val .nilFunc], .bool⟩),
  (182, ⟨.other, 1, 8, [.val .nilFunc], .bool⟩),
  (184, ⟨.other, 1, 8, [.val .nilFunc], .bool⟩),
  (185, ⟨.other, 1, 8, [.val .nilFunc], .bool⟩),
  (186, ⟨.other, 1, 8, [.val .nilFunc], .bool⟩),
  (187, ⟨.other, 1, 8, [.val .nilFunc], .bool⟩),
  (188, ⟨.other, 1, 8, [.val .nilFunc], .bool⟩),
  (189, ⟨.other, 1, 8, [.val .nilFunc], .bool⟩),
  (190, ⟨.other, 1, 8, [.val .nilFunc], .bool⟩),
  (191, ⟨.other, 1, 8, [.val .nilFunc], .bool⟩),
  (193, ⟨.other, 1, 8, [.val .nilFunc], .bool⟩),
  (194, ⟨.slice 3, 1, 24, [.val (.slice none 0 0)], (.list (.int .i64))⟩),
  (195, ⟨.other, 1, 8, [.val .nilFunc], .bool⟩),
  (196, ⟨.other, 1, 8, [.val .nilFunc], .bool⟩),
  (197, ⟨.other, 1, 8, [.val .nilFunc], .bool⟩),
  (199, ⟨.other, 1, 8, [.val .nilFunc], .bool⟩),
  (200, ⟨.slice 116, 1, 24, [.val (.slice none 0 0)], (.list .bool)⟩),
  (201, ⟨.slice 113, 1, 24, [.val (.slice none 0 0)], (.list .bool)⟩),
  (202, ⟨.other, 1, 8, [.val .nilFunc], .bool⟩),
  (203, ⟨.array 6 9, 6, 96, [.str [], .str [], .str [], .str [], .str [], .str []], (.pair .str (.pair .str (.pair .str (.pair .str (.pair .str .str)))))⟩),
  (204, ⟨.other, 1, 8, [.val .nilFunc], .bool⟩),
  (206, ⟨.strct [(0, 1, false), (1, 1, false), (2, 1, false)], 3, 32, [.int .i64 0, .int .i64 0, .str []], (.pair (.int .i64) (.pair (.int .i64) .str))⟩),
  (207, ⟨.map 3 204 (.int .i64), 1, 8, [.val (.map none)], .bool⟩),
  (208, ⟨.ptr 34, 1, 8, [.val (.pointer none)], .bool⟩),
  (209, ⟨.other, 1, 8, [.val .nilFunc], .bool⟩),
  (210, ⟨.ptr 38, 1, 8, [.val (.pointer none)], .bool⟩),
  (211, ⟨.other, 1, 8, [.val .nilFunc], .bool⟩),
  (212, ⟨.other, 1, 8, [.val .nilFunc], .bool⟩),
  (213, ⟨.other, 1, 8, [.val .nilFunc], .bool⟩),
  (214, ⟨.other, 1, 8, [.val .nilFunc], .bool⟩),
  (215, ⟨.map 53 3 (.pair (.int .i64) (.pair (.int .i64) (.pair .str (.pair .str (.pair .str (.pair .str (.pair (.int .i64) (.int .i64)))))))), 1, 8, [.val (.map none)], .bool⟩),
  (216, ⟨.other, 1, 8, [.val .nilFunc], .bool⟩),
  (217, ⟨.other, 1, 8, [.val .nilFunc], .bool⟩),
  (218, ⟨.other, 1, 8, [.val .nilFunc], .bool⟩),
  (219, ⟨.strct [(0, 1, false), (1, 1, false), (2, 1, false), (3, 1, false)], 4, 40, [.val (.pointer none), .val (.pointer none), .val (.pointer none), .str []], (.pair .bool (.pair .bool (.pair .bool .str)))⟩),
  (220, ⟨.strct [(0, 1, false), (1, 1, false), (2, 1, false), (3, 1, false)], 4, 40, [.val (.pointer none), .val (.pointer none), .val (.pointer none), .str []], (.pair .bool (.pair .bool (.pair .bool .str)))⟩),
  (224, ⟨.int .u32, 1, 4, [.int .u32 0], (.int .u32)⟩),
  (225, ⟨.int .u8, 1, 1, [.int .u8 0], (.int .u8)⟩),
  (226, ⟨.int .u8, 1, 1, [.int .u8 0], (.int .u8)⟩),
  (227, ⟨.other, 1, 8, [.val .nilFunc], .bool⟩),
  (228, ⟨.int .i32, 1, 4, [.int .i32 0], (.int .i32)⟩),
  (229, ⟨.int .i32, 1, 4, [.int .i32 0], (.int .i32)⟩),
  (230, ⟨.strct [(0, 1, false), (1, 1, false), (2, 1, false), (3, 1, false), (4, 1, false), (5, 1, false), (6, 1, false), (7, 1, false), (8, 1, false), (9, 1, false), (10, 1, false)], 11, 48, [.int .u64 0, .int .u64 0, .int .u32 0, .int .u8 0, .int .u8 0, .int .u8 0, .int .u8 0, .val .nilFunc, .val (.pointer none), .int .i32 0, .int .i32 0], (.pair (.int .u64) (.pair (.int .u64) (.pair (.int .u32) (.pair (.int .u8) (.pair (.int .u8) (.pair (.int .u8) (.pair (.int .u8) (.pair .bool (.pair .bool (.pair (.int .i32) (.int .i32)))))))))))⟩),
  (231, ⟨.strct [(0, 1, false), (1, 1, false), (2, 1, false), (3, 1, false), (4, 1, false), (5, 1, false), (6, 1, false), (7, 1, false), (8, 1, false), (9, 1, false), (10, 1, false)], 11, 48, [.int .u64 0, .int .u64 0, .int .u32 0, .int .u8 0, .int .u8 0, .int .u8 0, .int .u8 0, .val .nilFunc, .val (.pointer none), .int .i32 0, .int .i32 0], (.pair (.int .u64) (.pair (.int .u64) (.pair (.int .u32) (.pair (.int .u8) (.pair (.int .u8) (.pair (.int .u8) (.pair (.int .u8) (.pair .bool (.pair .bool (.pair (.int .i32) (.int .i32)))))))))))⟩)]
theorem tab_ok : TabOk Tryz.prog (lk tab) := tab_of (by kernel_rfl)
noncomputable def EnI (inl : Nat → Option (FI × Code)) (post : SV → St → Prop) : En := ⟨Tryz.prog, lk tab, inl, post⟩
def noI : Nat → Option (FI × Code) := fun _ => none
noncomputable def fiOf (f : Func) : FI := ⟨f, f.ntmps, f.results.toList⟩
noncomputable def bodyOf (f : Func) : Code := f.body.getD .skip
/-- the functions that are gone through where they are called -/
class InlOk (inl : Nat → Option (FI × Code)) : Prop where
  out : ∀ post, EnOk (EnI inl post)
instance : InlOk noI := ⟨fun _ => ⟨tab_ok, fun _ _ _ h => by cases h⟩⟩
theorem inl_nil : InlOk (lk []) := ⟨fun _ => ⟨tab_ok, fun _ _ _ h => by cases h⟩⟩
theorem inl_cons {f : Nat} {fn : Func} {c : Code} {l : List (Nat × FI × Code)} (hf : Tryz.prog.funcs[f]? = some fn) (hb : fn.body = some c) (hn : (fn.name == "runtime.NumGoroutine") = false) (h : InlOk (lk l)) : InlOk (lk ((f, fiOf fn, c) :: l)) := by
  refine ⟨fun post => ⟨tab_ok, fun g fi c' hg => ?_⟩⟩
  have hg : lk ((f, fiOf fn, c) :: l) g = some (fi, c') := hg
  simp only [lk] at hg
  by_cases e : g = f
  · rw [if_pos e] at hg
    simp only [Option.some.injEq, Prod.mk.injEq] at hg
    obtain ⟨rfl, rfl⟩ := hg
    subst e
    exact ⟨hf, hb, hn, rfl, rfl⟩
  · rw [if_neg e] at hg
    exact (h.out post).inl g fi c' hg
theorem mixed : Tryz.prog.follows .mixedOrders = true := by kernel_rfl
theorem fnI (inl : Nat → Option (FI × Code)) [hI : InlOk inl] {f : Nat} {fn : Func} {c : Code} {args : List SV} {post : SV → Prop} (hf : Tryz.prog.funcs[f]? = some fn) (hb : fn.body = some c) (hn : (fn.name == "runtime.NumGoroutine") = false)
    (hl : Nat.ble args.length fn.ntmps = true) (h : fcN (fun fr => go (EnI inl (Post post)) 100000 (fiOf fn) [.code c] ⟨fr, [], 0⟩ []) (num args 0)) : FnD Tryz.prog f args post :=
  fn_of (E := EnI inl (Post post)) (fi := fiOf fn) hf hb hn rfl rfl (Nat.le_of_ble_eq_true hl) rfl (go_sound (hI.out (Post post)) _ _ _ _ _ (by rw [fcN_eq] at h; exact h))
theorem fn0 {f : Nat} {fn : Func} {c : Code} {args : List SV} {post : SV → Prop} (hf : Tryz.prog.funcs[f]? = some fn) (hb : fn.body = some c) (hn : (fn.name == "runtime.NumGoroutine") = false)
    (hl : Nat.ble args.length fn.ntmps = true) (h : fcN (fun fr => go (EnI noI (Post post)) 100000 (fiOf fn) [.code c] ⟨fr, [], 0⟩ []) (num args 0)) : FnD Tryz.prog f args post := fnI noI hf hb hn hl h
theorem fnP (inl : Nat → Option (FI × Code)) [hI : InlOk inl] {f : Nat} {fn : Func} {c : Code} {args : List SV} {hpI hpO : List (Nat × Ob)} {n n2 : Nat} {kp : List (Nat × Bool)} {s : SV} (hf : Tryz.prog.funcs[f]? = some fn) (hb : fn.body = some c) (hn : (fn.name == "runtime.NumGoroutine") = false)
    (hl : Nat.ble args.length fn.ntmps = true) (hk : (kpOk hpI kp && kpOk hpO kp) = true) (h : fcN (fun fr => fcN (fun fr0 => go (EnI inl (fun _ _ => False)) 100000 (fiOf fn) [.code c] ⟨fr, hpI, n⟩ [⟨⟨fn, kp.length + 1, fn.results.toList⟩, fr0, [.fin (PostP kp s hpO n2)], some 0⟩]) (num (.un :: kp.map slP) 0)) (num args 0)) : FnP Tryz.prog f args hpI n kp s hpO n2 :=
  fnp_of (E := EnI inl (fun _ _ => False)) (fi := fiOf fn) hf hb hn rfl rfl (Nat.le_of_ble_eq_true hl) (by simp only [Bool.and_eq_true] at hk; exact hk.1) (by simp only [Bool.and_eq_true] at hk; exact hk.2) (go_sound (hI.out _) _ _ _ _ _ (by rw [fcN_eq, fcN_eq] at h; exact h))
section
variable {inl : Nat → Option (FI × Code)} [hI : InlOk inl]
theorem go0 {post : SV → St → Prop} {cur : FI} {t : List It} {st : St} {stk : List Fm} (h : go (EnI inl post) 100000 cur t st stk) : Mean (EnI inl post) cur t st stk := go_sound (hI.out post) _ _ _ _ _ h
theorem call0 {post : SV → St → Prop} {pf : SV → Prop} {cur : FI} {f : Nat} {args : List SV} {all : Array Oper} {o : Oper} {l : List Oper} {r : List It} {fr : List (Nat × SV)} {hp : List (Nat × Ob)} {nx : Nat} {stk : List Fm} (hF : FnD Tryz.prog f args pf) (hd : args.all isDs = true)
    (hk : ∀ s, pf s → fcF (fun fr' => go (EnI inl post) 100000 cur (.ops all l :: r) ⟨fr', hp, nx⟩ stk) (putF cur.nt fr o.dst s)) : CallOk (EnI inl post) cur f args all o l r ⟨fr, hp, nx⟩ stk :=
  call_rule (E := EnI inl post) hF hd fun s hs => go0 (by have := hk s hs; rw [fcF_eq] at this; exact this)
theorem call1 {post : SV → St → Prop} {cur : FI} {f : Nat} {args : List SV} {s : SV} {all : Array Oper} {o : Oper} {l : List Oper} {r : List It} {fr : List (Nat × SV)} {hp : List (Nat × Ob)} {nx : Nat} {stk : List Fm} (hF : FnD Tryz.prog f args (· = s)) (hd : args.all isDs = true)
    (hk : fcF (fun fr' => go (EnI inl post) 100000 cur (.ops all l :: r) ⟨fr', hp, nx⟩ stk) (putF cur.nt fr o.dst s)) : CallOk (EnI inl post) cur f args all o l r ⟨fr, hp, nx⟩ stk :=
  call0 hF hd fun s' hs => by subst hs; exact hk
/-- objects are handed to a call by a pointer, with the rows that they hold -/
theorem callp0 {post : SV → St → Prop} {cur : FI} {f : Nat} {args : List SV} {all : Array Oper} {o : Oper} {l : List Oper} {r : List It} {fr : List (Nat × SV)} {hp : List (Nat × Ob)} {nx : Nat} {stk : List Fm} (bs : List Nat) {kp : List (Nat × Bool)} {s : SV} {hpO : List (Nat × Ob)} {n2 : Nat}
    (hg : gdP (memP bs) hp bs = true) (hn : ndP bs = true) (hF : FnP Tryz.prog f (args.map (rnS (ixP bs))) (inP (ixP bs) hp 0 bs) bs.length kp s hpO n2) (ha : args.all (gkS (memP bs) (fun _ => true)) = true) (hn2 : Nat.ble bs.length n2 = true)
    (hkn : (kp.all fun p => Nat.blt p.1 bs.length) = true) (ho : outP (okP bs.length n2 kp) (okR bs.length kp) hpO = true) (hos : gkS (okP bs.length n2 kp) (okR bs.length kp) s = true)
    (hk : fcS (fun s => fcH (fun hp' => fcF (fun fr' => go (EnI inl post) 100000 cur (.ops all l :: r) ⟨fr', hp', nx + (n2 - bs.length)⟩ stk) (putF cur.nt fr o.dst s)) (apC hp (chP (exP nx bs) hpO 0 n2))) (rnS (exP nx bs) s)) : CallOk (EnI inl post) cur f args all o l r ⟨fr, hp, nx⟩ stk :=
  callp_rule (E := EnI inl post) bs hg hn hF ha hn2 hkn ho hos (go0 (by rw [fcS_eq, fcH_eq, fcF_eq] at hk; exact hk))
theorem callrp0 {post : SV → St → Prop} {cur : FI} {f : Nat} {args : List SV} {all : Array Oper} {o : Oper} {l : List Oper} {r : List It} {stk : List Fm} {n0 j : Nat} {recs : List Rec} {fin fr : List (Nat × SV)} {hin0 hin hp : List (Nat × Ob)} (bs : List Nat) {kp : List (Nat × Bool)} {s : SV} {hpO : List (Nat × Ob)} {n2 : Nat}
    (hh : hin = kh hp bs) (hg : gdP (memP bs) hin bs = true) (hn : ndP bs = true) (hF : FnP Tryz.prog f (args.map (rnS (ixP bs))) (inP (ixP bs) hin 0 bs) bs.length kp s hpO n2) (ha : args.all (gkS (memP bs) (fun _ => true)) = true) (hn2 : Nat.ble bs.length n2 = true) (hn3 : Nat.ble n2 (bs.length + 1) = true)
    (hkn : (kp.all fun p => Nat.blt p.1 bs.length) = true) (ho : outP (okP bs.length n2 kp) (okR bs.length kp) hpO = true) (hos : gkS (okP bs.length n2 kp) (okR bs.length kp) s = true)
    (un : List Nat) (hun : (un.map fun i => lk hin (exP (n0 + j) bs i)) = un.map fun i => (lk hpO i).map (rnO (exP (n0 + j) bs))) (hus : (un.all fun i => (lk hin (exP (n0 + j) bs i)).isSome) = true)
    (hk : fcH (fun hin => fcS (fun s => putR all j cur.nt o fin hin (chU un (exP (n0 + j) bs) hpO 0 n2) fr hp (fun rc => goR (EnI inl post) cur all r stk n0 1000 (j + 1) l (recs ++ [rc])) s) (rnS (exP (n0 + j) bs) s)) hin) : CallR (EnI inl post) cur f args all o l r stk n0 j recs fin hin0 fr hp :=
  callrp_rule (E := EnI inl post) bs (hI.out post) hh hg hn hF ha hn2 hn3 hkn ho hos un hun hus (by rw [fcH_eq, fcS_eq] at hk; exact hk)
theorem loop0 {post : SV → St → Prop} {cur : FI} {c : Code} {r : List It} {st : St} {stk : List Fm} {α : Type} (I : α → Prop) (σ : α → St) (μ : α → Nat) (h0 : ∃ x, I x ∧ sub (σ x) st stk)
    (round : ∀ x, I x → go (EnI inl post) 100000 cur (.code c :: .fin (fun st' => ∃ y, (I y ∧ μ y < μ x) ∧ sub (σ y) st' stk) :: r) (σ x) stk) : LoopOk (EnI inl post) cur c r st stk :=
  loop_rule (E := EnI inl post) I σ μ h0 fun x hx => go0 (round x hx)
theorem any0 {post : SV → St → Prop} {cur : FI} {id : Nat} {all : Array Oper} {r : List It} {fr : List (Nat × SV)} {hp : List (Nat × Ob)} {nx : Nat} {stk : List Fm} (h : goR (EnI inl post) cur all r stk nx 1000 0 all.toList [] fr hp) :
    DrawOk (EnI inl post) cur id all r ⟨fr, hp, nx⟩ stk := any_rule (E := EnI inl post) (hI.out post) mixed h
theorem callr0 {post : SV → St → Prop} {cur : FI} {f : Nat} {args : List SV} {all : Array Oper} {o : Oper} {l : List Oper} {r : List It} {stk : List Fm} {n0 j : Nat} {recs : List Rec} {fin fr : List (Nat × SV)} {hin hp : List (Nat × Ob)} {s : SV}
    (hF : FnD Tryz.prog f args (· = s)) (hd : args.all isDs = true) (hk : putR all j cur.nt o fin hin [] fr hp (fun rc => goR (EnI inl post) cur all r stk n0 1000 (j + 1) l (recs ++ [rc])) s) :
    CallR (EnI inl post) cur f args all o l r stk n0 j recs fin hin fr hp := callr_rule (E := EnI inl post) (hI.out post) hF hd hk
omit hI in
theorem callg0 {post : SV → St → Prop} {C : Prop} {f : Nat} {args : List SV} {s : SV} {K : SV → Prop} (hF : C → FnD Tryz.prog f args (· = s)) (hd : args.all isDs = true) (hk : K s) : CallG (EnI inl post) C f args K := callg_rule (E := EnI inl post) hF hd hk
theorem lendr0 {post : SV → St → Prop} {cur : FI} {f : Nat} {args : List SV} {all : Array Oper} {o : Oper} {l : List Oper} {r : List It} {stk : List Fm} {n0 j : Nat} {recs : List Rec} {fin fr : List (Nat × SV)} {hin hp : List (Nat × Ob)} {s : SV}
    (hF : FnD Tryz.prog f (args.map (ldS hin)) (· = s)) (hd : (args.map (ldS hin)).all isDs = true) (hsc : scS s = true) (hk : putR all j cur.nt o fin hin [] fr hp (fun rc => goR (EnI inl post) cur all r stk n0 1000 (j + 1) l (recs ++ [rc])) s) :
    CallR (EnI inl post) cur f args all o l r stk n0 j recs fin hin fr hp := lendr_rule (E := EnI inl post) (hI.out post) hF hd hsc hk
theorem lend0 {post : SV → St → Prop} {cur : FI} {f : Nat} {args : List SV} {s : SV} {all : Array Oper} {o : Oper} {l : List Oper} {r : List It} {fr : List (Nat × SV)} {hp : List (Nat × Ob)} {nx : Nat} {stk : List Fm} (hF : FnD Tryz.prog f (args.map (ldS hp)) (· = s)) (hd : (args.map (ldS hp)).all isDs = true) (hsc : scS s = true)
    (hk : fcF (fun fr' => go (EnI inl post) 100000 cur (.ops all l :: r) ⟨fr', hp, nx⟩ stk) (putF cur.nt fr o.dst s)) : CallOk (EnI inl post) cur f args all o l r ⟨fr, hp, nx⟩ stk :=
  lend_rule (E := EnI inl post) hF hd (fun s' hs => by subst hs; exact hsc) fun s' hs => go0 (by subst hs; rw [fcF_eq] at hk; exact hk)
theorem x0 {post : SV → St → Prop} {cur : FI} {all : Array Oper} {recs : List Rec} (i j : Nat) {oi : Oper} {fin : List (Nat × SV)} {hin : List (Nat × Ob)} {v : SV} {rj : Rec} {c : Nat} {ob : Ob} {q : Q} (hij : Nat.blt i j = true)
    (hc : chkFrom cur.nt (some (i, j)) 0 [] all.toList recs = true) (ho : all.toList[i]? = some oi) (hi : recs[i]? = some ⟨fin, hin, v, []⟩) (hj : recs[j]? = some rj) (hch : rj.ch = [(c, some ob)]) (hg : oi.guard = none)
    (hq : qm (lk tab) (altH hin c ob) (ev fin) oi.op = some q) (hp : OP q.pre) (hv : q.v = v) : Chk (EnI inl post) cur all recs := x_rule (E := EnI inl post) (hI.out post) i j hij hc ho hi hj hch hg hq hp hv
theorem unroll0 {post : SV → St → Prop} {cur : FI} {c : Code} {r : List It} {st : St} {stk : List Fm} (n : Nat) (h : RoundsG (EnI inl post) cur c r stk n st) : LoopOk (EnI inl post) cur c r st stk := unroll_rule (E := EnI inl post) (hI.out post) n h
omit hI in
omit hI in
theorem callrg0 {post : SV → St → Prop} {C : Prop} {f : Nat} {args : List SV} {s : SV} {K : SV → Prop} (hF : C → FnD Tryz.prog f args (· = s)) (hd : args.all isDs = true) (hk : K s) : CallRG (EnI inl post) C f args K := callrg_rule (E := EnI inl post) hF hd hk
section
variable {post : SV → St → Prop} {cur : FI} {all : Array Oper} {o : Oper} {l : List Oper} {r : List It} {fr : List (Nat × SV)} {hp : List (Nat × Ob)} {nx : Nat} {stk : List Fm}
theorem fz0 (b : Nat) {T : TypeId} {d : D} {xs : List d.T} {t : List It} (hb : lk hp b = some (.row T d xs)) (h : fcH (fun hp' => fcN (fun fr' => go (EnI inl post) 100000 cur t ⟨fr', hp', nx⟩ stk) (fzF b d xs fr)) (fzH b d xs (rm hp b))) : Mean (EnI inl post) cur t ⟨fr, hp, nx⟩ stk :=
  freeze_rule hb (go0 (by rw [fcH_eq, fcN_eq] at h; exact h))
theorem fzd (b : Nat) {T : TypeId} {d : D} {xs : List d.T} {id : Nat} (hb : lk hp b = some (.row T d xs))
    (h : fcH (fun hp' => fcN (fun fr' => go (EnI inl post) 100000 cur (.code (.region id all true) :: r) ⟨fr', hp', nx⟩ stk) (fzF b d xs fr)) (fzH b d xs (rm hp b))) : DrawOk (EnI inl post) cur id all r ⟨fr, hp, nx⟩ stk :=
  ⟨fz0 b hb h⟩
theorem nilrc0 (b i T' : Nat) (d : D) {T : TypeId} {l' : List C} {f : Nat} {args : List SV} (hb : lk hp b = some (.cells T l')) (hi : l'[i]? = some (.val (.slice none 0 0)))
    (h : fcH (fun hp' => go (EnI inl post) 100000 cur (.ops all (⟨o.dst, o.op, o.type, o.pos, o.after, none⟩ :: l) :: r) ⟨fr, hp', nx + 1⟩ stk) ((b, .cells T (l'.set i (.row nx))) :: rm ((nx, .row T' d []) :: hp) b)) : CallOk (EnI inl post) cur f args all o l r ⟨fr, hp, nx⟩ stk :=
  ⟨fun _ => nilrow_rule T' d hb hi (go0 (by rw [fcH_eq] at h; exact h))⟩
theorem eqs0 (d : D) {t rt : TypeId} {x y : Operand} {p q : d.T} (n : Nat) (ho : o.op = .binOp .eql t x y rt) (hB : eqtB Tryz.prog n t d = true) (hn : Nat.ble n 10000 = true) (hg : Tryz.prog.eqGuardType Tryz.prog.depth t = false) (hpr : isPr d = true) (hx : psS d (ev fr x) = some p) (hy : psS d (ev fr y) = some q)
    (hm : fcF (fun fr' => go (EnI inl post) 100000 cur (.ops all l :: r) ⟨fr', hp, nx⟩ stk) (putF cur.nt fr o.dst (.c (.bool (.sym (d.eqb p q)))))) : StuckOk (EnI inl post) cur all o l r ⟨fr, hp, nx⟩ stk :=
  eqs_rule (E := EnI inl post) d ho hB hn hg hpr hx hy (go0 (by rw [fcF_eq] at hm; exact hm))
end
theorem after0 {post : SV → St → Prop} {cur : FI} {r : List It} {st : St} {stk : List Fm} (h : go (EnI inl post) 100000 cur r st stk) : AfterQ (EnI inl post) cur r st stk := ⟨go0 h⟩
end
end Go.Proofs.YtmdjonckcapkeaaGreatDoor
/- OE, part 21: channels, in one goroutine: made, counted; a send where there is room; a select of one receive with a default. Own work; generic over the program. -/
namespace OE
open Go Go.RowKit Go.Conc

section
variable {P : Program} {ops : Array Oper}
/-- operations that yield each a value and leave the memory as it is, one behind the other -/
def PreR (P : Program) (ops : Array Oper) (w : World) : List Nat → Act → Act → Prop
  | [], a, a1 => a1 = a
  | i :: l, a, a1 => ∃ o v, ops[i]? = some o ∧ o.guard = none ∧ (execOp a.eval o).run P w = .ok (.value v) w ∧ PreR P ops w l (a.put o.dst v) a1
theorem PreR.steps {w : World} {b : Frame} {k : List Item} {cs : List Frame} : ∀ {l rest : List Nat} {a a1 : Act}, PreR P ops w l a a1 → Steps P (lone (b.at a (.inRegion ops (l ++ rest) :: k)) cs w) (lone (b.at a1 (.inRegion ops rest :: k)) cs w)
  | [], rest, a, a1, h => by
    have h : a1 = a := h
    subst h
    exact Steps.refl _ _
  | i :: l, rest, a, a1, ⟨o, v, ho, hg, hr, h⟩ => by
    have hs := stepG_op (P := P) (b := b) (a := a) (k := k) (cs := cs) (w := w) (rest := l ++ rest) ho (by simp [Region.wanted, hg])
    have hf : (b.at a (.inRegion ops (i :: (l ++ rest)) :: k)).finish v = b.at (a.put o.dst v) (.inRegion ops (l ++ rest) :: k) := by rw [Frame.finish_at, ho]; rfl
    refine Steps.head (step_lone_go (fr' := b.at (a.put o.dst v) (.inRegion ops (l ++ rest) :: k)) (cs' := cs) (w' := w) ?_) (PreR.steps h)
    rw [List.cons_append, hs, ← hf]
    simp [stepG.apply, hr]
theorem wp_comm {id n : Nat} {o : Oper} {v : Value} {w w' : World} {Q : Exit → Act → World → Prop} {a a1 : Act} (hpre : PreR P ops w (List.range n) a a1) (ho : ops[n]? = some o)
    (hst : ∀ (b : Frame) (rest : List Nat) (k : List Item) (cs : List Frame), b.kind = .normal → step P (lone (b.at a1 (.inRegion ops (n :: rest) :: k)) cs w) = .next (lone ((b.at a1 (.inRegion ops (n :: rest) :: k)).finish v) cs w'))
    (hpost : wpList P ops Q (ops.toList.drop (n + 1)) (a1.put o.dst v) w') : WP P (.region id ops false) Q a w := by
  intro b hb k cs
  have hlt : n < ops.size := (Array.getElem?_eq_some_iff.1 ho).1
  have hr : List.range ops.size = List.range n ++ n :: List.range' (n + 1) (ops.size - (n + 1)) := by
    obtain ⟨m, hm⟩ : ∃ m, ops.size = n + (m + 1) := ⟨ops.size - n - 1, by omega⟩
    rw [hm, show n + (m + 1) - (n + 1) = m by omega, List.range_eq_range', List.range_eq_range', ← List.range'_append_1, Nat.zero_add, List.range'_succ]
  have hp : wpOps P ops Q (List.range' (n + 1) (ops.size - (n + 1))) (a1.put o.dst v) w' := by
    have e := wpOps_eq_wpList (P := P) (ops := ops) (Q := Q) (ops.toList.drop (n + 1)) (n + 1) (fun j => by simp [List.getElem?_drop])
    rw [List.length_drop, Array.length_toList] at e
    rw [e]
    exact hpost
  obtain ⟨e, a2, w2, q, r⟩ := wp_ops _ _ _ hp b k cs
  have h2 := hst b (List.range' (n + 1) (ops.size - (n + 1))) k cs hb
  rw [Frame.finish_at, ho] at h2
  refine ⟨e, a2, w2, q, Arrives.of_steps (Steps.head step_region ?_) r⟩
  rw [hr]
  exact (PreR.steps hpre).trans (Steps.one h2)
theorem send_step {n : Nat} {o : Oper} {ch x : Operand} {c cap s r : Nat} {buf : Array Value} {v : Value} {w : World} {a1 : Act} (ho : ops[n]? = some o) (hg : o.guard = none) (hop : o.op = .send ch x) (hc : a1.eval ch = .chan (some c)) (hx : a1.eval x = v)
    (hb : w.heap[c]? = some (.chan cap buf false s r false)) (hroom : buf.size < cap) (b : Frame) (rest : List Nat) (k : List Item) (cs : List Frame) (hk : b.kind = .normal) :
    step P (lone (b.at a1 (.inRegion ops (n :: rest) :: k)) cs w) = .next (lone ((b.at a1 (.inRegion ops (n :: rest) :: k)).finish undef) cs (w.setChan c cap (buf.push v) false (s + 1) r false)) := by
  have hs := stepG_comm (P := P) (main := true) (b := b) (a := a1) (k := k) (cs := cs) (w := w) (rest := rest) (cases := #[scase c v (.tuple #[])]) (blocking := true) (shape := .send) (w' := w) ho (by simp [Region.wanted, hg]) (by rw [hk]; intro h; cases h) (by simp [execOp, hop, hc, hx, scase])
  exact step_lone_send_room hs hb hroom
theorem sel_run {o : Oper} {sc : SelectCase} {c : Nat} {z : Value} {w : World} {a1 : Act} {bl : Bool} (hop : o.op = .select #[sc] bl) (hsc : sc.send = none) (hc : a1.eval sc.chan = .chan (some c)) (hz : (zeroValue sc.elem).run P w = .ok z w) :
    (execOp a1.eval o).run P w = .ok (.comm #[rcase c z] bl .select) w := by
  simp [execOp, hop, hsc, hc, hz, rcase]
theorem sel_none {n : Nat} {o : Oper} {sc : SelectCase} {c cap s r : Nat} {z : Value} {w : World} {a1 : Act} (ho : ops[n]? = some o) (hg : o.guard = none) (hop : o.op = .select #[sc] false) (hsc : sc.send = none) (hc : a1.eval sc.chan = .chan (some c)) (hz : (zeroValue sc.elem).run P w = .ok z w)
    (hb : w.heap[c]? = some (.chan cap #[] false s r false)) (b : Frame) (rest : List Nat) (k : List Item) (cs : List Frame) (hk : b.kind = .normal) :
    step P (lone (b.at a1 (.inRegion ops (n :: rest) :: k)) cs w) = .next (lone ((b.at a1 (.inRegion ops (n :: rest) :: k)).finish (.tuple #[goInt (-1), .bool false, z])) cs w) := by
  have hs := stepG_comm (P := P) (main := true) (b := b) (a := a1) (k := k) (cs := cs) (w := w) (rest := rest) (cases := #[rcase c z]) (blocking := false) (shape := .select) (w' := w) ho (by simp [Region.wanted, hg]) (by rw [hk]; intro h; cases h) (sel_run hop hsc hc hz)
  exact step_lone_select_default hs hb
theorem sel_some {n : Nat} {o : Oper} {sc : SelectCase} {c cap s r : Nat} {buf : Array Value} {z : Value} {w : World} {a1 : Act} {bl : Bool} (ho : ops[n]? = some o) (hg : o.guard = none) (hop : o.op = .select #[sc] bl) (hsc : sc.send = none) (hc : a1.eval sc.chan = .chan (some c)) (hz : (zeroValue sc.elem).run P w = .ok z w)
    (hb : w.heap[c]? = some (.chan cap buf false s r false)) (hsome : 0 < buf.size) (b : Frame) (rest : List Nat) (k : List Item) (cs : List Frame) (hk : b.kind = .normal) :
    step P (lone (b.at a1 (.inRegion ops (n :: rest) :: k)) cs w) = .next (lone ((b.at a1 (.inRegion ops (n :: rest) :: k)).finish (.tuple #[goInt 0, .bool true, buf.getD 0 undef])) cs (w.setChan c cap (buf.extract 1 buf.size) false s (r + 1) false)) := by
  have hs := stepG_comm (P := P) (main := true) (b := b) (a := a1) (k := k) (cs := cs) (w := w) (rest := rest) (cases := #[rcase c z]) (blocking := bl) (shape := .select) (w' := w) ho (by simp [Region.wanted, hg]) (by rw [hk]; intro h; cases h) (sel_run hop hsc hc hz)
  have h := step_lone_sel_recv_buf (k := 0) hs rfl (fun m c' hm hc' => by
    rcases m with _ | m
    · exact absurd rfl hm
    · simp at hc') hb hsome
  simp [commResult, rcase] at h ⊢
  exact h
end

/-! ### regions that draw their order -/
/-- each order that may be drawn -/
def ordsG (ops : Array Oper) : Nat → Array Bool → List (List Nat)
  | 0, _ => [[]]
  | f + 1, listed => match Region.ready .any ops listed with
    | [] => [[]]
    | i :: l => (i :: l).flatMap fun j => (ordsG ops f (listed.setIfInBounds j true)).map (j :: ·)
theorem lin_mem (ops : Array Oper) : ∀ (f t : Nat) (listed : Array Bool), Region.linearise.go .any ops f t listed [] ∈ ordsG ops f listed
  | 0, t, listed => by simp [Region.linearise.go, ordsG]
  | f + 1, t, listed => by
    simp only [Region.linearise.go, ordsG]
    change (match (Region.ready .any ops listed)[t % (Region.ready .any ops listed).length]? with
      | some i => Region.linearise.go .any ops f (t / (Region.ready .any ops listed).length) (listed.setIfInBounds i true) [i]
      | none => [].reverse) ∈ _
    generalize Region.ready .any ops listed = R
    cases R with
    | nil => simp
    | cons i l =>
      have hlt : t % (i :: l).length < (i :: l).length := Nat.mod_lt _ (by simp)
      rw [List.getElem?_eq_getElem hlt]
      dsimp only
      rw [linearise_go_acc, List.reverse_singleton, List.singleton_append]
      exact List.mem_flatMap.2 ⟨_, List.getElem_mem hlt, List.mem_map.2 ⟨_, lin_mem ops f _ _, rfl⟩⟩
theorem wp_comm_draw {P : Program} {ops : Array Oper} {id n : Nat} {o : Oper} {w : World} {Q : Exit → Act → World → Prop} {a : Act} (hm : P.follows .mixedOrders = true) (ho : ops[n]? = some o)
    (h : ∀ l ∈ ordsG ops ops.size (Array.replicate ops.size false), ∃ pre a1 v w', l = pre ++ [n] ∧ PreR P ops { w with drawn := w.drawn + 1 } pre a a1 ∧
      (∀ (b : Frame) (rest : List Nat) (k : List Item) (cs : List Frame), b.kind = .normal → step P (lone (b.at a1 (.inRegion ops (n :: rest) :: k)) cs { w with drawn := w.drawn + 1 }) = .next (lone ((b.at a1 (.inRegion ops (n :: rest) :: k)).finish v) cs w')) ∧ Q .normal (a1.put o.dst v) w') : WP P (.region id ops true) Q a w := by
  intro b hb k cs
  obtain ⟨pre, a1, v, w', e, h1, h2, hq⟩ := h _ (lin_mem ops ops.size (w.tape w.drawn (.order b.fn id)) _)
  have hs := step_region_draw (P := P) (b := b) (a := a) (k := k) (cs := cs) (w := w) (ops := ops) (id := id)
  have es : Region.schedule (P.follows .mixedOrders) ops (w.tape w.drawn (.order b.fn id)) = pre ++ [n] := by
    simp only [Region.schedule, hm, Bool.true_or, if_true]
    exact e
  rw [es] at hs
  have h3 := h2 b [] k cs hb
  rw [Frame.finish_at, ho] at h3
  exact ⟨.normal, _, w', hq, Steps.head hs ((PreR.steps h1).trans (Steps.head h3 (Steps.one step_region_end)))⟩

/-! ### over abstract states -/
/-- quiet operations ahead of a communication -/
def qpre (ti : Nat → Option TI) (hp : List (Nat × Ob)) (nt : Nat) : List Oper → List (Nat × SV) → Option (List (Nat × SV))
  | [], fr => some fr
  | o :: l, fr => match o.guard with
    | none => match qv ti hp (ev fr) o.op with
      | some ⟨none, none, v⟩ => qpre ti hp nt l (putF nt fr o.dst v)
      | _ => none
    | some _ => none
theorem qpre_sound {E : En} (ht : TabOk E.P E.ti) {cur : FI} {hp : List (Nat × Ob)} {nx : Nat} {w0 : W0} {S : List (Fm × Act)} {η : Nat → Option Nat × Value} {w : World} {ops : Array Oper} : ∀ {l : List Oper} {i : Nat} {fr fr1 : List (Nat × SV)} {a : Act},
    (∀ j, j < l.length → l[j]? = ops[i + j]?) → qpre E.ti hp cur.nt l fr = some fr1 → RepA w0 cur ⟨fr, hp, nx⟩ S η a w → ∃ a1, PreR E.P ops w (List.range' i l.length) a a1 ∧ RepA w0 cur ⟨fr1, hp, nx⟩ S η a1 w
  | [], i, fr, fr1, a, _, h, hR => by
    simp only [qpre, Option.some.injEq] at h
    subst h
    exact ⟨a, rfl, hR⟩
  | o :: l, i, fr, fr1, a, hi, h, hR => by
    simp only [qpre] at h
    split at h
    · rename_i hg
      split at h
      · rename_i v hq
        obtain ⟨_, h2⟩ := qv_sound (P := E.P) ht hR.1.1 (fun _ _ h => h) (ev_sound hR.2.1) hq
        obtain ⟨u, hu, hy⟩ := h2 trivial
        have hrun := hy w (Below.refl _ _)
        obtain ⟨a1, h3, h4⟩ := qpre_sound ht (ops := ops) (i := i + 1) (fun j hj => by have := hi (j + 1) (by simpa using hj); simpa [Nat.add_assoc, Nat.add_comm 1 j] using this) h (hR.fr (putF_sound hR.2.1 hu))
        exact ⟨a1, ⟨o, u, by have := hi 0 (by simp); simpa using this.symm, hg, hrun, h3⟩, h4⟩
      · cases h
    · cases h
section
variable {E : En} {cur : FI} {id n : Nat} {all : Array Oper} {r : List It} {fr fr1 : List (Nat × SV)} {hp : List (Nat × Ob)} {nx : Nat} {stk : List Fm} {o : Oper} {b cap s rc : Nat} {d : D} {xs : List d.T}
theorem range_take (hn : n ≤ all.size) : List.range n = List.range' 0 (all.toList.take n).length := by
  rw [List.length_take, Array.length_toList, Nat.min_eq_left hn, List.range_eq_range']
/-- the block of a channel is turned -/
theorem chan_set {w0 : W0} {S : List (Fm × Act)} {η : Nat → Option Nat × Value} {a : Act} {w : World} {xs' : List d.T} {s' rc' : Nat} (hR : RepA w0 cur ⟨fr, hp, nx⟩ S η a w) (hb : lk hp b = some (.chan cap d xs s rc)) {c : Nat} (hc : (η b).1 = some c) :
    RepA w0 cur ⟨fr, (b, .chan cap d xs' s' rc') :: rm hp b, nx⟩ S η a (w.setChan c cap (xs'.map d.v).toArray false s' rc' false) := by
  have hH := hR.1.1
  obtain ⟨k, h1, h2⟩ := hH.obs b _ hb
  have hk : k = c := by
    have h1 : (η b).1 = some k := h1
    rw [hc] at h1
    exact (Option.some.inj h1).symm
  subst hk
  have h2 : w.heap[k]? = _ := h2
  have hlt : k < w.heap.size := by
    rcases Nat.lt_or_ge k w.heap.size with h | h
    · exact h
    · rw [Array.getElem?_eq_none h] at h2; cases h2
  obtain ⟨g1, g2⟩ := step_set (w' := w.setChan k cap (xs'.map d.v).toArray false s' rc' false) (ob' := .chan cap d xs' s' rc') hH (by rw [hb]; simp) hc rfl rfl rfl (by simp [World.setChan]) (fun j hj => by simp only [World.setChan]; rw [Array.getElem?_setIfInBounds_ne (Ne.symm hj)])
    ⟨k, hc, heap_setChan w k cap _ false s' rc' false hlt⟩
  exact hR.heap g1 g2
/-- A SELECT of one receive, with a default: nothing is there, or the first. -/
theorem sel_rule (ht : TabOk E.P E.ti) (n : Nat) {sc : SelectCase} (ho : all[n]? = some o) (hg : o.guard = none) (hop : o.op = .select #[sc] false) (hsc : sc.send = none) (hpre : qpre E.ti hp cur.nt (all.toList.take n) fr = some fr1)
    (hc : ev fr1 sc.chan = .c (.chn b)) (hb : lk hp b = some (.chan cap d xs s rc)) (hp' : d.plain = true) (z : d.T) (hz : ∀ w, (zeroValue sc.elem).run E.P w = .ok (d.v z) w)
    (h1 : xs = [] → Mean E cur (.ops all (all.toList.drop (n + 1)) :: r) ⟨putF cur.nt fr1 o.dst (.tup [(false, [.int .i64 (-1)]), (false, [.bool .ff]), partD d z]), hp, nx⟩ stk)
    (h2 : ∀ y ys, xs = y :: ys → Mean E cur (.ops all (all.toList.drop (n + 1)) :: r) ⟨putF cur.nt fr1 o.dst (.tup [(false, [.int .i64 0]), (false, [.bool .tt]), partD d y]), (b, .chan cap d ys s (rc + 1)) :: rm hp b, nx⟩ stk) : CommOk E cur id all r ⟨fr, hp, nx⟩ stk := by
  refine ⟨fun w0 η S a w hS hR => ?_⟩
  have hn : n ≤ all.size := Nat.le_of_lt (Array.getElem?_eq_some_iff.1 ho).1
  obtain ⟨a1, hp1, hR1⟩ := qpre_sound (E := E) ht (ops := all) (i := 0) (fun j hj => by
    rw [List.length_take, Array.length_toList] at hj
    rw [List.getElem?_take_of_lt (by omega), Array.getElem?_toList, Nat.zero_add]) hpre hR
  rw [← range_take hn] at hp1
  have hcv := ev_sound hR1.2.1 sc.chan
  rw [hc] at hcv
  obtain ⟨_, c, hc1, hcv⟩ := hcv
  obtain ⟨k, g1, g2⟩ := hR1.1.1.obs b _ hb
  have hck : k = c := by
    have g1 : (η b).1 = some k := g1
    have hc1 : (η b).1 = some c := hc1
    rw [hc1] at g1
    exact (Option.some.inj g1).symm
  subst hck
  have g2 : w.heap[k]? = some (.chan cap (xs.map d.v).toArray false s rc false) := g2
  cases xs with
  | nil => exact wp_comm hp1 ho (sel_none ho hg hop hsc hcv (hz w) g2) (h1 rfl w0 η S _ _ hS (hR1.fr (putF_sound hR1.2.1 ⟨_, rfl, ⟨_, rfl, rfl⟩, ⟨_, rfl, rfl⟩, partD_sound z hp', trivial⟩)))
  | cons y ys =>
    have hR2 := chan_set (xs' := ys) (s' := s) (rc' := rc + 1) hR1 hb hc1
    have e : (ys.map d.v).toArray = ((y :: ys).map d.v).toArray.extract 1 ((y :: ys).map d.v).toArray.size := by simp [List.take_of_length_le]
    rw [e] at hR2
    have hst := sel_some ho hg hop hsc hcv (hz w) g2 (by simp)
    rw [show ((y :: ys).map d.v).toArray.getD 0 undef = d.v y by simp] at hst
    exact wp_comm hp1 ho hst (h2 y ys rfl w0 η S _ _ hS (hR2.fr (putF_sound hR2.2.1 ⟨_, rfl, ⟨_, rfl, rfl⟩, ⟨_, rfl, rfl⟩, partD_sound y hp', trivial⟩)))
end
def qpreI (ti : Nat → Option TI) (hp : List (Nat × Ob)) (nt : Nat) (ops : Array Oper) : List Nat → List (Nat × SV) → Option (List (Nat × SV))
  | [], fr => some fr
  | i :: l, fr => match ops.toList[i]? with
    | some o => match o.guard with
      | none => match qv ti hp (ev fr) o.op with
        | some ⟨none, none, v⟩ => qpreI ti hp nt ops l (putF nt fr o.dst v)
        | _ => none
      | some _ => none
    | none => none
theorem qpreI_sound {E : En} (ht : TabOk E.P E.ti) {cur : FI} {hp : List (Nat × Ob)} {nx : Nat} {w0 : W0} {S : List (Fm × Act)} {η : Nat → Option Nat × Value} {w : World} {ops : Array Oper} : ∀ {l : List Nat} {fr fr1 : List (Nat × SV)} {a : Act},
    qpreI E.ti hp cur.nt ops l fr = some fr1 → RepA w0 cur ⟨fr, hp, nx⟩ S η a w → ∃ a1, PreR E.P ops w l a a1 ∧ RepA w0 cur ⟨fr1, hp, nx⟩ S η a1 w
  | [], fr, fr1, a, h, hR => by
    simp only [qpreI, Option.some.injEq] at h
    subst h
    exact ⟨a, rfl, hR⟩
  | i :: l, fr, fr1, a, h, hR => by
    simp only [qpreI] at h
    split at h
    · rename_i o ho
      split at h
      · rename_i hg
        split at h
        · rename_i v hq
          obtain ⟨_, h2⟩ := qv_sound (P := E.P) ht hR.1.1 (fun _ _ h => h) (ev_sound hR.2.1) hq
          obtain ⟨u, hu, hy⟩ := h2 trivial
          have hrun := hy w (Below.refl _ _)
          obtain ⟨a1, h3, h4⟩ := qpreI_sound ht h (hR.fr (putF_sound hR.2.1 hu))
          exact ⟨a1, ⟨o, u, by simpa using ho, hg, hrun, h3⟩, h4⟩
        · cases h
      · cases h
    · cases h
def inclF (fr : List (Nat × SV)) : List (Nat × SV) → Prop
  | [] => True
  | (t, sv) :: l => lk fr t = some sv ∧ inclF fr l
theorem inclF_lk {fr : List (Nat × SV)} : ∀ {frT : List (Nat × SV)}, inclF fr frT → ∀ t sv, lk frT t = some sv → lk fr t = some sv
  | [], _, t, sv, h => by simp [lk] at h
  | (u, su) :: l, ⟨h1, h2⟩, t, sv, h => by
    simp only [lk] at h
    split at h
    · rename_i e
      subst e
      cases h
      exact h1
    · exact inclF_lk h2 t sv h
/-- A SEND in a region that draws its order, as its last operation. -/
theorem send_draw_rule {E : En} {cur : FI} {id : Nat} {all : Array Oper} {r : List It} {fr : List (Nat × SV)} {hp : List (Nat × Ob)} {nx : Nat} {stk : List Fm} {o : Oper} {b cap s rc : Nat} {d : D} {xs : List d.T} (ht : TabOk E.P E.ti) (hmx : E.P.follows .mixedOrders = true) (n : Nat) {ch x : Operand} {y : d.T} (frT : List (Nat × SV))
    (ho : all[n]? = some o) (hg : o.guard = none) (hop : o.op = .send ch x) (hb : lk hp b = some (.chan cap d xs s rc)) (hp' : d.plain = true) (hroom : xs.length < cap)
    (h : ∀ l ∈ ordsG all all.size (Array.replicate all.size false), ∃ pre fr1, l = pre ++ [n] ∧ qpreI E.ti hp cur.nt all pre fr = some fr1 ∧ ev fr1 ch = .c (.chn b) ∧ psS d (ev fr1 x) = some y ∧ inclF (putF cur.nt fr1 o.dst (.tup [])) frT)
    (hm : Mean E cur r ⟨frT, (b, .chan cap d (xs ++ [y]) (s + 1) rc) :: rm hp b, nx⟩ stk) : DrawOk E cur id all r ⟨fr, hp, nx⟩ stk := by
  refine ⟨fun w0 η S a w hS hR => ?_⟩
  have hbl : Below w.heap.size w { w with drawn := w.drawn + 1 } := ⟨rfl, rfl, rfl, Nat.le_refl _, fun _ _ => rfl⟩
  have hR' := hR.heap (hR.1.1.below hbl) (cx_below hbl)
  refine wp_comm_draw hmx ho fun l hl => ?_
  obtain ⟨pre, fr1, e, h1, hc, hx, hi⟩ := h l hl
  obtain ⟨a1, h2, hR1⟩ := qpreI_sound (E := E) ht h1 hR'
  have hcv := ev_sound hR1.2.1 ch
  rw [hc] at hcv
  obtain ⟨_, c, hc1, hcv⟩ := hcv
  have hxv := psS_sound hp' hx (ev_sound hR1.2.1 x)
  obtain ⟨k, g1, g2⟩ := hR1.1.1.obs b _ hb
  have hck : k = c := by
    have g1 : (η b).1 = some k := g1
    have hc1 : (η b).1 = some c := hc1
    rw [hc1] at g1
    exact (Option.some.inj g1).symm
  subst hck
  have g2 : w.heap[k]? = some (.chan cap (xs.map d.v).toArray false s rc false) := g2
  have hR2 := chan_set (xs' := xs ++ [y]) (s' := s + 1) (rc' := rc) hR1 hb hc1
  have e2 : ((xs ++ [y]).map d.v).toArray = (xs.map d.v).toArray.push (d.v y) := by simp
  rw [e2] at hR2
  have hF := putF_sound (dst := o.dst) hR2.2.1 rs_undef
  refine ⟨pre, a1, undef, _, e, h2, send_step ho hg hop hcv hxv g2 (by simpa using hroom), hm w0 η S _ _ hS ⟨hR2.1, ⟨fun t sv hts => hF.sl t sv (inclF_lk hi t sv hts), hF.siz, hF.dfr⟩, hR2.2.2⟩⟩
/-- 'make(chan T, n)' -/
theorem mkchan_rule {E : En} {cur : FI} {all : Array Oper} {o : Oper} {l : List Oper} {r : List It} {fr : List (Nat × SV)} {hp : List (Nat × Ob)} {nx : Nat} {stk : List Fm} {T e : TypeId} {x : Operand} {dir : ChanDir} {m : Nat} (d : D) (i : TypeInfo)
    (ho : o.op = .makeChan T x) (hx : ev fr x = .c (.int .i64 m)) (hu : E.P.underlying T = some (.chan dir e)) (hi : E.P.info? e = some i) (hsz : (i.bytes : Int) * m ≤ 281474976710544) (hm1 : m ≤ 1000000)
    (hm : Mean E cur (.ops all l :: r) ⟨putF cur.nt fr o.dst (.c (.chn nx)), (nx, .chan m d [] 0 0) :: rm hp nx, nx + 1⟩ stk) : StuckOk E cur all o l r ⟨fr, hp, nx⟩ stk := by
  refine stuck_rule fun w0 η S a w hR => ?_
  have hH := hR.1.1
  have hxv := ev_sound hR.2.1 x
  rw [hx] at hxv
  have hxv : a.eval x = .int .i64 m := hxv
  have hrun : (execOp a.eval ⟨o.dst, o.op, o.type, o.pos, o.after, none⟩).run E.P w = .ok (.value (.chan (some w.heap.size))) (w.alloc (.chan m #[] false 0 0 false)) := by
    simp only [execOp, ho, hxv]
    rw [Sem.run_bind, run_makeChan hu hi .i64 m (by omega) hsz]
    rfl
  have hnx : ¬ lt nx nx := Nat.lt_irrefl _
  have htn := turns_allocr (nx := nx) (hp := hp) (η := η) (w := w) (.chan m #[] false 0 0 false)
  have hle := step_le (p := (some w.heap.size, undef)) (ob := .chan m d [] 0 0) hnx hH rm_sub htn (fun k hk => .inl (by cases hk; exact Nat.le_refl _))
  have hH' := step_rep (p := (some w.heap.size, undef)) (ob := .chan m d [] 0 0) hnx hH rm_sub htn (fun k hk => .inl (by cases hk; simp)) ⟨w.heap.size, by simp [cxS, upd], heap_alloc_new w _⟩
  rw [nmE_lt (Nat.le_succ nx)] at hle hH'
  exact ⟨.c (.chn nx), _, _, _, _, _, hrun, hH', hle, ⟨Nat.lt_succ_self _, w.heap.size, by simp [cxS, upd], rfl⟩, hm⟩
/-- 'len(c)' -/
theorem lenchan_rule {E : En} {cur : FI} {all : Array Oper} {o : Oper} {l : List Oper} {r : List It} {fr : List (Nat × SV)} {hp : List (Nat × Ob)} {nx : Nat} {stk : List Fm} {T e : TypeId} {x : Operand} {dir : ChanDir} {b cap s rc : Nat} {d : D} {xs : List d.T}
    (ho : o.op = .call { callee := .builtin .len, args := #[x], argTypes := #[T] }) (hu : E.P.underlying T = some (.chan dir e)) (hx : ev fr x = .c (.chn b)) (hb : lk hp b = some (.chan cap d xs s rc))
    (hm : Mean E cur (.ops all l :: r) ⟨putF cur.nt fr o.dst (.c (.int .i64 xs.length)), hp, nx⟩ stk) : StuckOk E cur all o l r ⟨fr, hp, nx⟩ stk := by
  refine stuck_rule fun w0 η S a w hR => ?_
  have hH := hR.1.1
  have hxv := ev_sound hR.2.1 x
  rw [hx] at hxv
  obtain ⟨_, c, hc1, hcv⟩ := hxv
  obtain ⟨k, g1, g2⟩ := hH.obs b _ hb
  have hck : k = c := by
    have g1 : (η b).1 = some k := g1
    have hc1 : (η b).1 = some c := hc1
    rw [hc1] at g1
    exact (Option.some.inj g1).symm
  subst hck
  have g2 : w.heap[k]? = some (.chan cap (xs.map d.v).toArray false s rc false) := g2
  have hl := run_len_chan (P := E.P) T o.type hu g2
  have hrun : (execOp a.eval ⟨o.dst, o.op, o.type, o.pos, o.after, none⟩).run E.P w = .ok (.value (.int .i64 xs.length)) w := by
    simp only [execOp, ho, resolve, invoke, builtin, Sem.run_bind, Sem.run_pure, Result.andThen_ok, List.map_toArray, List.map_cons, List.map_nil, hcv, hl]
    simp [goInt]
  exact ⟨.c (.int .i64 xs.length), _, w, η, hp, nx, hrun, hH, Cx.le.refl _, rfl, hm⟩
end OE
/- Short rules for channels. Own work. -/
set_option linter.unusedVariables false
set_option maxRecDepth 100000
namespace Go.Proofs.YtmdjonckcapkeaaGreatDoor
open Go Go.RowKit OE

variable {inl : Nat → Option (FI × Code)} [hI : InlOk inl] {post : SV → St → Prop} {cur : FI} {all : Array Oper} {o : Oper} {l : List Oper} {r : List It} {fr fr1 : List (Nat × SV)} {hp : List (Nat × Ob)} {nx id : Nat} {stk : List Fm}
theorem sendd0 (n : Nat) {ch x : Operand} {b cap s rc : Nat} {d : D} {xs : List d.T} {y : d.T} (frT : List (Nat × SV)) (ho : all[n]? = some o) (hg : o.guard = none) (hop : o.op = .send ch x) (hb : lk hp b = some (.chan cap d xs s rc)) (hp' : d.plain = true) (hroom : xs.length < cap)
    (L : List (List Nat)) (hL : ordsG all all.size (Array.replicate all.size false) = L) (h : ∀ l ∈ L, ∃ pre fr1, l = pre ++ [n] ∧ qpreI (lk tab) hp cur.nt all pre fr = some fr1 ∧ ev fr1 ch = .c (.chn b) ∧ psS d (ev fr1 x) = some y ∧ inclF (putF cur.nt fr1 o.dst (.tup [])) frT)
    (hm : fcH (fun hp' => go (EnI inl post) 100000 cur r ⟨frT, hp', nx⟩ stk) ((b, .chan cap d (xs ++ [y]) (s + 1) rc) :: rm hp b)) : DrawOk (EnI inl post) cur id all r ⟨fr, hp, nx⟩ stk :=
  send_draw_rule (E := EnI inl post) (hI.out post).tab mixed n frT ho hg hop hb hp' hroom (by rw [hL]; exact h) (go0 (by rw [fcH_eq] at hm; exact hm))
theorem sel0 (n : Nat) {sc : SelectCase} {b cap s rc : Nat} {d : D} {xs : List d.T} (ho : all[n]? = some o) (hg : o.guard = none) (hop : o.op = .select #[sc] false) (hsc : sc.send = none) (hpre : qpre (lk tab) hp cur.nt (all.toList.take n) fr = some fr1)
    (hc : ev fr1 sc.chan = .c (.chn b)) (hb : lk hp b = some (.chan cap d xs s rc)) (hp' : d.plain = true) (z : d.T) (hz : ∀ w, (zeroValue sc.elem).run Tryz.prog w = .ok (d.v z) w)
    (h1 : xs = [] → fcF (fun fr' => go (EnI inl post) 100000 cur (.ops all (all.toList.drop (n + 1)) :: r) ⟨fr', hp, nx⟩ stk) (putF cur.nt fr1 o.dst (.tup [(false, [.int .i64 (-1)]), (false, [.bool .ff]), partD d z])))
    (h2 : ∀ y ys, xs = y :: ys → fcH (fun hp' => fcF (fun fr' => go (EnI inl post) 100000 cur (.ops all (all.toList.drop (n + 1)) :: r) ⟨fr', hp', nx⟩ stk) (putF cur.nt fr1 o.dst (.tup [(false, [.int .i64 0]), (false, [.bool .tt]), partD d y]))) ((b, .chan cap d ys s (rc + 1)) :: rm hp b)) : CommOk (EnI inl post) cur id all r ⟨fr, hp, nx⟩ stk :=
  sel_rule (E := EnI inl post) (hI.out post).tab n ho hg hop hsc hpre hc hb hp' z hz (fun e => go0 (by have := h1 e; rw [fcF_eq] at this; exact this)) (fun y ys e => go0 (by have := h2 y ys e; rw [fcH_eq, fcF_eq] at this; exact this))
theorem mkchan0 {T e : TypeId} {x : Operand} {dir : ChanDir} {m : Nat} (d : D) (i : TypeInfo) (ho : o.op = .makeChan T x) (hx : ev fr x = .c (.int .i64 m)) (hu : Tryz.prog.underlying T = some (.chan dir e)) (hi : Tryz.prog.info? e = some i) (hsz : (i.bytes : Int) * m ≤ 281474976710544) (hm1 : m ≤ 1000000)
    (hm : fcH (fun hp' => fcF (fun fr' => go (EnI inl post) 100000 cur (.ops all l :: r) ⟨fr', hp', nx + 1⟩ stk) (putF cur.nt fr o.dst (.c (.chn nx)))) ((nx, .chan m d [] 0 0) :: rm hp nx)) : StuckOk (EnI inl post) cur all o l r ⟨fr, hp, nx⟩ stk :=
  mkchan_rule (E := EnI inl post) d i ho hx hu hi hsz hm1 (go0 (by rw [fcH_eq, fcF_eq] at hm; exact hm))
theorem lenchan0 {T e : TypeId} {x : Operand} {dir : ChanDir} {b cap s rc : Nat} {d : D} {xs : List d.T} (ho : o.op = .call { callee := .builtin .len, args := #[x], argTypes := #[T] }) (hu : Tryz.prog.underlying T = some (.chan dir e)) (hx : ev fr x = .c (.chn b)) (hb : lk hp b = some (.chan cap d xs s rc))
    (hm : fcF (fun fr' => go (EnI inl post) 100000 cur (.ops all l :: r) ⟨fr', hp, nx⟩ stk) (putF cur.nt fr o.dst (.c (.int .i64 xs.length)))) : StuckOk (EnI inl post) cur all o l r ⟨fr, hp, nx⟩ stk :=
  lenchan_rule (E := EnI inl post) ho hu hx hb (go0 (by rw [fcF_eq] at hm; exact hm))
end Go.Proofs.YtmdjonckcapkeaaGreatDoor
/- The walks of hedgerowkeep: values, properties, rules. Own work. -/
set_option linter.unusedVariables false
set_option maxRecDepth 100000
namespace Go.Proofs.YtmdjonckcapkeaaGreatDoor
open Go Go.RowKit OE

/-- a value: kind, number, text -/
abbrev VD : D := .pair (.int .i64) (.pair (.int .i64) .str)
abbrev vc (v : VD.T) : List C := [.int .i64 v.1, .int .i64 v.2.1, .str v.2.2]
/-- a property: name, value -/
abbrev PD : D := .pair .str VD
abbrev RD : D := .pair (.int .i64) (.pair (.int .i64) (.pair .str (.pair .str (.pair .str (.pair .str (.pair (.int .i64) (.int .i64)))))))
abbrev rc (r : RD.T) : List C := [.int .i64 r.1, .int .i64 r.2.1, .str r.2.2.1, .str r.2.2.2.1, .str r.2.2.2.2.1, .str r.2.2.2.2.2.1, .int .i64 r.2.2.2.2.2.2.1, .int .i64 r.2.2.2.2.2.2.2]

theorem keep_Value (v w : VD.T) : FnD Tryz.prog 29 [.agg (vc v), .agg (vc w)] (· = .c (.bool (.sym (VD.eqb v w)))) := by
  refine fn0 Tryz.func29 rfl rfl rfl ?_
  conv => whnf
  simp [D.eqb, Bool.and_assoc]

theorem keep_Rule (v w : RD.T) : FnD Tryz.prog 31 [.agg (rc v), .agg (rc w)] (· = .c (.bool (.sym (RD.eqb v w)))) := by
  refine fn0 Tryz.func31 rfl rfl rfl ?_
  conv => whnf
  simp [D.eqb, Bool.and_assoc]

theorem keep_LargeValue (v : VD.T) : FnD Tryz.prog 77 [.agg (vc v)] (· = .c (.bool (.sym (decide ((5000 : Int) < v.2.2.length))))) := by
  refine fn0 Tryz.func77 rfl rfl rfl ?_
  conv => whnf

def largeP (p : PD.T) : Bool := decide ((1000 : Int) < p.1.length) || decide ((5000 : Int) < p.2.2.2.length)
def largeProps (l : List PD.T) : Bool := decide ((60 : Int) < l.length) || l.any largeP
theorem keep_LargeProps (l : List PD.T) : FnD Tryz.prog 49 [.c (.dat PD l)] (· = .c (.bool (.sym (largeProps l)))) := by
  refine fn0 Tryz.func49 rfl rfl rfl ?_
  conv => whnf
  intro hl
  refine ⟨fun h1 => ?_, fun h1 => ?_⟩
  · conv => whnf
    simp only [largeProps, h1, Bool.true_or]
  have hm : largeProps l = l.any largeP := by simp only [largeProps, h1, Bool.false_or]
  rw [hm]
  conv => whnf
  refine loop0 (α := Nat) (fun i => i ≤ l.length ∧ (l.drop i).any largeP = l.any largeP)
    (fun i => ⟨[(0, .c (.dat PD l)), (3, .c (.int .i64 i))], [], 0⟩) (fun i => l.length - i) ⟨0, ⟨by omega, rfl⟩, ?_⟩ ?_
  · (conv => whnf); refine ⟨rfl, ?_, ?_, ?_⟩ <;> (repeat' apply And.intro) <;> first | exact trivial | rfl | exact wr_succ _ (by omega) | assumption | exact decide_eq_false (by assumption) | exact decide_eq_true (by assumption)
  · rintro i ⟨hI1, hI2⟩
    conv => whnf
    intro _
    refine ⟨fun h2 => ?_, fun h2 => ?_⟩
    · have h2 : i < l.length := by simp at h2; omega
      rw [any_step h2] at hI2
      conv => whnf
      try (intro _; conv => whnf)
      refine ⟨by omega, ?_⟩
      rw [gt_nat (d := PD) l i h2]
      conv => whnf
      try (intro _; conv => whnf)
      refine ⟨fun _ => by omega, ?_⟩
      rw [gt_nat (d := PD) l i h2]
      conv => whnf
      refine callg0 (fun _ => keep_LargeValue l[i].2) rfl ?_
      conv => whnf
      refine ⟨fun h3 => ?_, fun h3 => ?_⟩
      · conv => whnf
        simp only [← hI2, largeP, h3, Bool.true_or]
      · conv => whnf
        refine ⟨i + 1, ⟨⟨by omega, ?_⟩, by omega⟩, ?_⟩
        · rw [← hI2]; simp only [largeP, h3, Bool.false_or]
        · (conv => whnf); refine ⟨rfl, ?_, ?_, ?_⟩ <;> (repeat' apply And.intro) <;> first | exact trivial | rfl | exact wr_succ _ (by omega) | assumption | exact decide_eq_false (by assumption) | exact decide_eq_true (by assumption)
    · conv => whnf
      rw [← hI2, any_end (by simp at h2; omega)]
end Go.Proofs.YtmdjonckcapkeaaGreatDoor
/- The walks of hedgerowkeep: nodes, edges, graphs. Own work. -/
set_option linter.unusedVariables false
set_option maxRecDepth 100000
namespace Go.Proofs.YtmdjonckcapkeaaGreatDoor
open Go Go.RowKit OE

abbrev ND : D := .pair (.int .i64) (.pair .str (.list PD))
abbrev ED : D := .pair (.int .i64) (.pair .str (.pair (.int .i64) (.pair (.int .i64) (.list PD))))
abbrev ec (e : ED.T) : List C := [.int .i64 e.1, .str e.2.1, .int .i64 e.2.2.1, .int .i64 e.2.2.2.1, .dat PD e.2.2.2.2]

def largeRule (r : RD.T) : Bool := decide ((1000 : Int) < r.2.2.1.length) || decide ((1000 : Int) < r.2.2.2.1.length) || decide ((1000 : Int) < r.2.2.2.2.1.length) || decide ((1000 : Int) < r.2.2.2.2.2.1.length)
theorem keep_LargeRule (r : RD.T) : FnD Tryz.prog 50 [.agg (rc r)] (· = .c (.bool (.sym (largeRule r)))) := by
  refine fn0 Tryz.func50 rfl rfl rfl ?_
  conv => whnf
  rfl

def largeN (n : ND.T) : Bool := decide ((1000 : Int) < n.2.1.length) || largeProps n.2.2
def largeE (e : ED.T) : Bool := decide ((1000 : Int) < e.2.1.length) || largeProps e.2.2.2.2
def largeGraph (n : List ND.T) (e : List ED.T) : Bool := decide ((300 : Int) < n.length) || decide ((300 : Int) < e.length) || (n.any largeN || e.any largeE)
theorem keep_LargeGraph (n : List ND.T) (e : List ED.T) : FnD Tryz.prog 32 [.c (.dat ND n), .c (.dat ED e)] (· = .c (.bool (.sym (largeGraph n e)))) := by
  refine fn0 Tryz.func32 rfl rfl rfl ?_
  conv => whnf
  intro hn
  conv => whnf
  intro he
  refine ⟨fun h1 => ?_, fun h1 => ?_⟩
  · conv => whnf
    simp only [largeGraph, h1, Bool.true_or]
  have hm : largeGraph n e = (n.any largeN || e.any largeE) := by simp only [largeGraph, h1, Bool.false_or]
  have hn3 : n.length ≤ 300 ∧ e.length ≤ 300 := by simp at h1; omega
  rw [hm]
  conv => whnf
  refine loop0 (α := Nat) (fun i => i ≤ n.length ∧ (n.drop i).any largeN = n.any largeN)
    (fun i => ⟨[(0, .c (.dat ND n)), (1, .c (.dat ED e)), (5, .c (.int .i64 i))], [], 0⟩) (fun i => n.length - i) ⟨0, ⟨by omega, rfl⟩, ?_⟩ ?_
  · (conv => whnf); refine ⟨rfl, ?_, ?_, ?_⟩ <;> (repeat' apply And.intro) <;> first | exact trivial | rfl | exact wr_succ _ (by omega) | assumption | exact decide_eq_false (by assumption) | exact decide_eq_true (by assumption)
  · rintro i ⟨hI1, hI2⟩
    conv => whnf
    intro _
    refine ⟨fun h2 => ?_, fun h2 => ?_⟩
    · have h2 : i < n.length := by simp at h2; omega
      rw [any_step h2] at hI2
      conv => whnf
      try (intro _; conv => whnf)
      refine ⟨by omega, ?_⟩
      rw [gt_nat (d := ND) n i h2]
      conv => whnf
      try (intro _; conv => whnf)
      refine ⟨fun _ => by omega, ?_⟩
      rw [gt_nat (d := ND) n i h2]
      conv => whnf
      refine callg0 (fun _ => keep_LargeProps n[i].2.2) rfl ?_
      conv => whnf
      refine ⟨fun h3 => ?_, fun h3 => ?_⟩
      · conv => whnf
        have : largeN n[i] = true := h3
        simp only [← hI2, this, Bool.true_or]
      · conv => whnf
        refine ⟨i + 1, ⟨⟨by omega, ?_⟩, by omega⟩, ?_⟩
        · have : largeN n[i] = false := h3
          rw [← hI2]; simp only [this, Bool.false_or]
        · (conv => whnf); refine ⟨rfl, ?_, ?_, ?_⟩ <;> (repeat' apply And.intro) <;> first | exact trivial | rfl | exact wr_succ _ (by omega) | assumption | exact decide_eq_false (by assumption) | exact decide_eq_true (by assumption)
    · conv => whnf
      rw [← hI2, any_end (by simp at h2; omega), Bool.false_or]
      refine loop0 (α := Nat) (fun i => i ≤ e.length ∧ (e.drop i).any largeE = e.any largeE)
        (fun i => ⟨[(0, .c (.dat ND n)), (1, .c (.dat ED e)), (6, .c (.int .i64 i))], [], 0⟩) (fun i => e.length - i) ⟨0, ⟨by omega, rfl⟩, ?_⟩ ?_
      · (conv => whnf); refine ⟨rfl, ?_, ?_, ?_⟩ <;> (repeat' apply And.intro) <;> first | exact trivial | rfl | exact wr_succ _ (by omega) | assumption | exact decide_eq_false (by assumption) | exact decide_eq_true (by assumption)
      · rintro i ⟨hI1, hI2⟩
        conv => whnf
        intro _
        refine ⟨fun h2 => ?_, fun h2 => ?_⟩
        · have h2 : i < e.length := by simp at h2; omega
          rw [any_step h2] at hI2
          conv => whnf
          try (intro _; conv => whnf)
          refine ⟨by omega, ?_⟩
          rw [gt_nat (d := ED) e i h2]
          conv => whnf
          try (intro _; conv => whnf)
          refine ⟨fun _ => by omega, ?_⟩
          rw [gt_nat (d := ED) e i h2]
          conv => whnf
          refine callg0 (fun _ => keep_LargeProps e[i].2.2.2.2) rfl ?_
          conv => whnf
          refine ⟨fun h3 => ?_, fun h3 => ?_⟩
          · conv => whnf
            have : largeE e[i] = true := h3
            simp only [← hI2, this, Bool.true_or]
          · conv => whnf
            refine ⟨i + 1, ⟨⟨by omega, ?_⟩, by omega⟩, ?_⟩
            · have : largeE e[i] = false := h3
              rw [← hI2]; simp only [this, Bool.false_or]
            · (conv => whnf); refine ⟨rfl, ?_, ?_, ?_⟩ <;> (repeat' apply And.intro) <;> first | exact trivial | rfl | exact wr_succ _ (by omega) | assumption | exact decide_eq_false (by assumption) | exact decide_eq_true (by assumption)
        · conv => whnf
          rw [← hI2, any_end (by simp at h2; omega)]

end Go.Proofs.YtmdjonckcapkeaaGreatDoor
/- The walks of val.Name and of the reference's Name. Own work. -/
set_option linter.unusedVariables false
set_option maxRecDepth 100000
namespace Go.Proofs.YtmdjonckcapkeaaGreatDoor
open Go Go.RowKit OE

/-- a byte that a name may hold; one that it may begin with -/
def nameB (c : UInt8) : Bool := (decide (97 ≤ c.toNat) && decide (c.toNat ≤ 122)) || (decide (48 ≤ c.toNat) && decide (c.toNat ≤ 57)) || decide (c.toNat = 95)
def name1 (c : UInt8) : Bool := decide (97 ≤ c.toNat) && decide (c.toNat ≤ 122)
def nameS (s : List UInt8) : Bool := decide (1 ≤ s.length) && decide (s.length ≤ 16) && (match s with | [] => false | c :: _ => name1 c) && s.all nameB

theorem nameS_eq : ∀ {s : List UInt8} (h : 0 < s.length), s.length ≤ 16 → nameS s = (name1 s[0] && s.all nameB)
  | [], h, _ => by simp at h
  | c :: t, _, h => by
    have e2 : decide ((c :: t).length ≤ 16) = true := by simpa using h
    have e1 : decide (1 ≤ (c :: t).length) = true := by simp
    unfold nameS
    rw [e1, e2]
    rfl
theorem nameS_no {s : List UInt8} (h : s.length < 1 ∨ 16 < s.length) : nameS s = false := by
  unfold nameS
  rcases h with h | h
  · simp; omega
  · simp; omega
theorem nameB_ok (c : UInt8) : nameB c = !((decide ((c.toNat : Int) < 97) || decide (122 < (c.toNat : Int))) && (decide ((c.toNat : Int) < 48) || decide (57 < (c.toNat : Int))) && !decide ((c.toNat : Int) = 95)) := by
  rw [Bool.eq_iff_iff]; simp [nameB]; omega

theorem val_Name (s : List UInt8) : FnD Tryz.prog 85 [.c (.str s)] (· = .c (.bool (.sym (nameS s)))) := by
  refine fn0 Tryz.func85 rfl rfl rfl ?_
  conv => whnf
  refine ⟨fun h => by simp at h; omega, ?_⟩
  conv => whnf
  refine ⟨fun h => by simp at h; omega, ?_⟩
  conv => whnf
  refine ⟨fun h1 => ?_, fun h1 => ?_⟩
  · conv => whnf
    by_cases hl : s.length < 1 ∨ 16 < s.length
    · rw [nameS_no hl]
    · have hlen : 0 < s.length := by omega
      rw [nameS_eq hlen (by omega)]
      have hb0 : bt s 0 = ((s[0]).toNat : Int) := bt_nat s 0 hlen
      rw [hb0] at h1
      have : name1 s[0] = false := by simp at h1; simp [name1]; omega
      rw [this, Bool.false_and]
  have hlen : 0 < s.length ∧ s.length ≤ 16 := by simp at h1; omega
  have hb0 : bt s 0 = ((s[0]).toNat : Int) := bt_nat s 0 hlen.1
  have hS := nameS_eq hlen.1 hlen.2
  rw [hb0] at h1
  have h0 : name1 s[0] = true := by simp at h1; simp [name1]; omega
  rw [h0, Bool.true_and] at hS
  rw [hS]
  conv => whnf
  refine loop0 (α := Nat) (fun i => i ≤ s.length ∧ (s.drop i).all nameB = s.all nameB) (fun i => ⟨[(0, .c (.str s)), (24, .c (.int .i64 s.length)), (25, .c (.int .i64 i))], [], 0⟩) (fun i => s.length - i) ⟨0, ⟨by omega, rfl⟩, ?_⟩ ?_
  · (conv => whnf); refine ⟨rfl, ?_, ?_, ?_⟩ <;> (repeat' apply And.intro) <;> first | exact trivial | rfl | exact wr_succ _ (by omega) | assumption | exact decide_eq_false (by assumption) | exact decide_eq_true (by assumption)
  · rintro i ⟨hI1, hI2⟩
    conv => whnf
    refine ⟨fun h5 => ?_, fun h5 => ?_⟩
    · have h5 : i < s.length := by simp at h5; omega
      have hbi : bt s ((i : Nat) : Int) = ((s[i]).toNat : Int) := bt_nat s i h5
      rw [all_step h5] at hI2
      conv => whnf
      refine ⟨by omega, ?_⟩
      rw [hbi]
      conv => whnf
      refine ⟨fun h6 => ?_, fun h6 => ?_⟩
      · conv => whnf
        have : nameB s[i] = false := by rw [nameB_ok, h6]; rfl
        rw [← hI2, this, Bool.false_and]
      · conv => whnf
        have : nameB s[i] = true := by rw [nameB_ok, h6]; rfl
        refine ⟨i + 1, ⟨⟨by omega, ?_⟩, by omega⟩, ?_⟩
        · rw [← hI2, this, Bool.true_and]
        · (conv => whnf); refine ⟨rfl, ?_, ?_, ?_⟩ <;> (repeat' apply And.intro) <;> first | exact trivial | rfl | exact wr_succ _ (by omega) | assumption | exact decide_eq_false (by assumption) | exact decide_eq_true (by assumption)
    · conv => whnf
      rw [← hI2, all_end (by simp at h5; omega)]

theorem ref_Name (s : List UInt8) : FnD Tryz.prog 59 [.c (.str s)] (· = .c (.bool (.sym (nameS s)))) := by
  refine fn0 Tryz.func59 rfl rfl rfl ?_
  conv => whnf
  refine ⟨fun h1 => ?_, fun h1 => ?_⟩
  · conv => whnf
    rw [nameS_no (by simp at h1; omega)]
  have hlen : 0 < s.length ∧ s.length ≤ 16 := by simp at h1; omega
  have hS := nameS_eq hlen.1 hlen.2
  conv => whnf
  refine loop0 (α := Nat) (fun i => i ≤ s.length ∧ (0 < i → name1 s[0] = true) ∧ (s.drop i).all nameB = s.all nameB) (fun i => ⟨[(0, .c (.str s)), (3, .c (.int .i64 i))], [], 0⟩) (fun i => s.length - i) ⟨0, ⟨by omega, fun h => by omega, rfl⟩, ?_⟩ ?_
  · (conv => whnf); refine ⟨rfl, ?_, ?_, ?_⟩ <;> (repeat' apply And.intro) <;> first | exact trivial | rfl | exact wr_succ _ (by omega) | assumption | exact decide_eq_false (by assumption) | exact decide_eq_true (by assumption)
  · rintro i ⟨hI1, hI3, hI2⟩
    conv => whnf
    refine ⟨fun h5 => ?_, fun h5 => ?_⟩
    · have h5 : i < s.length := by simp at h5; omega
      have hbi : bt s ((i : Nat) : Int) = ((s[i]).toNat : Int) := bt_nat s i h5
      rw [all_step h5] at hI2
      conv => whnf
      refine ⟨by omega, ?_⟩
      rw [hbi]
      conv => whnf
      have key : (!((decide ((97 : Int) ≤ (s[i].toNat : Int)) && decide ((s[i].toNat : Int) ≤ 122)) || (decide ((0 : Int) < i) && ((decide ((48 : Int) ≤ (s[i].toNat : Int)) && decide ((s[i].toNat : Int) ≤ 57)) || decide ((s[i].toNat : Int) = 95))))) = !(if i = 0 then name1 s[i] else nameB s[i]) := by
        by_cases h : i = 0
        · subst h; rw [Bool.eq_iff_iff]; simp [name1]; omega
        · rw [Bool.eq_iff_iff]; simp [nameB, h]; omega
      refine ⟨fun h6 => ?_, fun h6 => ?_⟩
      · conv => whnf
        have h6 : (if i = 0 then name1 s[i] else nameB s[i]) = false := by rw [← Bool.not_eq_true', ← key]; exact h6
        by_cases h : i = 0
        · subst h
          rw [if_pos rfl] at h6
          rw [hS, h6, Bool.false_and]
        · rw [if_neg h] at h6
          rw [hS, ← hI2, h6, Bool.false_and, Bool.and_false]
      · conv => whnf
        have h6 : (if i = 0 then name1 s[i] else nameB s[i]) = true := by rw [← Bool.not_eq_false', ← key]; exact h6
        have hB : name1 s[0] = true ∧ nameB s[i] = true := by
          by_cases h : i = 0
          · subst h
            rw [if_pos rfl] at h6
            exact ⟨h6, by simp [name1] at h6; simp [nameB]; omega⟩
          · rw [if_neg h] at h6
            exact ⟨hI3 (by omega), h6⟩
        refine ⟨i + 1, ⟨⟨by omega, fun _ => hB.1, ?_⟩, by omega⟩, ?_⟩
        · rw [← hI2, hB.2, Bool.true_and]
        · (conv => whnf); refine ⟨rfl, ?_, ?_, ?_⟩ <;> (repeat' apply And.intro) <;> first | exact trivial | rfl | exact wr_succ _ (by omega) | assumption | exact decide_eq_false (by assumption) | exact decide_eq_true (by assumption)
    · conv => whnf
      rw [hS, hI3 (by simp at h5; omega), ← hI2, all_end (by simp at h5; omega)]
      rfl
end Go.Proofs.YtmdjonckcapkeaaGreatDoor
/- The walks of val.Get, rule.Form and of the reference's. Own work. -/
set_option linter.unusedVariables false
set_option maxRecDepth 100000
namespace Go.Proofs.YtmdjonckcapkeaaGreatDoor
open Go Go.RowKit OE

/-- has a rule a form? -/
def formS (r : RD.T) : Bool :=
  nameS r.2.2.1 &&
  if r.2.1 = 1 ∨ r.2.1 = 2 then nameS r.2.2.2.1 && decide (r.2.2.2.2.1 = []) && decide (r.2.2.2.2.2.1 = []) && decide (r.2.2.2.2.2.2.1 = 0)
  else if r.2.1 = 3 then nameS r.2.2.2.2.1 && nameS r.2.2.2.2.2.1 && decide (r.2.2.2.1 = []) && decide (r.2.2.2.2.2.2.1 = 0)
  else if r.2.1 = 4 then decide (r.2.2.2.1 = []) && decide (r.2.2.2.2.1 = []) && decide (r.2.2.2.2.2.1 = []) && decide (0 ≤ r.2.2.2.2.2.2.1) && decide (r.2.2.2.2.2.2.1 ≤ 1024)
  else false

theorem rule_Form (r : RD.T) : FnD Tryz.prog 113 [.agg (rc r)] (· = .c (.bool (.sym (formS r)))) := by
  refine fn0 Tryz.func113 rfl rfl rfl ?_
  conv => whnf
  refine any0 ?_
  conv => whnf
  refine callr0 (val_Name r.2.2.1) rfl ?_
  conv => whnf
  refine callr0 (val_Name r.2.2.2.1) rfl ?_
  conv => whnf
  refine ⟨.inl (by kernel_rfl), after0 ?_⟩
  conv => whnf
  refine ⟨fun h1 => ?_, fun h1 => ?_⟩
  · conv => whnf
    simp at h1
    simp [formS, h1, Bool.and_assoc]
  · conv => whnf
    refine ⟨fun h2 => ?_, fun h2 => ?_⟩
    · conv => whnf
      simp at h1 h2
      simp [formS, h2, Bool.and_assoc]
    · conv => whnf
      refine ⟨fun h3 => ?_, fun h3 => ?_⟩
      · conv => whnf
        refine callg0 (fun _ => val_Name r.2.2.2.2.1) rfl ?_
        conv => whnf
        refine callg0 (fun _ => val_Name r.2.2.2.2.2.1) rfl ?_
        conv => whnf
        simp at h1 h2 h3
        simp [formS, h3, Bool.and_assoc]
      · conv => whnf
        refine ⟨fun h4 => ?_, fun h4 => ?_⟩
        · conv => whnf
          simp at h1 h2 h3 h4
          simp [formS, h4, Bool.and_assoc]
        · conv => whnf
          simp at h1 h2 h3 h4
          simp [formS, h1, h2, h3, h4]

theorem ref_Form (r : RD.T) : FnD Tryz.prog 64 [.agg (rc r)] (· = .c (.bool (.sym (formS r)))) := by
  refine fn0 Tryz.func64 rfl rfl rfl ?_
  conv => whnf
  refine call1 (ref_Name r.2.2.1) rfl ?_
  conv => whnf
  refine ⟨fun h0 => ?_, fun h0 => ?_⟩
  · conv => whnf
    simp at h0
    simp [formS, h0]
  simp at h0
  conv => whnf
  refine ⟨fun h1 => ?_, fun h1 => ?_⟩
  · conv => whnf
    refine call1 (ref_Name r.2.2.2.1) rfl ?_
    conv => whnf
    simp at h1
    simp [formS, h0, h1, Bool.and_assoc]
  · conv => whnf
    refine ⟨fun h2 => ?_, fun h2 => ?_⟩
    · conv => whnf
      refine call1 (ref_Name r.2.2.2.1) rfl ?_
      conv => whnf
      simp at h1 h2
      simp [formS, h0, h2, Bool.and_assoc]
    · conv => whnf
      refine ⟨fun h3 => ?_, fun h3 => ?_⟩
      · conv => whnf
        refine callg0 (fun _ => ref_Name r.2.2.2.2.1) rfl ?_
        conv => whnf
        refine callg0 (fun _ => ref_Name r.2.2.2.2.2.1) rfl ?_
        conv => whnf
        simp at h1 h2 h3
        simp [formS, h0, h3, Bool.and_assoc, Bool.and_left_comm, Bool.and_comm]
      · conv => whnf
        refine ⟨fun h4 => ?_, fun h4 => ?_⟩
        · conv => whnf
          simp at h1 h2 h3 h4
          simp [formS, h0, h4, Bool.and_assoc]
        · conv => whnf
          simp at h1 h2 h3 h4
          simp [formS, h1, h2, h3, h4]
end Go.Proofs.YtmdjonckcapkeaaGreatDoor
/- What package num computes, in plain Lean: no program in sight. Own work. -/
namespace Num
open OE

/-- a number's bytes -/
def putN (n : Nat) : List UInt8 := if h : n < 128 then [UInt8.ofNat n] else UInt8.ofNat (n % 128 + 128) :: putN (n / 128)
termination_by n

/-- the number whose bytes a text begins with, from the i-th byte of it on -/
def getL : List UInt8 → Nat → Nat → Option (Nat × Nat)
  | [], _, _ => none
  | c :: l, i, n =>
    if i = 9 ∧ c.toNat ≠ 1 ∨ c.toNat = 0 ∧ 0 < i then none
    else if c.toNat < 128 then some (n + c.toNat % 128 * 128 ^ i, i + 1) else getL l (i + 1) (n + c.toNat % 128 * 128 ^ i)
def getN (s : List UInt8) (at_ : Int) : Option (Nat × Nat) := if at_ < 0 ∨ at_ > s.length then none else getL (s.drop at_.toNat) 0 0

/-- signed numbers -/
def zig (n : Int) : Nat := if 0 ≤ n then (2 * n).toNat else (-2 * n - 1).toNat
def zag (u : Nat) : Int := if u % 2 = 0 then ((u / 2 : Nat) : Int) else -((u / 2 : Nat) : Int) - 1
def putZ (n : Int) : List UInt8 := putN (zig n)
def putT (t : List UInt8) : List UInt8 := putN t.length ++ t
def getT (s : List UInt8) (at_ most : Int) : Option (List UInt8 × Nat) :=
  match getN s at_ with
  | none => none
  | some (n, k) => if most < 0 ∨ (n : Int) > most ∨ at_.toNat + k + n > s.length then none else some (((s.drop at_.toNat).drop k).take n, k + n)

theorem getL_bd : ∀ {l : List UInt8} {i n m k : Nat}, getL l i n = some (m, k) → i ≤ 9 → n < 128 ^ i → m < 2 ^ 64 ∧ i < k ∧ k ≤ 10 ∧ k ≤ i + l.length
  | [], _, _, _, _, h, _, _ => by simp [getL] at h
  | c :: l, i, n, m, k, h, hi, hn => by
    simp only [getL] at h
    split at h
    · cases h
    · rename_i h1
      have hc := c.toNat_lt
      have hp : (128 : Nat) ^ i = 2 ^ (7 * i) := by rw [Nat.pow_mul]
      split at h
      · simp only [Option.some.injEq, Prod.mk.injEq] at h
        obtain ⟨rfl, rfl⟩ := h
        refine ⟨?_, by omega, by omega, by simp⟩
        by_cases h9 : i = 9
        · subst h9
          have hc1 : c.toNat = 1 := by omega
          rw [hc1]
          simp at hn ⊢
          omega
        · have h2 : (128 : Nat) ^ (i + 1) ≤ 128 ^ 9 := Nat.pow_le_pow_right (by omega) (by omega)
          have h3 : c.toNat % 128 * 128 ^ i ≤ 127 * 128 ^ i := Nat.mul_le_mul_right _ (by omega)
          rw [Nat.pow_succ] at h2
          have h4 : (128 : Nat) ^ 9 = 9223372036854775808 := by decide
          omega
      · rename_i h2
        have h9 : i ≠ 9 := by omega
        have h3 : c.toNat % 128 * 128 ^ i ≤ 127 * 128 ^ i := Nat.mul_le_mul_right _ (by omega)
        have := getL_bd h (by omega) (by rw [Nat.pow_succ]; omega)
        simp only [List.length_cons]
        omega

theorem getN_bd {s : List UInt8} {at_ : Int} {m k : Nat} (h : getN s at_ = some (m, k)) : m < 2 ^ 64 ∧ 0 < k ∧ k ≤ 10 ∧ 0 ≤ at_ ∧ at_.toNat + k ≤ s.length := by
  unfold getN at h
  split at h
  · cases h
  · have := getL_bd h (by omega) (by omega)
    simp only [List.length_drop] at this
    omega

theorem putN_lt {n : Nat} (h : n < 128) : putN n = [UInt8.ofNat n] := by rw [putN]; simp [h]
theorem putN_ge {n : Nat} (h : 128 ≤ n) : putN n = UInt8.ofNat (n % 128 + 128) :: putN (n / 128) := by rw [putN]; simp [Nat.not_lt.2 h]
theorem putN_len : ∀ (k n : Nat), n < 128 ^ (k + 1) → (putN n).length ≤ k + 1
  | 0, n, h => by rw [putN_lt (by simpa using h)]; simp
  | k + 1, n, h => by
    by_cases hn : n < 128
    · rw [putN_lt hn]; simp
    · rw [putN_ge (by omega)]
      have : n / 128 < 128 ^ (k + 1) := by rw [Nat.div_lt_iff_lt_mul (by omega)]; rw [Nat.pow_succ] at h; exact h
      have := putN_len k (n / 128) this
      simp only [List.length_cons]
      omega
theorem putN_ten {n : Nat} (h : n < 18446744073709551616) : (putN n).length ≤ 10 := putN_len 9 n (by
  have : (128 : Nat) ^ (9 + 1) = 1180591620717411303424 := by decide
  omega)

theorem getL_put : ∀ (n i acc : Nat) (r : List UInt8), n * 128 ^ i < 18446744073709551616 → (i = 0 ∨ 0 < n) → i ≤ 9 → getL (putN n ++ r) i acc = some (acc + n * 128 ^ i, i + (putN n).length) := by
  intro n
  induction n using Nat.strongRecOn with
  | _ n ih =>
    intro i acc r h1 h2 h3
    have h9 : i = 9 → n ≤ 1 := by
      intro h
      subst h
      have : (128 : Nat) ^ 9 = 9223372036854775808 := by decide
      rw [this] at h1
      omega
    by_cases hn : n < 128
    · rw [putN_lt hn]
      have hc : (UInt8.ofNat n).toNat = n := by simp; omega
      simp only [List.cons_append, List.nil_append, getL, hc, List.length_singleton]
      rw [if_neg (by omega), if_pos hn, Nat.mod_eq_of_lt hn]
    · rw [putN_ge (by omega)]
      have hc : (UInt8.ofNat (n % 128 + 128)).toNat = n % 128 + 128 := by simp; omega
      simp only [List.cons_append, getL, hc, List.length_cons]
      have e1 : (n % 128 + 128) % 128 = n % 128 := by omega
      have e2 : n * 128 ^ i = n % 128 * 128 ^ i + n / 128 * 128 ^ (i + 1) := by
        rw [Nat.pow_succ]
        have : n = n % 128 + n / 128 * 128 := by omega
        conv => lhs; rw [this]
        rw [Nat.add_mul, Nat.mul_assoc, Nat.mul_comm 128]
      rw [if_neg (by omega), if_neg (by omega), e1, ih (n / 128) (by omega) (i + 1) _ r (by omega) (by omega) (by omega)]
      rw [e2, Nat.add_assoc]
      congr 2
      omega
theorem getN_put (n : Nat) (p r : List UInt8) (h : n < 18446744073709551616) : getN (p ++ putN n ++ r) p.length = some (n, (putN n).length) := by
  unfold getN
  rw [if_neg (by simp; omega)]
  have : (p ++ putN n ++ r).drop (p.length : Int).toNat = putN n ++ r := by simp
  rw [this, getL_put n 0 0 r (by omega) (by omega) (by omega)]
  simp
theorem getL_take : ∀ {l : List UInt8} {i acc m k : Nat}, getL l i acc = some (m, k) → ∃ n, m = acc + n * 128 ^ i ∧ l.take (k - i) = putN n ∧ (i = 0 ∨ 0 < n) ∧ i < k
  | [], _, _, _, _, h => by simp [getL] at h
  | c :: l, i, acc, m, k, h => by
    simp only [getL] at h
    split at h
    · cases h
    · rename_i h1
      have hc := c.toNat_lt
      split at h
      · rename_i h2
        simp only [Option.some.injEq, Prod.mk.injEq] at h
        obtain ⟨rfl, rfl⟩ := h
        refine ⟨c.toNat, by rw [Nat.mod_eq_of_lt h2], ?_, by omega, by omega⟩
        rw [putN_lt h2, show i + 1 - i = 1 from by omega]
        simp
      · rename_i h2
        obtain ⟨n, e1, e2, e3, e4⟩ := getL_take h
        refine ⟨c.toNat % 128 + 128 * n, ?_, ?_, by omega, by omega⟩
        · rw [e1, Nat.pow_succ, Nat.add_mul, Nat.add_assoc, Nat.mul_comm 128 n, Nat.mul_assoc, Nat.mul_comm 128]
        · rw [show k - i = (k - (i + 1)) + 1 from by omega, List.take_succ_cons, e2, putN_ge (n := c.toNat % 128 + 128 * n) (by omega)]
          have e5 : (c.toNat % 128 + 128 * n) % 128 + 128 = c.toNat := by omega
          have e6 : (c.toNat % 128 + 128 * n) / 128 = n := by omega
          rw [e5, e6]
          simp
theorem getN_take {s : List UInt8} {at_ : Int} {m k : Nat} (h : getN s at_ = some (m, k)) : (s.drop at_.toNat).take k = putN m := by
  unfold getN at h
  split at h
  · cases h
  · obtain ⟨n, e1, e2, _⟩ := getL_take h
    simp at e1 e2
    rw [e1, e2]

theorem getT_put (t p r : List UInt8) (most : Int) (hm : (t.length : Int) ≤ most) (ht : t.length < 18446744073709551616) : getT (p ++ putT t ++ r) p.length most = some (t, (putT t).length) := by
  unfold getT
  have e : p ++ putT t ++ r = p ++ putN t.length ++ (t ++ r) := by simp [putT]
  rw [e, getN_put t.length p (t ++ r) ht]
  dsimp only
  rw [if_neg (by simp; omega)]
  simp [putT]
def catT (xs : List (List UInt8)) : List UInt8 := (xs.map putT).flatten
end Num
/- The walk of num.Get. Own work. -/
set_option linter.unusedVariables false
namespace Go.Proofs.YtmdjonckcapkeaaGreatDoor
open Go Go.RowKit OE

def getR (o : Option (Nat × Nat)) : SV :=
  .tup [(false, [.int .u64 ((o.getD (0, 0)).1 : Nat)]), (false, [.int .i64 ((o.getD (0, 0)).2 : Nat)]), (false, [.bool (.sym o.isSome)])]

theorem get_bits (n c i : Nat) (hn : n < 128 ^ i) (hi : i ≤ 9) (hc : c < 256) (h9 : i = 9 → c ≤ 1) :
    bits .or .u64 (n : Int) (IntKind.wrap .u64 (IntKind.wrap .u64 (bits .and .u8 (c : Int) 127) * 2 ^ min (Int.toNat (IntKind.wrap .i64 (7 * (i : Int)))) IntKind.u64.bits)) = ((n + c % 128 * 128 ^ i : Nat) : Int) := by
  have hp : (128 : Nat) ^ i = 2 ^ (7 * i) := by rw [Nat.pow_mul]
  rw [hp] at hn ⊢
  have e1 : IntKind.wrap .i64 (7 * (i : Int)) = ((7 * i : Nat) : Int) := by rw [wr64 _ (by omega) (by omega)]; omega
  have e2 : min (Int.toNat ((7 * i : Nat) : Int)) IntKind.u64.bits = 7 * i := by
    show min (7 * i) 64 = _
    omega
  have hb : n + c % 128 * 2 ^ (7 * i) < 18446744073709551616 := by
    by_cases h : i = 9
    · subst h
      have : c % 128 ≤ 1 := by have := h9 rfl; omega
      have : c % 128 * 2 ^ (7 * 9) ≤ 1 * 2 ^ (7 * 9) := Nat.mul_le_mul_right _ this
      omega
    · have h1 : c % 128 * 2 ^ (7 * i) ≤ 127 * 2 ^ (7 * i) := Nat.mul_le_mul_right _ (by omega)
      have h2 : (2 : Nat) ^ (7 * i) ≤ 2 ^ 56 := Nat.pow_le_pow_right (by omega) (by omega)
      omega
  rw [e1, e2, and127 c hc, wru64 ((c % 128 : Nat) : Int) (by omega) (by omega)]
  have e3 : ((c % 128 : Nat) : Int) * 2 ^ (7 * i) = ((c % 128 * 2 ^ (7 * i) : Nat) : Int) := by
    rw [Int.natCast_mul, Int.natCast_pow]; rfl
  rw [e3, wru64 _ (by omega) (by omega)]
  exact or_apart n (c % 128) (7 * i) hn hb

theorem num_Get (s : List UInt8) (at_ : Int) (hs : s.length ≤ 4611686018427387904) : FnD Tryz.prog 34 [.c (.str s), .c (.int .i64 at_)] (· = getR (Num.getN s at_)) := by
  refine fn0 Tryz.func34 rfl rfl rfl ?_
  conv => whnf
  refine ⟨fun h1 => ?_, fun h1 => ?_⟩
  · conv => whnf
    simp at h1
    have : Num.getN s at_ = none := by unfold Num.getN; rw [if_pos (by omega)]
    rw [this]; rfl
  conv => whnf
  simp at h1
  obtain ⟨a, rfl⟩ := Int.eq_ofNat_of_zero_le h1.1
  have hget : Num.getN s a = Num.getL (s.drop a) 0 0 := by
    unfold Num.getN; rw [if_neg (by omega)]; rfl
  refine loop0 (α := Nat × Nat) (fun p => p.1 ≤ 9 ∧ p.2 < 128 ^ p.1 ∧ a + p.1 ≤ s.length ∧ Num.getL (s.drop (a + p.1)) p.1 p.2 = Num.getL (s.drop a) 0 0)
    (fun p => ⟨[(0, .c (.str s)), (1, .c (.int .i64 a)), (4, .c (.int .u64 p.2)), (7, .c (.int .i64 p.1))], [], 0⟩) (fun p => 10 - p.1) ⟨(0, 0), ⟨by simp, by simp, by dsimp only; omega, rfl⟩, ?_⟩ ?_
  · conv => whnf
    exact ⟨rfl, ⟨rfl, rfl, rfl, rfl, trivial⟩, trivial, trivial⟩
  · rintro ⟨i, n⟩ ⟨hI1, hI3, hI4, hI5⟩
    dsimp only at hI1 hI3 hI4 hI5 ⊢
    have e1 : IntKind.wrap .i64 ((a : Int) + i) = (a + i : Nat) := by rw [wr64 _ (by omega) (by omega)]; omega
    conv => whnf
    rw [e1]
    refine ⟨fun h1 => ?_, fun h1 => ?_⟩
    · simp at h1
      have hlt : a + i < s.length := by omega
      have hb : bt s ((a + i : Nat) : Int) = ((s[a + i]).toNat : Int) := bt_nat s (a + i) hlt
      have hL : Num.getL (s.drop (a + i)) i n = if i = 9 ∧ s[a + i].toNat ≠ 1 ∨ s[a + i].toNat = 0 ∧ 0 < i then none
          else if s[a + i].toNat < 128 then some (n + s[a + i].toNat % 128 * 128 ^ i, i + 1) else Num.getL (s.drop (a + (i + 1))) (i + 1) (n + s[a + i].toNat % 128 * 128 ^ i) := by
        rw [List.drop_eq_getElem_cons hlt]
        rfl
      have hc := (s[a + i]).toNat_lt
      generalize s[a + i].toNat = c at hb hL hc
      conv => whnf
      refine ⟨by rw [e1]; omega, ?_⟩
      rw [e1, hb]
      conv => whnf
      have hnone : (i = 9 ∧ c ≠ 1 ∨ c = 0 ∧ 0 < i) → Num.getN s a = none := by
        intro h
        rw [hget, ← hI5, hL, if_pos h]
      have e7 : IntKind.wrap .i64 (7 * (i : Int)) = ((7 * i : Nat) : Int) := by rw [wr64 _ (by omega) (by omega)]; omega
      have e8 : IntKind.wrap .i64 ((i : Int) + 1) = ((i + 1 : Nat) : Int) := by rw [wr64 _ (by omega) (by omega)]; omega
      refine ⟨fun h2 => ?_, fun h2 => ?_⟩
      · simp at h2
        conv => whnf
        rw [hnone (by omega)]
        rfl
      simp at h2
      conv => whnf
      refine ⟨fun h3 => ?_, fun h3 => ?_⟩
      · simp at h3
        conv => whnf
        rw [hnone (by omega)]
        rfl
      simp at h3
      have h9 : i = 9 → c ≤ 1 := by omega
      have hok : ¬ (i = 9 ∧ c ≠ 1 ∨ c = 0 ∧ 0 < i) := by omega
      rw [if_neg hok] at hL
      conv => whnf
      refine ⟨by rw [e7]; omega, ?_⟩
      conv => whnf
      rw [get_bits n c i hI3 hI1 hc h9]
      refine ⟨fun h5 => ?_, fun h5 => ?_⟩
      · conv => whnf
        simp at h5
        rw [if_pos (by omega)] at hL
        rw [hget, ← hI5, hL, e8]
        rfl
      · simp at h5
        conv => whnf
        rw [if_neg (by omega)] at hL
        refine ⟨(i + 1, n + c % 128 * 128 ^ i), ⟨⟨by dsimp only; omega, ?_, by dsimp only; omega, by rw [← hL]; exact hI5⟩, by dsimp only; omega⟩, ?_⟩
        · have h1 : c % 128 * 128 ^ i ≤ 127 * 128 ^ i := Nat.mul_le_mul_right _ (by omega)
          dsimp only
          rw [Nat.pow_succ]
          omega
        conv => whnf
        exact ⟨rfl, ⟨rfl, rfl, rfl, e8.symm, trivial⟩, trivial, trivial⟩
    · conv => whnf
      simp at h1
      rw [hget, ← hI5, List.drop_of_length_le (by omega)]
      rfl
end Go.Proofs.YtmdjonckcapkeaaGreatDoor
/- The walks of num.GetInt and num.GetText. Own work. -/
set_option linter.unusedVariables false
namespace Go.Proofs.YtmdjonckcapkeaaGreatDoor
open Go Go.RowKit OE

def getIntR (o : Option (Nat × Nat)) : SV :=
  .tup [(false, [.int .i64 (Num.zag (o.getD (0, 0)).1)]), (false, [.int .i64 ((o.getD (0, 0)).2 : Nat)]), (false, [.bool (.sym o.isSome)])]

theorem getN_lt (s : List UInt8) (at_ : Int) : ((Num.getN s at_).getD (0, 0)).1 < 2 ^ 64 := by
  cases h : Num.getN s at_ with
  | none => decide
  | some p => exact (Num.getN_bd (m := p.1) (k := p.2) h).1

theorem getint_bits (u : Nat) (hu : u < 2 ^ 64) :
    bits .xor .i64 (IntKind.wrap .i64 ((u : Int) / 2 ^ min (Int.toNat 1) IntKind.u64.bits)) (IntKind.wrap .i64 (0 - IntKind.wrap .i64 (bits .and .u64 (u : Int) 1))) = Num.zag u := by
  have e1 : IntKind.wrap .i64 ((u : Int) / 2 ^ min (Int.toNat 1) IntKind.u64.bits) = ((u / 2 : Nat) : Int) := by
    show IntKind.wrap .i64 ((u : Int) / 2 ^ 1) = _
    rw [wr64 _ (by omega) (by omega)]; omega
  have e2 : bits .and .u64 (u : Int) 1 = ((u % 2 : Nat) : Int) := by
    rw [show (1 : Int) = ((1 : Nat) : Int) from rfl, u64_and_nat u 1 (by omega) (by omega), nat_mask1]
  rw [e1, e2, wr64 ((u % 2 : Nat) : Int) (by omega) (by omega), wr64 _ (by omega) (by omega)]
  unfold Num.zag
  split
  · rename_i h
    rw [h]
    exact xor64_zero _ (by omega) (by omega)
  · have h : u % 2 = 1 := by omega
    rw [h]
    exact xor64_one _ (by omega) (by omega)

theorem num_GetInt (s : List UInt8) (at_ : Int) (hs : s.length ≤ 4611686018427387904) : FnD Tryz.prog 121 [.c (.str s), .c (.int .i64 at_)] (· = getIntR (Num.getN s at_)) := by
  refine fn0 Tryz.func121 rfl rfl rfl ?_
  conv => whnf
  refine call1 (num_Get s at_ hs) rfl ?_
  conv => whnf
  refine ⟨by decide, ?_⟩
  conv => whnf
  rw [getint_bits _ (getN_lt s at_)]
  rfl

def getTextR (o : Option (List UInt8 × Nat)) : SV :=
  .tup [(false, [.str (o.getD ([], 0)).1]), (false, [.int .i64 ((o.getD ([], 0)).2 : Nat)]), (false, [.bool (.sym o.isSome)])]

theorem num_GetText (s : List UInt8) (at_ most : Int) (hs : s.length ≤ 4611686018427387904) (hm : most ≤ 9223372036854775807) :
    FnD Tryz.prog 98 [.c (.str s), .c (.int .i64 at_), .c (.int .i64 most)] (· = getTextR (Num.getT s at_ most)) := by
  refine fn0 Tryz.func98 rfl rfl rfl ?_
  conv => whnf
  refine call1 (num_Get s at_ hs) rfl ?_
  conv => whnf
  unfold Num.getT
  cases hg : Num.getN s at_ with
  | none =>
    refine ⟨fun _ => ?_, fun h => by simp at h⟩
    conv => whnf
    rfl
  | some p =>
    obtain ⟨n, k⟩ := p
    obtain ⟨hb1, hb2, hb3, hb4, hb5⟩ := Num.getN_bd hg
    obtain ⟨a, rfl⟩ := Int.eq_ofNat_of_zero_le hb4
    rw [show ((a : Nat) : Int).toNat = a from rfl] at hb5 ⊢
    dsimp only [Option.getD_some, Option.isSome_some]
    have e1 : IntKind.wrap .i64 (IntKind.wrap .i64 ((s.length : Int) - a) - k) = ((s.length - a - k : Nat) : Int) := by
      rw [wr64 ((s.length : Int) - a) (by omega) (by omega), wr64 _ (by omega) (by omega)]; omega
    have e0 := wru64 ((s.length - a - k : Nat) : Int) (by omega) (by omega)
    have hw : 0 ≤ most → IntKind.wrap .u64 most = most := fun h => wru64 most h (by omega)
    refine ⟨fun h1 => ?_, fun h1 => ?_⟩
    · simp [e1, e0] at h1
      conv => whnf
      rw [if_pos (by
        rcases h1 with (h1 | h1) | h1
        · exact .inl h1
        · by_cases hm0 : most < 0
          · exact .inl hm0
          · rw [hw (by omega)] at h1; exact .inr (.inl h1)
        · exact .inr (.inr (by omega)))]
      rfl
    simp [e1, e0] at h1
    obtain ⟨⟨h1, h2⟩, h3⟩ := h1
    rw [hw h1] at h2
    have e2 : IntKind.wrap .i64 ((a : Int) + k) = ((a + k : Nat) : Int) := by rw [wr64 _ (by omega) (by omega)]; omega
    have e3 : IntKind.wrap .i64 (IntKind.wrap .i64 ((a : Int) + k) + IntKind.wrap .i64 n) = ((a + k + n : Nat) : Int) := by
      rw [e2, wr64 (n : Int) (by omega) (by omega), wr64 _ (by omega) (by omega)]; omega
    conv => whnf
    refine ⟨?_, ?_⟩
    · rw [e3, e2]; omega
    conv => whnf
    rw [if_neg (by omega), e3, e2]
    have e4 : IntKind.wrap .i64 (((a + k + n : Nat) : Int) - a) = ((k + n : Nat) : Int) := by rw [wr64 _ (by omega) (by omega)]; omega
    rw [e4]
    have e5 : ((s.take (a + k + n)).drop (a + k)) = ((s.drop a).drop k).take n := by
      rw [List.drop_take, List.drop_drop]
      congr 1
      omega
    rw [← e5]
    rfl
end Go.Proofs.YtmdjonckcapkeaaGreatDoor
/- The walk of num.Put. Own work. -/
set_option linter.unusedVariables false
namespace Go.Proofs.YtmdjonckcapkeaaGreatDoor
open Go Go.RowKit OE

def putSt (m : Nat) : List Int → St
  | [] => ⟨[(0, .c (.int .u64 m)), (3, .c (.val (.slice none 0 0)))], [], 0⟩
  | x :: xs => ⟨[(0, .c (.int .u64 m)), (3, .c (.row 0))], [(0, .row 5 (.int .u8) (x :: xs))], 1⟩

theorem put_byte (m : Nat) : bits .or .u8 (IntKind.wrap .u8 m) 128 = ((m % 128 + 128 : Nat) : Int) := by
  have e : IntKind.wrap .u8 (m : Int) = ((m % 256 : Nat) : Int) := by rw [wru8]; omega
  rw [e, or128 _ (by omega)]
  omega
theorem put_last (m : Nat) (h : m < 128) : byl [IntKind.wrap .u8 (m : Int)] = Num.putN m := by
  have e : IntKind.wrap .u8 (m : Int) = ((m : Nat) : Int) := by rw [wru8]; omega
  rw [e, Num.putN_lt h]
  rfl
theorem put_step (m : Nat) (h : 128 ≤ m) : byl [bits .or .u8 (IntKind.wrap .u8 (m : Int)) 128] ++ Num.putN (m / 128) = Num.putN m := by
  rw [put_byte, Num.putN_ge h]
  rfl
theorem byl_len (xs : List Int) : (byl xs).length = xs.length := by simp [byl]

theorem num_Put (n : Nat) (hn : n < 18446744073709551616) : FnD Tryz.prog 71 [.c (.int .u64 n)] (· = .c (.str (Num.putN n))) := by
  have hlen : ∀ (xs : List Int) (m : Nat), byl xs ++ Num.putN m = Num.putN n → xs.length ≤ 10 := by
    intro xs m h
    have h1 := Num.putN_ten hn
    rw [← h, List.length_append, byl_len] at h1
    omega
  refine fn0 Tryz.func71 rfl rfl rfl ?_
  conv => whnf
  refine loop0 (α := Nat × List Int) (fun p => p.1 < 18446744073709551616 ∧ byl p.2 ++ Num.putN p.1 = Num.putN n) (fun p => putSt p.1 p.2) (fun p => p.1) ⟨(n, []), ⟨hn, rfl⟩, ?_⟩ ?_
  · conv => whnf
    exact ⟨rfl, ⟨rfl, rfl, trivial⟩, trivial, trivial⟩
  · rintro ⟨m, xs⟩ ⟨h1, h2⟩
    dsimp only at h1 h2 ⊢
    have hl := hlen _ _ h2
    have hdiv : (m : Int) / 2 ^ min (Int.toNat 7) IntKind.u64.bits = ((m / 128 : Nat) : Int) := by
      show (m : Int) / 2 ^ 7 = _
      omega
    cases xs with
    | nil =>
      conv => whnf
      refine ⟨fun h3 => ?_, fun h3 => ?_⟩
      · have h3 : 128 ≤ m := by simp at h3; omega
        conv => whnf
        refine ⟨by show 1 * 1 ≤ _; omega, ?_⟩
        conv => whnf
        refine ⟨by decide, ?_⟩
        conv => whnf
        refine ⟨(m / 128, [bits .or .u8 (IntKind.wrap .u8 m) 128]), ⟨⟨by dsimp only; omega, ?_⟩, by dsimp only; omega⟩, ?_⟩
        · dsimp only
          rw [put_step m h3, ← h2]
          rfl
        · conv => whnf
          exact ⟨rfl, ⟨hdiv, trivial, trivial⟩, trivial, rfl, trivial⟩
      · have h3 : m < 128 := by simp at h3; omega
        conv => whnf
        refine ⟨by show 1 * 1 ≤ _; omega, ?_⟩
        conv => whnf
        rw [← h2, ← put_last m h3]
        rfl
    | cons x xs =>
      have e1 : ((x :: xs).length + 1) * 1 ≤ 140737488355328 := by omega
      conv => whnf
      refine ⟨fun h3 => ?_, fun h3 => ?_⟩
      · have h3 : 128 ≤ m := by simp at h3; omega
        conv => whnf
        refine ⟨e1, ?_⟩
        conv => whnf
        refine ⟨by decide, ?_⟩
        conv => whnf
        refine ⟨(m / 128, x :: xs ++ [bits .or .u8 (IntKind.wrap .u8 m) 128]), ⟨⟨by dsimp only; omega, ?_⟩, by dsimp only; omega⟩, ?_⟩
        · dsimp only
          rw [byl_app, List.append_assoc, put_step m h3, ← h2]
        · conv => whnf
          exact ⟨rfl, ⟨hdiv, trivial, trivial⟩, trivial, rfl, trivial⟩
      · have h3 : m < 128 := by simp at h3; omega
        conv => whnf
        refine ⟨e1, ?_⟩
        conv => whnf
        rw [← h2, ← put_last m h3, ← byl_app]
end Go.Proofs.YtmdjonckcapkeaaGreatDoor
/- The walks of num.PutInt and num.PutText. Own work. -/
set_option linter.unusedVariables false
namespace Go.Proofs.YtmdjonckcapkeaaGreatDoor
open Go Go.RowKit OE

theorem putint_bits (n : Int) (h0 : -9223372036854775808 ≤ n) (h1 : n ≤ 9223372036854775807) :
    bits .xor .u64 (IntKind.wrap .u64 (IntKind.wrap .u64 n * 2 ^ min (Int.toNat 1) IntKind.u64.bits)) (IntKind.wrap .u64 (n / 2 ^ min (Int.toNat 63) IntKind.i64.bits)) = ((Num.zig n : Nat) : Int) := by
  have e1 : IntKind.wrap .u64 (IntKind.wrap .u64 n * 2 ^ min (Int.toNat 1) IntKind.u64.bits) = ((2 * n) % 18446744073709551616) := by
    rw [wru64m, wru64m]
    show (_ * 2 ^ 1) % _ = _
    omega
  have e2 : n / 2 ^ min (Int.toNat 63) IntKind.i64.bits = if 0 ≤ n then 0 else -1 := by
    show n / 2 ^ 63 = _
    split <;> omega
  rw [e1, e2]
  unfold Num.zig
  by_cases h : 0 ≤ n
  · rw [if_pos h, if_pos h]
    obtain ⟨m, rfl⟩ := Int.eq_ofNat_of_zero_le h
    have e3 : (2 * (m : Int)) % 18446744073709551616 = ((2 * m : Nat) : Int) := by omega
    have e4 : IntKind.wrap .u64 0 = ((0 : Nat) : Int) := rfl
    rw [e3, e4, u64_xor_nat _ _ (by omega) (by omega), Nat.xor_zero]
    omega
  · rw [if_neg h, if_neg h]
    have e3 : (2 * n) % 18446744073709551616 = (((2 * n + 18446744073709551616).toNat : Nat) : Int) := by omega
    have e4 : IntKind.wrap .u64 (-1) = ((18446744073709551615 : Nat) : Int) := rfl
    rw [e3, e4, u64_xor_nat _ _ (by omega) (by omega), xor_max _ (by omega)]
    omega
theorem zig_bd (n : Int) (h0 : -9223372036854775808 ≤ n) (h1 : n ≤ 9223372036854775807) : Num.zig n < 18446744073709551616 := by
  unfold Num.zig
  split <;> omega

theorem num_PutInt (n : Int) (h0 : -9223372036854775808 ≤ n) (h1 : n ≤ 9223372036854775807) : FnD Tryz.prog 133 [.c (.int .i64 n)] (· = .c (.str (Num.putZ n))) := by
  refine fn0 Tryz.func133 rfl rfl rfl ?_
  conv => whnf
  refine ⟨by decide, ?_⟩
  conv => whnf
  refine ⟨by decide, ?_⟩
  conv => whnf
  rw [putint_bits n h0 h1]
  refine call1 (num_Put _ (zig_bd n h0 h1)) rfl ?_
  conv => whnf
  rfl

theorem num_PutText (s : List UInt8) (hs : s.length ≤ 140737488355327) : FnD Tryz.prog 46 [.c (.str s)] (· = .c (.str (Num.putT s))) := by
  refine fn0 Tryz.func46 rfl rfl rfl ?_
  conv => whnf
  rw [wru64 _ (by omega) (by omega)]
  have hp := Num.putN_ten (n := s.length) (by omega)
  refine call1 (num_Put _ (by omega)) rfl ?_
  conv => whnf
  refine ⟨by omega, ?_⟩
  conv => whnf
  rfl
end Go.Proofs.YtmdjonckcapkeaaGreatDoor
/- The walks of the reference's Put, PutInt, PutText. Own work. -/
set_option linter.unusedVariables false
namespace Go.Proofs.YtmdjonckcapkeaaGreatDoor
open Go Go.RowKit OE

theorem ref_Put : ∀ (n : Nat) (hn : n < 18446744073709551616), FnD Tryz.prog 76 [.c (.int .u64 n)] (· = .c (.str (Num.putN n))) := by
  intro n
  induction n using Nat.strongRecOn with
  | _ n ih =>
    intro hn
    refine fn0 Tryz.func76 rfl rfl rfl ?_
    conv => whnf
    refine ⟨fun h1 => ?_, fun h1 => ?_⟩
    · have h1 : n < 128 := by simp at h1; omega
      conv => whnf
      rw [← put_last n h1]
    · have h1 : 128 ≤ n := by simp at h1; omega
      conv => whnf
      refine any0 ?_
      conv => whnf
      refine ⟨by decide, ?_⟩
      conv => whnf
      refine ⟨by decide, ?_⟩
      have e1 : IntKind.wrap .u64 ((n : Int).tdiv 128) = ((n / 128 : Nat) : Int) := by
        rw [Int.tdiv_eq_ediv_of_nonneg (by omega), wru64 _ (by omega) (by omega)]; omega
      conv => whnf
      rw [e1]
      refine callr0 (ih (n / 128) (by omega) (by omega)) rfl ?_
      have e2 : byl [IntKind.wrap .u8 (IntKind.wrap .u64 ((n : Int).tmod 128 + 128))] = [UInt8.ofNat (n % 128 + 128)] := by
        have e3 : IntKind.wrap .u8 (IntKind.wrap .u64 ((n : Int).tmod 128 + 128)) = ((n % 128 + 128 : Nat) : Int) := by
          rw [Int.tmod_eq_emod_of_nonneg (by omega), wru64 _ (by omega) (by omega), wru8]; omega
        rw [e3]; rfl
      have hl := Num.putN_ten (n := n / 128) (by omega)
      conv => whnf
      refine ⟨?_, ?_⟩
      · rw [e2]; simp only [List.length_singleton]; omega
      conv => whnf
      refine ⟨.inl (by kernel_rfl), after0 ?_⟩
      conv => whnf
      rw [e2, Num.putN_ge h1]
      rfl

theorem ref_PutInt (n : Int) (h0 : -9223372036854775808 ≤ n) (h1 : n ≤ 9223372036854775807) : FnD Tryz.prog 120 [.c (.int .i64 n)] (· = .c (.str (Num.putZ n))) := by
  refine fn0 Tryz.func120 rfl rfl rfl ?_
  conv => whnf
  refine ⟨fun h => ?_, fun h => ?_⟩
  · simp at h
    have e1 : Num.zig n = (-2 * n - 1).toNat := by unfold Num.zig; rw [if_neg (by omega)]
    have e2 : IntKind.wrap .u64 (IntKind.wrap .u64 (2 * IntKind.wrap .u64 (IntKind.wrap .i64 (0 - IntKind.wrap .i64 (n + 1)))) + 1) = ((Num.zig n : Nat) : Int) := by
      rw [wr64 (n + 1) (by omega) (by omega), wr64 (0 - (n + 1)) (by omega) (by omega), wru64 (0 - (n + 1)) (by omega) (by omega), wru64 (2 * (0 - (n + 1))) (by omega) (by omega), wru64 _ (by omega) (by omega), e1]; omega
    conv => whnf
    rw [e2]
    refine call1 (ref_Put (Num.zig n) (zig_bd n h0 h1)) rfl ?_
    conv => whnf
    rfl
  · simp at h
    have e1 : Num.zig n = (2 * n).toNat := by unfold Num.zig; rw [if_pos h]
    have e2 : IntKind.wrap .u64 (2 * IntKind.wrap .u64 n) = ((Num.zig n : Nat) : Int) := by
      rw [wru64 n (by omega) (by omega), wru64 _ (by omega) (by omega), e1]; omega
    conv => whnf
    rw [e2]
    refine call1 (ref_Put (Num.zig n) (zig_bd n h0 h1)) rfl ?_
    conv => whnf
    rfl

theorem ref_PutText (s : List UInt8) (hs : s.length ≤ 140737488355327) : FnD Tryz.prog 48 [.c (.str s)] (· = .c (.str (Num.putT s))) := by
  refine fn0 Tryz.func48 rfl rfl rfl ?_
  conv => whnf
  rw [wru64 _ (by omega) (by omega)]
  have hp := Num.putN_ten (n := s.length) (by omega)
  refine call1 (ref_Put _ (by omega)) rfl ?_
  conv => whnf
  refine ⟨by omega, ?_⟩
  conv => whnf
  rfl

end Go.Proofs.YtmdjonckcapkeaaGreatDoor
/- The walks of rule.Encode and of the reference's. Own work. -/
set_option linter.unusedVariables false
set_option maxRecDepth 100000
namespace Go.Proofs.YtmdjonckcapkeaaGreatDoor
open Go Go.RowKit OE

theorem nameS_len {s : List UInt8} (h : nameS s = true) : s.length ≤ 16 := by
  unfold nameS at h
  simp only [Bool.and_eq_true, decide_eq_true_eq] at h
  exact h.1.1.2
/-- is a rule good? -/
def okS (r : RD.T) : Bool := formS r && decide (0 ≤ r.1) && decide (r.1 ≤ 1000000) && decide (0 ≤ r.2.2.2.2.2.2.2) && decide (r.2.2.2.2.2.2.2 ≤ 2)
/-- a good rule's bytes -/
def bytS (r : RD.T) : List UInt8 := Num.putN r.1.toNat ++ Num.putN r.2.1.toNat ++ Num.putN r.2.2.2.2.2.2.2.toNat ++ Num.putN r.2.2.2.2.2.2.1.toNat ++ Num.putT r.2.2.1 ++ Num.putT r.2.2.2.1 ++ Num.putT r.2.2.2.2.1 ++ Num.putT r.2.2.2.2.2.1
def encS (r : RD.T) : List UInt8 := if okS r = true then bytS r else []
def errS (r : RD.T) : Int := if okS r = true then 0 else 11

structure OkR (r : RD.T) : Prop where
  i0 : 0 ≤ r.1
  i1 : r.1 ≤ 1000000
  k0 : 1 ≤ r.2.1
  k1 : r.2.1 ≤ 4
  n0 : 0 ≤ r.2.2.2.2.2.2.1
  n1 : r.2.2.2.2.2.2.1 ≤ 1024
  s0 : 0 ≤ r.2.2.2.2.2.2.2
  s1 : r.2.2.2.2.2.2.2 ≤ 2
  t0 : r.2.2.1.length ≤ 16
  t1 : r.2.2.2.1.length ≤ 16
  t2 : r.2.2.2.2.1.length ≤ 16
  t3 : r.2.2.2.2.2.1.length ≤ 16
theorem okR {r : RD.T} (h : okS r = true) : OkR r := by
  simp only [okS, Bool.and_eq_true, decide_eq_true_eq] at h
  obtain ⟨⟨⟨⟨hf, h1⟩, h2⟩, h3⟩, h4⟩ := h
  unfold formS at hf
  rw [Bool.and_eq_true] at hf
  obtain ⟨hn, hf⟩ := hf
  have hn := nameS_len hn
  split at hf
  · rename_i hk
    simp only [Bool.and_eq_true, decide_eq_true_eq] at hf
    obtain ⟨⟨⟨f1, f2⟩, f3⟩, f4⟩ := hf
    have := nameS_len f1
    exact ⟨h1, h2, by rcases hk with hk | hk <;> rw [hk] <;> decide, by rcases hk with hk | hk <;> rw [hk] <;> decide, by rw [f4]; decide, by rw [f4]; decide, h3, h4, hn, this, by rw [f2]; decide, by rw [f3]; decide⟩
  · split at hf
    · rename_i hk
      simp only [Bool.and_eq_true, decide_eq_true_eq] at hf
      obtain ⟨⟨⟨f1, f2⟩, f3⟩, f4⟩ := hf
      have f1 := nameS_len f1
      have f2 := nameS_len f2
      exact ⟨h1, h2, by rw [hk]; decide, by rw [hk]; decide, by rw [f4]; decide, by rw [f4]; decide, h3, h4, hn, by rw [f3]; decide, f1, f2⟩
    · split at hf
      · rename_i hk
        simp only [Bool.and_eq_true, decide_eq_true_eq] at hf
        obtain ⟨⟨⟨⟨f1, f2⟩, f3⟩, f4⟩, f5⟩ := hf
        exact ⟨h1, h2, by rw [hk]; decide, by rw [hk]; decide, f4, f5, h3, h4, hn, by rw [f1]; decide, by rw [f2]; decide, by rw [f3]; decide⟩
      · cases hf

theorem wuN (x : Int) (h0 : 0 ≤ x) (h1 : x ≤ 1000000) : IntKind.wrap .u64 x = ((x.toNat : Nat) : Int) := by rw [wru64 x h0 (by omega)]; omega
theorem putN_b (x : Int) (h : x ≤ 1000000) : (Num.putN x.toNat).length ≤ 10 := Num.putN_ten (by omega)
theorem putT_b {s : List UInt8} (h : s.length ≤ 16) : (Num.putT s).length ≤ 26 := by
  have := Num.putN_ten (n := s.length) (by omega)
  unfold Num.putT
  rw [List.length_append]
  omega

theorem num_PutI (x : Int) (h0 : 0 ≤ x) (h1 : x ≤ 1000000) : FnD Tryz.prog 71 [.c (.int .u64 (IntKind.wrap .u64 x))] (· = .c (.str (Num.putN x.toNat))) := by
  rw [wuN x h0 h1]
  exact num_Put _ (by omega)

theorem rule_Encode (r : RD.T) : FnD Tryz.prog 91 [.agg (rc r)] (· = .tup [(false, [.str (encS r)]), (false, [.int .i64 (errS r)])]) := by
  refine fn0 Tryz.func91 rfl rfl rfl ?_
  conv => whnf
  refine call1 (rule_Form r) rfl ?_
  conv => whnf
  have hok : okS r = !(!formS r || decide (r.1 < 0) || decide (1000000 < r.1) || decide (r.2.2.2.2.2.2.2 < 0) || decide (2 < r.2.2.2.2.2.2.2)) := by
    rw [Bool.eq_iff_iff]; simp [okS]
  refine ⟨fun h1 => ?_, fun h1 => ?_⟩
  · conv => whnf
    rw [h1] at hok
    simp [encS, errS, hok]
  rw [h1] at hok
  have hO := okR hok
  obtain ⟨i0, i1, k0, k1, n0, n1, s0, s1, t0, t1, t2, t3⟩ := hO
  have k2 : 0 ≤ r.2.1 := Int.le_trans (by decide) k0
  have k3 : r.2.1 ≤ 1000000 := Int.le_trans k1 (by decide)
  have n2 : r.2.2.2.2.2.2.1 ≤ 1000000 := Int.le_trans n1 (by decide)
  have s2 : r.2.2.2.2.2.2.2 ≤ 1000000 := Int.le_trans s1 (by decide)
  have p1 := putN_b r.1 i1
  have p2 := putN_b r.2.1 k3
  have p3 := putN_b r.2.2.2.2.2.2.2 s2
  have p4 := putN_b r.2.2.2.2.2.2.1 n2
  have q1 := putT_b t0
  have q2 := putT_b t1
  have q3 := putT_b t2
  have q4 := putT_b t3
  conv => whnf
  intro _
  conv => whnf
  refine unroll0 5 ?_
  conv => whnf
  refine tk rfl ?_
  conv => whnf
  intro _
  conv => whnf
  refine ⟨show (0 : Int) ≤ 0 ∧ (0 : Int) < 4 from by decide, ?_⟩
  conv => whnf
  refine ⟨show (0 : Int) ≤ 0 ∧ (0 : Int) < 4 from by decide, ?_⟩
  conv => whnf
  refine call1 (num_PutI r.1 i0 i1) rfl ?_
  conv => whnf
  refine ⟨by show 0 + _ ≤ _; omega, ?_⟩
  conv => whnf
  refine tk rfl ?_
  conv => whnf
  intro _
  conv => whnf
  refine ⟨show (0 : Int) ≤ 1 ∧ (1 : Int) < 4 from by decide, ?_⟩
  conv => whnf
  refine ⟨show (0 : Int) ≤ 1 ∧ (1 : Int) < 4 from by decide, ?_⟩
  conv => whnf
  refine call1 (num_PutI r.2.1 k2 k3) rfl ?_
  conv => whnf
  refine ⟨by simp only [List.length_append, List.length_nil]; omega, ?_⟩
  conv => whnf
  refine tk rfl ?_
  conv => whnf
  intro _
  conv => whnf
  refine ⟨show (0 : Int) ≤ 2 ∧ (2 : Int) < 4 from by decide, ?_⟩
  conv => whnf
  refine ⟨show (0 : Int) ≤ 2 ∧ (2 : Int) < 4 from by decide, ?_⟩
  conv => whnf
  refine call1 (num_PutI r.2.2.2.2.2.2.2 s0 s2) rfl ?_
  conv => whnf
  refine ⟨by simp only [List.length_append, List.length_nil]; omega, ?_⟩
  conv => whnf
  refine tk rfl ?_
  conv => whnf
  intro _
  conv => whnf
  refine ⟨show (0 : Int) ≤ 3 ∧ (3 : Int) < 4 from by decide, ?_⟩
  conv => whnf
  refine ⟨show (0 : Int) ≤ 3 ∧ (3 : Int) < 4 from by decide, ?_⟩
  conv => whnf
  refine call1 (num_PutI r.2.2.2.2.2.2.1 n0 n2) rfl ?_
  conv => whnf
  refine ⟨by simp only [List.length_append, List.length_nil]; omega, ?_⟩
  conv => whnf
  refine fk rfl ?_
  conv => whnf
  intro _
  conv => whnf
  refine unroll0 5 ?_
  conv => whnf
  refine tk rfl ?_
  conv => whnf
  intro _
  conv => whnf
  refine ⟨show (0 : Int) ≤ 0 ∧ (0 : Int) < 4 from by decide, ?_⟩
  conv => whnf
  refine ⟨show (0 : Int) ≤ 0 ∧ (0 : Int) < 4 from by decide, ?_⟩
  conv => whnf
  refine call1 (num_PutText r.2.2.1 (Nat.le_trans t0 (by decide))) rfl ?_
  conv => whnf
  refine ⟨by simp only [List.length_append, List.length_nil]; omega, ?_⟩
  conv => whnf
  refine tk rfl ?_
  conv => whnf
  intro _
  conv => whnf
  refine ⟨show (0 : Int) ≤ 1 ∧ (1 : Int) < 4 from by decide, ?_⟩
  conv => whnf
  refine ⟨show (0 : Int) ≤ 1 ∧ (1 : Int) < 4 from by decide, ?_⟩
  conv => whnf
  refine call1 (num_PutText r.2.2.2.1 (Nat.le_trans t1 (by decide))) rfl ?_
  conv => whnf
  refine ⟨by simp only [List.length_append, List.length_nil]; omega, ?_⟩
  conv => whnf
  refine tk rfl ?_
  conv => whnf
  intro _
  conv => whnf
  refine ⟨show (0 : Int) ≤ 2 ∧ (2 : Int) < 4 from by decide, ?_⟩
  conv => whnf
  refine ⟨show (0 : Int) ≤ 2 ∧ (2 : Int) < 4 from by decide, ?_⟩
  conv => whnf
  refine call1 (num_PutText r.2.2.2.2.1 (Nat.le_trans t2 (by decide))) rfl ?_
  conv => whnf
  refine ⟨by simp only [List.length_append, List.length_nil]; omega, ?_⟩
  conv => whnf
  refine tk rfl ?_
  conv => whnf
  intro _
  conv => whnf
  refine ⟨show (0 : Int) ≤ 3 ∧ (3 : Int) < 4 from by decide, ?_⟩
  conv => whnf
  refine ⟨show (0 : Int) ≤ 3 ∧ (3 : Int) < 4 from by decide, ?_⟩
  conv => whnf
  refine call1 (num_PutText r.2.2.2.2.2.1 (Nat.le_trans t3 (by decide))) rfl ?_
  conv => whnf
  refine ⟨by simp only [List.length_append, List.length_nil]; omega, ?_⟩
  conv => whnf
  refine fk rfl ?_
  conv => whnf
  have hok' : okS r = true := hok
  rw [encS, errS, if_pos hok', if_pos hok']
  rfl

theorem ref_put (x : Int) (h0 : 0 ≤ x) (h1 : x ≤ 1000000) : FnD Tryz.prog 81 [.c (.int .i64 x)] (· = .c (.str (Num.putN x.toNat))) := by
  refine fn0 Tryz.func81 rfl rfl rfl ?_
  conv => whnf
  rw [wuN x h0 h1]
  refine call1 (ref_Put x.toNat (by omega)) rfl ?_
  conv => whnf

theorem refrule_Encode (r : RD.T) : FnD Tryz.prog 58 [.agg (rc r)] (· = .tup [(false, [.str (encS r)]), (false, [.int .i64 (errS r)])]) := by
  refine fn0 Tryz.func58 rfl rfl rfl ?_
  conv => whnf
  refine call1 (ref_Form r) rfl ?_
  conv => whnf
  have hok : okS r = !(!formS r || decide (r.1 < 0) || decide (1000000 < r.1) || decide (r.2.2.2.2.2.2.2 < 0) || decide (2 < r.2.2.2.2.2.2.2)) := by
    rw [Bool.eq_iff_iff]; simp [okS]
  refine ⟨fun h1 => ?_, fun h1 => ?_⟩
  · conv => whnf
    rw [h1] at hok
    simp [encS, errS, hok]
  rw [h1] at hok
  have hO := okR hok
  obtain ⟨i0, i1, k0, k1, n0, n1, s0, s1, t0, t1, t2, t3⟩ := hO
  have k2 : 0 ≤ r.2.1 := Int.le_trans (by decide) k0
  have k3 : r.2.1 ≤ 1000000 := Int.le_trans k1 (by decide)
  have n2 : r.2.2.2.2.2.2.1 ≤ 1000000 := Int.le_trans n1 (by decide)
  have s2 : r.2.2.2.2.2.2.2 ≤ 1000000 := Int.le_trans s1 (by decide)
  have p1 := putN_b r.1 i1
  have p2 := putN_b r.2.1 k3
  have p3 := putN_b r.2.2.2.2.2.2.2 s2
  have p4 := putN_b r.2.2.2.2.2.2.1 n2
  have q1 := putT_b t0
  have q2 := putT_b t1
  have q3 := putT_b t2
  have q4 := putT_b t3
  conv => whnf
  refine any0 ?_
  conv => whnf
  refine callr0 (ref_put r.1 i0 i1) rfl ?_
  conv => whnf
  refine callr0 (ref_put r.2.1 k2 k3) rfl ?_
  conv => whnf
  refine ⟨by omega, ?_⟩
  conv => whnf
  refine callr0 (ref_put r.2.2.2.2.2.2.2 s0 s2) rfl ?_
  conv => whnf
  refine ⟨by simp only [List.length_append]; omega, ?_⟩
  conv => whnf
  refine callr0 (ref_put r.2.2.2.2.2.2.1 n0 n2) rfl ?_
  conv => whnf
  refine ⟨by simp only [List.length_append]; omega, ?_⟩
  conv => whnf
  refine callr0 (ref_PutText r.2.2.1 (Nat.le_trans t0 (by decide))) rfl ?_
  conv => whnf
  refine ⟨by simp only [List.length_append]; omega, ?_⟩
  conv => whnf
  refine callr0 (ref_PutText r.2.2.2.1 (Nat.le_trans t1 (by decide))) rfl ?_
  conv => whnf
  refine ⟨by simp only [List.length_append]; omega, ?_⟩
  conv => whnf
  refine callr0 (ref_PutText r.2.2.2.2.1 (Nat.le_trans t2 (by decide))) rfl ?_
  conv => whnf
  refine ⟨by simp only [List.length_append]; omega, ?_⟩
  conv => whnf
  refine callr0 (ref_PutText r.2.2.2.2.2.1 (Nat.le_trans t3 (by decide))) rfl ?_
  conv => whnf
  refine ⟨by simp only [List.length_append]; omega, ?_⟩
  conv => whnf
  refine ⟨.inl (by kernel_rfl), after0 ?_⟩
  conv => whnf
  have hok' : okS r = true := hok
  rw [encS, errS, if_pos hok', if_pos hok']
  rfl
end Go.Proofs.YtmdjonckcapkeaaGreatDoor
/- The walks of the reference's Get, GetInt, GetText. Own work. -/
set_option linter.unusedVariables false
namespace Go.Proofs.YtmdjonckcapkeaaGreatDoor
open Go Go.RowKit OE

def gotR (o : Option (Nat × Nat)) : SV := .agg [.int .u64 ((o.getD (0, 0)).1 : Nat), .int .i64 ((o.getD (0, 0)).2 : Nat), .bool (.sym o.isSome)]
def gotIntR (o : Option (Nat × Nat)) : SV := .agg [.int .i64 (Num.zag (o.getD (0, 0)).1), .int .i64 ((o.getD (0, 0)).2 : Nat), .bool (.sym o.isSome)]
def gotTextR (o : Option (List UInt8 × Nat)) : SV := .agg [.str (o.getD ([], 0)).1, .int .i64 ((o.getD ([], 0)).2 : Nat), .bool (.sym o.isSome)]

theorem refget_bits (n c i : Nat) (hn : n < 128 ^ i) (hi : i ≤ 9) (hc : c < 256) (h9 : i = 9 → c ≤ 1) :
    IntKind.wrap .u64 ((n : Int) + IntKind.wrap .u64 ((c : Int).tmod 128 * ((128 ^ i : Nat) : Int))) = ((n + c % 128 * 128 ^ i : Nat) : Int) := by
  have hb : n + c % 128 * 128 ^ i < 18446744073709551616 := by
    by_cases h : i = 9
    · subst h
      have : c % 128 ≤ 1 := by have := h9 rfl; omega
      have : c % 128 * 128 ^ 9 ≤ 1 * 128 ^ 9 := Nat.mul_le_mul_right _ this
      omega
    · have h1 : c % 128 * 128 ^ i ≤ 127 * 128 ^ i := Nat.mul_le_mul_right _ (by omega)
      have h2 : (128 : Nat) ^ i ≤ 128 ^ 8 := Nat.pow_le_pow_right (by omega) (by omega)
      omega
  have e1 : (c : Int).tmod 128 * ((128 ^ i : Nat) : Int) = ((c % 128 * 128 ^ i : Nat) : Int) := by
    rw [Int.tmod_eq_emod_of_nonneg (by omega), Int.natCast_mul]; rfl
  rw [e1, wru64 ((c % 128 * 128 ^ i : Nat) : Int) (by omega) (by omega), wru64 _ (by omega) (by omega)]
  omega

theorem refnum_Get (s : List UInt8) (at_ : Int) (hs : s.length ≤ 4611686018427387904) : FnD Tryz.prog 56 [.c (.str s), .c (.int .i64 at_)] (· = gotR (Num.getN s at_)) := by
  refine fn0 Tryz.func56 rfl rfl rfl ?_
  conv => whnf
  refine ⟨fun h1 => ?_, fun h1 => ?_⟩
  · conv => whnf
    simp at h1
    have : Num.getN s at_ = none := by unfold Num.getN; rw [if_pos (by omega)]
    rw [this]; rfl
  simp at h1
  obtain ⟨a, rfl⟩ := Int.eq_ofNat_of_zero_le h1.1
  have hget : Num.getN s a = Num.getL (s.drop a) 0 0 := by
    unfold Num.getN; rw [if_neg (by omega)]; rfl
  conv => whnf
  refine loop0 (α := Nat × Nat) (fun p => p.1 ≤ 10 ∧ (p.1 ≤ 9 ∧ p.2 < 128 ^ p.1 ∧ a + p.1 ≤ s.length ∧ Num.getL (s.drop (a + p.1)) p.1 p.2 = Num.getL (s.drop a) 0 0))
    (fun p => ⟨[(0, .c (.str s)), (1, .c (.int .i64 a)), (4, .c (.ptr 0 0)), (5, .c (.int .u64 p.2)), (6, .c (.int .u64 ((128 ^ p.1 : Nat) : Int))), (7, .c (.int .i64 p.1))], [(0, .cells 131 [.int .u64 0, .int .i64 0, .bool .ff])], 1⟩) (fun p => 10 - p.1) ⟨(0, 0), ⟨by simp, by simp, by simp, by dsimp only; omega, by simp⟩, ?_⟩ ?_
  · conv => whnf
    exact ⟨rfl, ⟨rfl, rfl, rfl, rfl, rfl, rfl, trivial⟩, trivial, ⟨rfl, rfl, rfl, trivial⟩, trivial⟩
  · rintro ⟨i, n⟩ ⟨_, hI1, hI3, hI4, hI5⟩
    dsimp only at hI1 hI3 hI4 hI5 ⊢
    have e1 : IntKind.wrap .i64 ((a : Int) + i) = ((a + i : Nat) : Int) := by rw [wr64 _ (by omega) (by omega)]; omega
    conv => whnf
    rw [e1]
    refine ⟨fun h3 => ?_, fun h3 => ?_⟩
    · have hlt : a + i < s.length := by simp at h3; omega
      have hb : bt s ((a + i : Nat) : Int) = ((s[a + i]).toNat : Int) := bt_nat s (a + i) hlt
      have hL : Num.getL (s.drop (a + i)) i n = if i = 9 ∧ s[a + i].toNat ≠ 1 ∨ s[a + i].toNat = 0 ∧ 0 < i then none
          else if s[a + i].toNat < 128 then some (n + s[a + i].toNat % 128 * 128 ^ i, i + 1) else Num.getL (s.drop (a + (i + 1))) (i + 1) (n + s[a + i].toNat % 128 * 128 ^ i) := by
        rw [List.drop_eq_getElem_cons hlt]
        rfl
      have hc := (s[a + i]).toNat_lt
      generalize s[a + i].toNat = c at hb hL hc
      have hnone : (i = 9 ∧ c ≠ 1 ∨ c = 0 ∧ 0 < i) → Num.getN s a = none := by
        intro h
        rw [hget, ← hI5, hL, if_pos h]
      have e8 : IntKind.wrap .i64 ((i : Int) + 1) = ((i + 1 : Nat) : Int) := by rw [wr64 _ (by omega) (by omega)]; omega
      conv => whnf
      refine ⟨by rw [e1]; omega, ?_⟩
      rw [e1, hb]
      conv => whnf
      rw [wru64 (c : Int) (by omega) (by omega)]
      refine ⟨fun h4 => ?_, fun h4 => ?_⟩
      · simp at h4
        conv => whnf
        rw [hnone (by omega)]
        rfl
      simp at h4
      have hok : ¬ (i = 9 ∧ c ≠ 1 ∨ c = 0 ∧ 0 < i) := by omega
      have h9 : i = 9 → c ≤ 1 := by omega
      conv => whnf
      refine ⟨by decide, ?_⟩
      conv => whnf
      rw [refget_bits n c i hI3 hI1 hc h9]
      refine ⟨fun h7 => ?_, fun h7 => ?_⟩
      · conv => whnf
        simp at h7
        rw [if_neg hok, if_pos (by omega)] at hL
        rw [hget, ← hI5, hL, e8]
        rfl
      · simp at h7
        rw [if_neg hok, if_neg (by omega)] at hL
        have u1 : i + 1 ≤ 9 := by omega
        have e9 : IntKind.wrap .u64 (((128 ^ i : Nat) : Int) * 128) = ((128 ^ (i + 1) : Nat) : Int) := by
          have h2 : (128 : Nat) ^ (i + 1) ≤ 128 ^ 9 := Nat.pow_le_pow_right (by omega) u1
          rw [Nat.pow_succ] at h2 ⊢
          rw [wru64 _ (by omega) (by omega)]; omega
        conv => whnf
        refine ⟨(i + 1, n + c % 128 * 128 ^ i), ⟨⟨by dsimp only; omega, u1, ?_, by dsimp only; omega, by rw [← hL]; exact hI5⟩, by dsimp only; omega⟩, ?_⟩
        · have h1 : c % 128 * 128 ^ i ≤ 127 * 128 ^ i := Nat.mul_le_mul_right _ (by omega)
          dsimp only
          rw [Nat.pow_succ]
          omega
        conv => whnf
        exact ⟨rfl, ⟨rfl, rfl, rfl, rfl, e9.symm, e8.symm, trivial⟩, trivial, ⟨rfl, rfl, rfl, trivial⟩, trivial⟩
    · conv => whnf
      simp at h3
      rw [hget, ← hI5, List.drop_of_length_le (by omega)]
      rfl
end Go.Proofs.YtmdjonckcapkeaaGreatDoor
/- The walks of the reference's GetInt and GetText. Own work. -/
set_option linter.unusedVariables false
namespace Go.Proofs.YtmdjonckcapkeaaGreatDoor
open Go Go.RowKit OE

theorem refnum_GetInt (s : List UInt8) (at_ : Int) (hs : s.length ≤ 4611686018427387904) : FnD Tryz.prog 80 [.c (.str s), .c (.int .i64 at_)] (· = gotIntR (Num.getN s at_)) := by
  refine fn0 Tryz.func80 rfl rfl rfl ?_
  conv => whnf
  refine call1 (refnum_Get s at_ hs) rfl ?_
  conv => whnf
  cases hg : Num.getN s at_ with
  | none =>
    refine tk rfl ?_
    conv => whnf
    rfl
  | some p =>
    obtain ⟨n, k⟩ := p
    obtain ⟨hb1, _⟩ := Num.getN_bd hg
    refine fk rfl ?_
    conv => whnf
    refine ⟨by decide, ?_⟩
    conv => whnf
    have e0 : IntKind.wrap .i64 (IntKind.wrap .u64 ((n : Int).tdiv 2)) = ((n / 2 : Nat) : Int) := by
      rw [Int.tdiv_eq_ediv_of_nonneg (by omega), wru64 _ (by omega) (by omega), wr64 _ (by omega) (by omega)]; omega
    refine ⟨fun h => ?_, fun h => ?_⟩
    · have h : n % 2 = 1 := by
        simp at h; rw [Int.tmod_eq_emod_of_nonneg (by omega)] at h; omega
      conv => whnf
      refine ⟨by decide, ?_⟩
      conv => whnf
      have e : IntKind.wrap .i64 (IntKind.wrap .i64 (0 - IntKind.wrap .i64 (IntKind.wrap .u64 ((n : Int).tdiv 2))) - 1) = Num.zag n := by
        rw [e0, wr64 (0 - _) (by omega) (by omega), wr64 _ (by omega) (by omega)]
        unfold Num.zag; rw [if_neg (by omega)]; omega
      rw [show ((some (n, k)).getD (0, 0)).1 = n from rfl, e]
      rfl
    · have h : n % 2 = 0 := by
        simp at h; rw [Int.tmod_eq_emod_of_nonneg (by omega)] at h; omega
      conv => whnf
      refine ⟨by decide, ?_⟩
      conv => whnf
      have e : IntKind.wrap .i64 (IntKind.wrap .u64 ((n : Int).tdiv 2)) = Num.zag n := by
        rw [e0]
        unfold Num.zag; rw [if_pos h]
      rw [show ((some (n, k)).getD (0, 0)).1 = n from rfl, e]
      rfl

theorem refnum_GetText (s : List UInt8) (at_ most : Int) (hs : s.length ≤ 4611686018427387904) (hm : most ≤ 9223372036854775807) :
    FnD Tryz.prog 55 [.c (.str s), .c (.int .i64 at_), .c (.int .i64 most)] (· = gotTextR (Num.getT s at_ most)) := by
  refine fn0 Tryz.func55 rfl rfl rfl ?_
  conv => whnf
  refine call1 (refnum_Get s at_ hs) rfl ?_
  conv => whnf
  unfold Num.getT
  cases hg : Num.getN s at_ with
  | none =>
    refine ⟨fun _ => ?_, fun h => by simp at h⟩
    conv => whnf
    rfl
  | some p =>
    obtain ⟨n, k⟩ := p
    obtain ⟨hb1, hb2, hb3, hb4, hb5⟩ := Num.getN_bd hg
    obtain ⟨a, rfl⟩ := Int.eq_ofNat_of_zero_le hb4
    rw [show ((a : Nat) : Int).toNat = a from rfl] at hb5 ⊢
    dsimp only [Option.getD_some, Option.isSome_some]
    have e1 : IntKind.wrap .i64 (IntKind.wrap .i64 ((s.length : Int) - a) - k) = ((s.length - a - k : Nat) : Int) := by
      rw [wr64 ((s.length : Int) - a) (by omega) (by omega), wr64 _ (by omega) (by omega)]; omega
    have e0 := wru64 ((s.length - a - k : Nat) : Int) (by omega) (by omega)
    have hw : 0 ≤ most → IntKind.wrap .u64 most = most := fun h => wru64 most h (by omega)
    refine ⟨fun h1 => ?_, fun h1 => ?_⟩
    · simp [e1, e0] at h1
      conv => whnf
      rw [if_pos (by
        rcases h1 with (h1 | h1) | h1
        · exact .inl h1
        · by_cases hm0 : most < 0
          · exact .inl hm0
          · rw [hw (by omega)] at h1; exact .inr (.inl h1)
        · exact .inr (.inr (by omega)))]
      rfl
    simp [e1, e0] at h1
    obtain ⟨⟨h1, h2⟩, h3⟩ := h1
    rw [hw h1] at h2
    have e2 : IntKind.wrap .i64 ((a : Int) + k) = ((a + k : Nat) : Int) := by rw [wr64 _ (by omega) (by omega)]; omega
    have e3 : IntKind.wrap .i64 (IntKind.wrap .i64 ((a : Int) + k) + IntKind.wrap .i64 n) = ((a + k + n : Nat) : Int) := by
      rw [e2, wr64 (n : Int) (by omega) (by omega), wr64 _ (by omega) (by omega)]; omega
    have e4 : IntKind.wrap .i64 ((k : Int) + IntKind.wrap .i64 n) = ((k + n : Nat) : Int) := by
      rw [wr64 (n : Int) (by omega) (by omega), wr64 _ (by omega) (by omega)]; omega
    conv => whnf
    refine any0 ?_
    conv => whnf
    refine ⟨?_, ?_⟩
    · rw [e3, e2]; omega
    conv => whnf
    refine ⟨.inl (by kernel_rfl), after0 ?_⟩
    conv => whnf
    rw [if_neg (by omega), e3, e2, e4]
    have e5 : ((s.take (a + k + n)).drop (a + k)) = ((s.drop a).drop k).take n := by
      rw [List.drop_take, List.drop_drop]
      congr 1
      omega
    rw [← e5]
    rfl
end Go.Proofs.YtmdjonckcapkeaaGreatDoor
/- The walks of rule.Decode and of the reference's. Own work. -/
set_option linter.unusedVariables false
set_option maxRecDepth 100000
namespace Go.Proofs.YtmdjonckcapkeaaGreatDoor
open Go Go.RowKit OE

/-- a number that is no greater than a million -/
def gnS (s : List UInt8) (k : Int) : Option (Nat × Nat) := match Num.getN s k with | none => none | some p => if p.1 ≤ 1000000 then some p else none
/-- what a place holds, by its parts -/
def decP (s : List UInt8) (k : Int) : Option (RD.T × Nat) :=
  match gnS s k with
  | none => none
  | some (a, i1) =>
  match gnS s (k + i1) with
  | none => none
  | some (b, i2) =>
  match gnS s (k + i1 + i2) with
  | none => none
  | some (c, i3) =>
  match gnS s (k + i1 + i2 + i3) with
  | none => none
  | some (d, i4) =>
  match Num.getT s (k + i1 + i2 + i3 + i4) 16 with
  | none => none
  | some (t, i5) =>
  match Num.getT s (k + i1 + i2 + i3 + i4 + i5) 16 with
  | none => none
  | some (n, i6) =>
  match Num.getT s (k + i1 + i2 + i3 + i4 + i5 + i6) 16 with
  | none => none
  | some (f, i7) =>
  match Num.getT s (k + i1 + i2 + i3 + i4 + i5 + i6 + i7) 16 with
  | none => none
  | some (o, i8) => some ((((a : Nat) : Int), ((b : Nat) : Int), t, n, f, o, ((d : Nat) : Int), ((c : Nat) : Int)), i1 + i2 + i3 + i4 + i5 + i6 + i7 + i8)
/-- the rule that stands at a place -/
def decS (s : List UInt8) (k : Int) : Option (RD.T × Nat) := match decP s k with | none => none | some p => if okS p.1 = true then some p else none
def R0 : RD.T := RD.df
def decR (o : Option (RD.T × Nat)) : SV := .tup [(true, rc (o.getD (R0, 0)).1), (false, [.int .i64 ((o.getD (R0, 0)).2 : Nat)]), (false, [.bool (.sym o.isSome)])]

theorem gn_no {s : List UInt8} {k : Int} (h : (!(Num.getN s k).isSome || decide (1000000 < (((Num.getN s k).getD (0, 0)).1 : Int))) = true) : gnS s k = none := by
  unfold gnS
  revert h
  cases Num.getN s k with
  | none => intro _; rfl
  | some p => intro h; simp at h; exact if_neg (by omega)
theorem gn_yes {s : List UInt8} {k : Int} (h : (!(Num.getN s k).isSome || decide (1000000 < (((Num.getN s k).getD (0, 0)).1 : Int))) = false) (hs : s.length ≤ 100000000) :
    ∃ a i : Nat, Num.getN s k = some (a, i) ∧ gnS s k = some (a, i) ∧ IntKind.wrap .i64 (a : Int) = a ∧ IntKind.wrap .i64 (k + i) = k + i ∧ 0 ≤ k ∧ k + i ≤ s.length := by
  cases hg : Num.getN s k with
  | none => rw [hg] at h; simp at h
  | some p =>
    have hb := Num.getN_bd (m := p.1) (k := p.2) hg
    rw [hg] at h
    simp at h
    refine ⟨p.1, p.2, rfl, ?_, wr64 _ (by omega) (by omega), wr64 _ (by omega) (by omega), by omega, by omega⟩
    unfold gnS
    rw [hg]
    exact if_pos (by omega)
theorem gt_bd {s : List UInt8} {k : Int} {t : List UInt8} {i : Nat} (h : Num.getT s k 16 = some (t, i)) : 0 ≤ k ∧ k + i ≤ s.length := by
  unfold Num.getT at h
  cases hg : Num.getN s k with
  | none => rw [hg] at h; cases h
  | some p =>
    have hb := Num.getN_bd (m := p.1) (k := p.2) hg
    rw [hg] at h
    dsimp only at h
    split at h
    · cases h
    · simp only [Option.some.injEq, Prod.mk.injEq] at h
      omega
theorem gt_yes {s : List UInt8} {k : Int} (h : (!(Num.getT s k 16).isSome) = false) (hs : s.length ≤ 100000000) :
    ∃ (t : List UInt8) (i : Nat), Num.getT s k 16 = some (t, i) ∧ IntKind.wrap .i64 (k + i) = k + i ∧ 0 ≤ k ∧ k + i ≤ s.length := by
  cases hg : Num.getT s k 16 with
  | none => rw [hg] at h; simp at h
  | some p =>
    have hb := gt_bd (t := p.1) (i := p.2) hg
    exact ⟨p.1, p.2, rfl, wr64 _ (by omega) (by omega), by omega, by omega⟩
theorem gt_no {s : List UInt8} {k : Int} (h : (!(Num.getT s k 16).isSome) = true) : Num.getT s k 16 = none := by
  simpa using h

theorem rule_Decode (s : List UInt8) (k : Int) (hs : s.length ≤ 100000000) : FnD Tryz.prog 100 [.c (.str s), .c (.int .i64 k)] (· = decR (decS s k)) := by
  refine fn0 Tryz.func100 rfl rfl rfl ?_
  conv => whnf
  refine unroll0 5 ?_
  conv => whnf
  refine tk rfl ?_
  conv => whnf
  refine call1 (num_Get s (k) (by omega)) rfl ?_
  conv => whnf
  refine ⟨fun c1 => ?_, fun c1 => ?_⟩
  · conv => whnf
    have hd : decS s k = none := by simp only [decS, decP, gn_no c1]
    rw [hd]
    rfl
  obtain ⟨a1, i1, g1, h1, w1, u1, l1, m1⟩ := gn_yes c1 hs
  clear c1
  rw [g1]
  dsimp only [Option.getD_some, Option.isSome_some]
  conv => whnf
  rw [w1, u1]
  refine tk rfl ?_
  conv => whnf
  refine call1 (num_Get s (k + i1) (by omega)) rfl ?_
  conv => whnf
  refine ⟨fun c2 => ?_, fun c2 => ?_⟩
  · conv => whnf
    have hd : decS s k = none := by simp only [decS, decP, h1, gn_no c2]
    rw [hd]
    rfl
  obtain ⟨a2, i2, g2, h2, w2, u2, l2, m2⟩ := gn_yes c2 hs
  clear c2
  rw [g2]
  dsimp only [Option.getD_some, Option.isSome_some]
  conv => whnf
  rw [w2, u2]
  refine tk rfl ?_
  conv => whnf
  refine call1 (num_Get s (k + i1 + i2) (by omega)) rfl ?_
  conv => whnf
  refine ⟨fun c3 => ?_, fun c3 => ?_⟩
  · conv => whnf
    have hd : decS s k = none := by simp only [decS, decP, h1, h2, gn_no c3]
    rw [hd]
    rfl
  obtain ⟨a3, i3, g3, h3, w3, u3, l3, m3⟩ := gn_yes c3 hs
  clear c3
  rw [g3]
  dsimp only [Option.getD_some, Option.isSome_some]
  conv => whnf
  rw [w3, u3]
  refine tk rfl ?_
  conv => whnf
  refine call1 (num_Get s (k + i1 + i2 + i3) (by omega)) rfl ?_
  conv => whnf
  refine ⟨fun c4 => ?_, fun c4 => ?_⟩
  · conv => whnf
    have hd : decS s k = none := by simp only [decS, decP, h1, h2, h3, gn_no c4]
    rw [hd]
    rfl
  obtain ⟨a4, i4, g4, h4, w4, u4, l4, m4⟩ := gn_yes c4 hs
  clear c4
  rw [g4]
  dsimp only [Option.getD_some, Option.isSome_some]
  conv => whnf
  rw [w4, u4]
  refine fk rfl ?_
  conv => whnf
  refine unroll0 5 ?_
  conv => whnf
  refine tk rfl ?_
  conv => whnf
  refine call1 (num_GetText s (k + i1 + i2 + i3 + i4) 16 (by omega) (by decide)) rfl ?_
  conv => whnf
  refine ⟨fun c5 => ?_, fun c5 => ?_⟩
  · conv => whnf
    have hd : decS s k = none := by simp only [decS, decP, h1, h2, h3, h4, gt_no c5]
    rw [hd]
    rfl
  obtain ⟨a5, i5, g5, u5, l5, m5⟩ := gt_yes c5 hs
  clear c5
  rw [g5]
  dsimp only [Option.getD_some, Option.isSome_some]
  conv => whnf
  rw [u5]
  refine tk rfl ?_
  conv => whnf
  refine call1 (num_GetText s (k + i1 + i2 + i3 + i4 + i5) 16 (by omega) (by decide)) rfl ?_
  conv => whnf
  refine ⟨fun c6 => ?_, fun c6 => ?_⟩
  · conv => whnf
    have hd : decS s k = none := by simp only [decS, decP, h1, h2, h3, h4, g5, gt_no c6]
    rw [hd]
    rfl
  obtain ⟨a6, i6, g6, u6, l6, m6⟩ := gt_yes c6 hs
  clear c6
  rw [g6]
  dsimp only [Option.getD_some, Option.isSome_some]
  conv => whnf
  rw [u6]
  refine tk rfl ?_
  conv => whnf
  refine call1 (num_GetText s (k + i1 + i2 + i3 + i4 + i5 + i6) 16 (by omega) (by decide)) rfl ?_
  conv => whnf
  refine ⟨fun c7 => ?_, fun c7 => ?_⟩
  · conv => whnf
    have hd : decS s k = none := by simp only [decS, decP, h1, h2, h3, h4, g5, g6, gt_no c7]
    rw [hd]
    rfl
  obtain ⟨a7, i7, g7, u7, l7, m7⟩ := gt_yes c7 hs
  clear c7
  rw [g7]
  dsimp only [Option.getD_some, Option.isSome_some]
  conv => whnf
  rw [u7]
  refine tk rfl ?_
  conv => whnf
  refine call1 (num_GetText s (k + i1 + i2 + i3 + i4 + i5 + i6 + i7) 16 (by omega) (by decide)) rfl ?_
  conv => whnf
  refine ⟨fun c8 => ?_, fun c8 => ?_⟩
  · conv => whnf
    have hd : decS s k = none := by simp only [decS, decP, h1, h2, h3, h4, g5, g6, g7, gt_no c8]
    rw [hd]
    rfl
  obtain ⟨a8, i8, g8, u8, l8, m8⟩ := gt_yes c8 hs
  clear c8
  rw [g8]
  dsimp only [Option.getD_some, Option.isSome_some]
  conv => whnf
  rw [u8]
  refine fk rfl ?_
  conv => whnf
  have hp : decP s k = some ((((a1 : Nat) : Int), ((a2 : Nat) : Int), a5, a6, a7, a8, ((a4 : Nat) : Int), ((a3 : Nat) : Int)), i1 + i2 + i3 + i4 + i5 + i6 + i7 + i8) := by
    simp only [decP, h1, h2, h3, h4, g5, g6, g7, g8]
  refine call1 (rule_Encode ((((a1 : Nat) : Int), ((a2 : Nat) : Int), a5, a6, a7, a8, ((a4 : Nat) : Int), ((a3 : Nat) : Int)) : RD.T)) rfl ?_
  conv => whnf
  refine ⟨fun c9 => ?_, fun c9 => ?_⟩
  · conv => whnf
    have hn : okS ((((a1 : Nat) : Int), ((a2 : Nat) : Int), a5, a6, a7, a8, ((a4 : Nat) : Int), ((a3 : Nat) : Int)) : RD.T) = false := by
      cases h : okS ((((a1 : Nat) : Int), ((a2 : Nat) : Int), a5, a6, a7, a8, ((a4 : Nat) : Int), ((a3 : Nat) : Int)) : RD.T) with
      | false => rfl
      | true => simp [errS, h] at c9
    have hd : decS s k = none := by simp only [decS, hp, hn]; rfl
    rw [hd]
    rfl
  have hn : okS ((((a1 : Nat) : Int), ((a2 : Nat) : Int), a5, a6, a7, a8, ((a4 : Nat) : Int), ((a3 : Nat) : Int)) : RD.T) = true := by
    cases h : okS ((((a1 : Nat) : Int), ((a2 : Nat) : Int), a5, a6, a7, a8, ((a4 : Nat) : Int), ((a3 : Nat) : Int)) : RD.T) with
    | true => rfl
    | false => simp [errS, h] at c9
  have hd : decS s k = some (((((a1 : Nat) : Int), ((a2 : Nat) : Int), a5, a6, a7, a8, ((a4 : Nat) : Int), ((a3 : Nat) : Int)) : RD.T), i1 + i2 + i3 + i4 + i5 + i6 + i7 + i8) := by simp only [decS, hp, hn, if_true]
  have hz : IntKind.wrap .i64 (k + i1 + i2 + i3 + i4 + i5 + i6 + i7 + i8 - k) = ((i1 + i2 + i3 + i4 + i5 + i6 + i7 + i8 : Nat) : Int) := by
    rw [wr64 _ (by omega) (by omega)]; omega
  conv => whnf
  rw [hd, hz]
  rfl
end Go.Proofs.YtmdjonckcapkeaaGreatDoor
/- The walks of val.Good, of the three methods behind it, and of the reference's Good and Blank. Own work. -/
set_option linter.unusedVariables false
set_option maxRecDepth 100000
namespace Go.Proofs.YtmdjonckcapkeaaGreatDoor
open Go Go.RowKit OE

def good1 (v : VD.T) : Bool := (decide (v.2.1 = 0) || decide (v.2.1 = 1)) && decide (v.2.2 = [])
def good3 (v : VD.T) : Bool := decide (v.2.1 = 0) && decide ((v.2.2.length : Int) ≤ 1024)
def goodV (v : VD.T) : Bool := if v.1 = 1 then good1 v else if v.1 = 2 then decide (v.2.2 = []) else if v.1 = 3 then good3 v else false
def blankV (v : VD.T) : Bool := decide (v.1 = 0) && decide (v.2.1 = 0) && decide (v.2.2 = [])

theorem own_bool (v : VD.T) : FnD Tryz.prog 123 [.agg (vc v)] (· = .c (.bool (.sym (good1 v)))) := by
  refine fn0 Tryz.func123 rfl rfl rfl ?_
  conv => whnf
  rfl
theorem own_int (v : VD.T) : FnD Tryz.prog 124 [.agg (vc v)] (· = .c (.bool (.sym (decide (v.2.2 = []))))) := by
  refine fn0 Tryz.func124 rfl rfl rfl ?_
  conv => whnf
theorem own_text (v : VD.T) : FnD Tryz.prog 125 [.agg (vc v)] (· = .c (.bool (.sym (good3 v)))) := by
  refine fn0 Tryz.func125 rfl rfl rfl ?_
  conv => whnf
  rfl

theorem val_Good (v : VD.T) (hk : (Lit.int .i64 v.1).wf = true) : FnD Tryz.prog 106 [.agg (vc v)] (· = .c (.bool (.sym (goodV v)))) := by
  refine fn0 Tryz.func106 rfl rfl rfl ?_
  conv => whnf
  refine ⟨by decide, ?_⟩
  conv => whnf
  refine ⟨by decide, ?_⟩
  conv => whnf
  refine ⟨by decide, ?_⟩
  conv => whnf
  refine ⟨hk, ⟨fun h1 => ?_, fun h1 => ⟨fun h2 => ?_, fun h2 => ⟨fun h3 => ?_, fun h3 => ?_⟩⟩⟩⟩
  · conv => whnf
    refine call1 (own_bool v) rfl ?_
    conv => whnf
    simp at h1; simp [goodV, h1]
  · conv => whnf
    refine call1 (own_int v) rfl ?_
    conv => whnf
    simp at h1 h2; simp [goodV, h2]
  · conv => whnf
    refine call1 (own_text v) rfl ?_
    conv => whnf
    simp at h1 h2 h3; simp [goodV, h3]
  · conv => whnf
    simp at h1 h2 h3; simp [goodV, h1, h2, h3]

theorem ref_Good (v : VD.T) : FnD Tryz.prog 62 [.agg (vc v)] (· = .c (.bool (.sym (goodV v)))) := by
  refine fn0 Tryz.func62 rfl rfl rfl ?_
  conv => whnf
  refine ⟨fun h1 => ?_, fun h1 => ?_⟩
  · conv => whnf
    simp at h1; simp [goodV, good1, h1]
  conv => whnf
  refine ⟨fun h2 => ?_, fun h2 => ?_⟩
  · conv => whnf
    simp at h1 h2; simp [goodV, h2]
  conv => whnf
  refine ⟨fun h3 => ?_, fun h3 => ?_⟩
  · conv => whnf
    simp at h1 h2 h3; simp [goodV, good3, h3]
  · conv => whnf
    simp at h1 h2 h3; simp [goodV, h1, h2, h3]
theorem ref_Blank (v : VD.T) : FnD Tryz.prog 83 [.agg (vc v)] (· = .c (.bool (.sym (blankV v)))) := by
  refine fn0 Tryz.func83 rfl rfl rfl ?_
  conv => whnf
  rfl
end Go.Proofs.YtmdjonckcapkeaaGreatDoor
/- The walks of val.Encode and of the reference's. Own work. -/
set_option linter.unusedVariables false
set_option maxRecDepth 100000
namespace Go.Proofs.YtmdjonckcapkeaaGreatDoor
open Go Go.RowKit OE

/-- a kind's byte -/
def kb (k : Int) : List UInt8 := byl [IntKind.wrap .u8 k]
/-- a value's bytes -/
def encV (v : VD.T) : List UInt8 :=
  if blankV v = true then kb v.1
  else if goodV v = true then (if v.1 = 1 then kb v.1 ++ byl [IntKind.wrap .u8 v.2.1] else if v.1 = 2 then kb v.1 ++ Num.putZ v.2.1 else kb v.1 ++ Num.putT v.2.2)
  else []
theorem putZ_len (n : Int) (h0 : -9223372036854775808 ≤ n) (h1 : n ≤ 9223372036854775807) : (Num.putZ n).length ≤ 10 := Num.putN_ten (zig_bd n h0 h1)
theorem good_len {v : VD.T} (h : goodV v = true) : v.2.2.length ≤ 1024 := by
  unfold goodV at h
  split at h
  · simp [good1] at h; rw [h.2]; simp
  · split at h
    · simp at h; rw [h]; simp
    · split at h
      · simp only [good3, Bool.and_eq_true, decide_eq_true_eq] at h; omega
      · cases h
theorem blank_eq (v : VD.T) : VD.eqb v (0, 0, []) = blankV v := by
  simp [D.eqb, blankV, Bool.and_assoc]

theorem val_Encode (v : VD.T) (hv : Wf VD v) : FnD Tryz.prog 112 [.agg (vc v)] (· = .c (.str (encV v))) := by
  refine fn0 Tryz.func112 rfl rfl rfl ?_
  conv => whnf
  refine eqs0 VD (p := v) (q := (0, 0, [])) 100 rfl (by kernel_rfl) rfl (by kernel_rfl) rfl rfl rfl ?_
  rw [blank_eq]
  conv => whnf
  refine ⟨fun h1 => ?_, fun h1 => ?_⟩
  · conv => whnf
    simp [encV, h1, kb]
  conv => whnf
  refine call1 (val_Good v hv.1) rfl ?_
  conv => whnf
  refine ⟨fun h2 => ?_, fun h2 => ?_⟩
  · conv => whnf
    simp at h2
    simp [encV, h1, h2]
  simp at h2
  have hl := good_len h2
  have hE : encV v = if v.1 = 1 then kb v.1 ++ byl [IntKind.wrap .u8 v.2.1] else if v.1 = 2 then kb v.1 ++ Num.putZ v.2.1 else kb v.1 ++ Num.putT v.2.2 := by
    unfold encV; rw [if_neg (by simp [h1]), if_pos h2]
  rw [hE]
  conv => whnf
  refine ⟨fun h3 => ?_, fun h3 => ?_⟩
  · simp at h3
    rw [if_pos h3]
    conv => whnf
    refine ⟨by show 1 + 1 ≤ _; omega, ?_⟩
    conv => whnf
    rfl
  simp at h3
  rw [if_neg h3]
  conv => whnf
  refine ⟨fun h4 => ?_, fun h4 => ?_⟩
  · simp at h4
    rw [if_pos h4]
    have hz := wf_i64 hv.2.1
    have hzl := putZ_len v.2.1 hz.1 hz.2
    conv => whnf
    refine call1 (num_PutInt v.2.1 hz.1 hz.2) rfl ?_
    conv => whnf
    refine ⟨by show 1 + _ ≤ _; omega, ?_⟩
    conv => whnf
    rfl
  · simp at h4
    rw [if_neg h4]
    conv => whnf
    refine call1 (num_PutText v.2.2 (Nat.le_trans hl (by decide))) rfl ?_
    conv => whnf
    refine ⟨by
      show 1 + (Num.putT v.2.2).length ≤ _
      have := Num.putN_ten (n := v.2.2.length) (Nat.lt_of_le_of_lt hl (by decide))
      unfold Num.putT
      rw [List.length_append]
      omega, ?_⟩
    conv => whnf
    rfl

theorem refval_Encode (v : VD.T) (hv : Wf VD v) : FnD Tryz.prog 96 [.agg (vc v)] (· = .c (.str (encV v))) := by
  refine fn0 Tryz.func96 rfl rfl rfl ?_
  conv => whnf
  refine call1 (ref_Good v) rfl ?_
  conv => whnf
  refine callg0 (fun _ => ref_Blank v) rfl ?_
  conv => whnf
  refine ⟨fun h0 => ?_, fun h0 => ?_⟩
  · conv => whnf
    simp at h0
    simp [encV, h0]
  conv => whnf
  have hk0 : blankV v = true → v.1 = 0 := fun h => by simp [blankV] at h; exact h.1.1
  have hE : encV v = if v.1 = 1 then kb v.1 ++ byl [IntKind.wrap .u8 v.2.1] else if v.1 = 2 then kb v.1 ++ Num.putZ v.2.1 else if v.1 = 3 then kb v.1 ++ Num.putT v.2.2 else kb v.1 := by
    unfold encV
    by_cases hb : blankV v = true
    · have := hk0 hb
      rw [if_pos hb, this]
      simp
    · have hg : goodV v = true := by simp [hb] at h0; exact h0
      rw [if_neg hb, if_pos hg]
      by_cases h1 : v.1 = 1
      · rw [if_pos h1, if_pos h1]
      · rw [if_neg h1, if_neg h1]
        by_cases h2 : v.1 = 2
        · rw [if_pos h2, if_pos h2]
        · rw [if_neg h2, if_neg h2]
          have h3 : v.1 = 3 := by
            apply Classical.byContradiction
            intro h3
            simp [goodV, h1, h2, h3] at hg
          rw [if_pos h3]
  have hl : v.1 = 3 → v.2.2.length ≤ 1024 := fun h => by
    by_cases hb : blankV v = true
    · rw [hk0 hb] at h; cases h
    · have hg : goodV v = true := by simp [hb] at h0; exact h0
      exact good_len hg
  rw [hE]
  refine ⟨fun h3 => ?_, fun h3 => ?_⟩
  · simp at h3
    rw [if_pos h3]
    conv => whnf
    refine ⟨by show 1 + 1 ≤ _; omega, ?_⟩
    conv => whnf
    rfl
  simp at h3
  rw [if_neg h3]
  conv => whnf
  refine ⟨fun h4 => ?_, fun h4 => ?_⟩
  · simp at h4
    rw [if_pos h4]
    have hz := wf_i64 hv.2.1
    have hzl := putZ_len v.2.1 hz.1 hz.2
    conv => whnf
    refine call1 (ref_PutInt v.2.1 hz.1 hz.2) rfl ?_
    conv => whnf
    refine ⟨by show 1 + _ ≤ _; omega, ?_⟩
    conv => whnf
    rfl
  simp at h4
  rw [if_neg h4]
  conv => whnf
  refine ⟨fun h5 => ?_, fun h5 => ?_⟩
  · simp at h5
    rw [if_pos h5]
    conv => whnf
    refine call1 (ref_PutText v.2.2 (Nat.le_trans (hl h5) (by decide))) rfl ?_
    conv => whnf
    refine ⟨by
      show 1 + (Num.putT v.2.2).length ≤ _
      have := Num.putN_ten (n := v.2.2.length) (Nat.lt_of_le_of_lt (hl h5) (by decide))
      unfold Num.putT
      rw [List.length_append]
      have := hl h5
      omega, ?_⟩
    conv => whnf
    rfl
  · simp at h5
    rw [if_neg h5]
    conv => whnf
    rfl
end Go.Proofs.YtmdjonckcapkeaaGreatDoor
/- The walks of val.Decode and of the reference's. Own work. -/
set_option linter.unusedVariables false
set_option maxRecDepth 100000
namespace Go.Proofs.YtmdjonckcapkeaaGreatDoor
open Go Go.RowKit OE

/-- the value that stands somewhere, and its size -/
def decB (s : List UInt8) (k : Int) : Option (VD.T × Nat) :=
  if bt s k = 0 then some ((0, 0, []), 1)
  else if bt s k = 1 then (if k + 1 < s.length ∧ bt s (k + 1) ≤ 1 then some ((1, bt s (k + 1), []), 2) else none)
  else if bt s k = 2 then (match Num.getN s (k + 1) with | none => none | some p => some ((2, Num.zag p.1, []), p.2 + 1))
  else if bt s k = 3 then (match Num.getT s (k + 1) 1024 with | none => none | some p => some ((3, 0, p.1), p.2 + 1))
  else none
def decV (s : List UInt8) (k : Int) : Option (VD.T × Nat) := if k < 0 ∨ (s.length : Int) ≤ k then none else decB s k
theorem getT_bd {s : List UInt8} {k m : Int} {t : List UInt8} {i : Nat} (h : Num.getT s k m = some (t, i)) : 0 ≤ k ∧ k + i ≤ s.length := by
  unfold Num.getT at h
  cases hg : Num.getN s k with
  | none => rw [hg] at h; cases h
  | some p =>
    have hb := Num.getN_bd (m := p.1) (k := p.2) hg
    rw [hg] at h
    dsimp only at h
    split at h
    · cases h
    · simp only [Option.some.injEq, Prod.mk.injEq] at h
      omega
def V0 : VD.T := VD.df
def decVR (o : Option (VD.T × Nat)) : SV := .tup [(true, vc (o.getD (V0, 0)).1), (false, [.int .i64 ((o.getD (V0, 0)).2 : Nat)]), (false, [.bool (.sym o.isSome)])]

theorem val_Decode (s : List UInt8) (k : Int) (hs : s.length ≤ 100000000) : FnD Tryz.prog 99 [.c (.str s), .c (.int .i64 k)] (· = decVR (decV s k)) := by
  refine fn0 Tryz.func99 rfl rfl rfl ?_
  conv => whnf
  refine ⟨fun h1 => ?_, fun h1 => ?_⟩
  · conv => whnf
    simp at h1
    have : decV s k = none := by unfold decV; rw [if_pos h1]
    rw [this]
    rfl
  simp at h1
  have hD : decV s k = decB s k := by unfold decV; rw [if_neg (by omega)]
  rw [hD]
  unfold decB
  have hb := bt_rng s k
  have e1 : IntKind.wrap .i64 (bt s k) = bt s k := wr64 _ (by omega) (by omega)
  have e2 : IntKind.wrap .i64 (k + 1) = k + 1 := wr64 _ (by omega) (by omega)
  conv => whnf
  refine ⟨by omega, ?_⟩
  conv => whnf
  rw [e1]
  refine ⟨fun h2 => ?_, fun h2 => ?_⟩
  · simp at h2
    rw [if_pos h2, h2]
    conv => whnf
    rfl
  simp at h2
  rw [if_neg h2]
  conv => whnf
  refine ⟨fun h3 => ?_, fun h3 => ?_⟩
  · simp at h3
    rw [if_pos h3, h3]
    conv => whnf
    rw [e2]
    refine ⟨fun h4 => ?_, fun h4 => ?_⟩
    · simp at h4
      conv => whnf
      have hb1 := bt_rng s (k + 1)
      have e3 : IntKind.wrap .i64 (bt s (k + 1)) = bt s (k + 1) := wr64 _ (by omega) (by omega)
      refine any0 ?_
      conv => whnf
      rw [e2]
      refine ⟨by omega, ?_⟩
      conv => whnf
      try rw [e3]
      refine ⟨by omega, ?_⟩
      conv => whnf
      refine ⟨.inl (by kernel_rfl), after0 ?_⟩
      conv => whnf
      try rw [e2]
      refine ⟨fun h5 => ?_, fun h5 => ?_⟩
      · try rw [e2] at h5
        simp at h5
        rw [if_neg (by omega)]
        conv => whnf
        rfl
      · try rw [e2] at h5
        simp at h5
        rw [if_pos ⟨h4, h5⟩]
        conv => whnf
        rfl
    · simp at h4
      rw [if_neg (by omega)]
      conv => whnf
      rfl
  simp at h3
  rw [if_neg h3]
  conv => whnf
  refine ⟨fun h4 => ?_, fun h4 => ?_⟩
  · simp at h4
    rw [if_pos h4, h4]
    conv => whnf
    rw [e2]
    refine call1 (num_GetInt s (k + 1) (by omega)) rfl ?_
    conv => whnf
    cases hg : Num.getN s (k + 1) with
    | none =>
      refine tk rfl ?_
      conv => whnf
      rfl
    | some p =>
      have hbd := Num.getN_bd (m := p.1) (k := p.2) hg
      refine fk rfl ?_
      conv => whnf
      have e4 : IntKind.wrap .i64 ((p.2 : Nat) + 1 : Int) = ((p.2 + 1 : Nat) : Int) := by rw [wr64 _ (by omega) (by omega)]; omega
      show SV.tup [(true, [.int .i64 2, .int .i64 (Num.zag p.1), .str []]), (false, [.int .i64 (IntKind.wrap .i64 ((p.2 : Nat) + 1 : Int))]), (false, [.bool (.sym true)])] = _
      rw [e4]
      rfl
  simp at h4
  rw [if_neg h4]
  conv => whnf
  refine ⟨fun h5 => ?_, fun h5 => ?_⟩
  · simp at h5
    rw [if_pos h5, h5]
    conv => whnf
    rw [e2]
    refine call1 (num_GetText s (k + 1) 1024 (by omega) (by decide)) rfl ?_
    conv => whnf
    cases hg : Num.getT s (k + 1) 1024 with
    | none =>
      refine tk rfl ?_
      conv => whnf
      rfl
    | some p =>
      have hbd := getT_bd (t := p.1) (i := p.2) hg
      refine fk rfl ?_
      conv => whnf
      have e4 : IntKind.wrap .i64 ((p.2 : Nat) + 1 : Int) = ((p.2 + 1 : Nat) : Int) := by rw [wr64 _ (by omega) (by omega)]; omega
      show SV.tup [(true, [.int .i64 3, .int .i64 0, .str p.1]), (false, [.int .i64 (IntKind.wrap .i64 ((p.2 : Nat) + 1 : Int))]), (false, [.bool (.sym true)])] = _
      rw [e4]
      rfl
  · simp at h5
    rw [if_neg h5]
    conv => whnf
    rfl

def decVA (o : Option (VD.T × Nat)) : SV := .agg (vc (o.getD (V0, 0)).1 ++ [.int .i64 ((o.getD (V0, 0)).2 : Nat), .bool (.sym o.isSome)])

theorem refval_Decode (s : List UInt8) (k : Int) (hs : s.length ≤ 100000000) : FnD Tryz.prog 57 [.c (.str s), .c (.int .i64 k)] (· = decVA (decV s k)) := by
  refine fn0 Tryz.func57 rfl rfl rfl ?_
  conv => whnf
  refine ⟨fun h1 => ?_, fun h1 => ?_⟩
  · conv => whnf
    simp at h1
    have : decV s k = none := by unfold decV; rw [if_pos h1]
    rw [this]
    rfl
  simp at h1
  have hD : decV s k = decB s k := by unfold decV; rw [if_neg (by omega)]
  rw [hD]
  unfold decB
  have hb := bt_rng s k
  have e2 : IntKind.wrap .i64 (k + 1) = k + 1 := wr64 _ (by omega) (by omega)
  conv => whnf
  refine ⟨by omega, ?_⟩
  conv => whnf
  refine ⟨fun h2 => ?_, fun h2 => ?_⟩
  · simp at h2
    rw [if_pos h2]
    conv => whnf
    rfl
  simp at h2
  rw [if_neg h2]
  conv => whnf
  refine ⟨fun h3 => ?_, fun h3 => ?_⟩
  · simp at h3
    rw [if_pos h3]
    conv => whnf
    rw [e2]
    refine ⟨fun h => by simp at h; omega, ?_⟩
    conv => whnf
    refine ⟨fun h4 => ?_, fun h4 => ?_⟩
    · simp at h4
      rw [if_pos h4]
      conv => whnf
      rw [e2]
      refine ⟨by omega, ?_⟩
      conv => whnf
      have hb1 := bt_rng s (k + 1)
      have e3 : IntKind.wrap .i64 (bt s (k + 1)) = bt s (k + 1) := wr64 _ (by omega) (by omega)
      rw [e3]
      rfl
    · simp at h4
      rw [if_neg (by intro h; have := h4 h.1; omega)]
      conv => whnf
      rfl
  simp at h3
  rw [if_neg h3]
  conv => whnf
  refine ⟨fun h4 => ?_, fun h4 => ?_⟩
  · simp at h4
    rw [if_pos h4]
    conv => whnf
    rw [e2]
    refine call1 (refnum_GetInt s (k + 1) (by omega)) rfl ?_
    conv => whnf
    cases hg : Num.getN s (k + 1) with
    | none =>
      refine fk rfl ?_
      conv => whnf
      rfl
    | some p =>
      have hbd := Num.getN_bd (m := p.1) (k := p.2) hg
      refine tk rfl ?_
      conv => whnf
      have e4 : IntKind.wrap .i64 (1 + (p.2 : Nat) : Int) = ((p.2 + 1 : Nat) : Int) := by rw [wr64 _ (by omega) (by omega)]; omega
      show SV.agg [.int .i64 2, .int .i64 (Num.zag p.1), .str [], .int .i64 (IntKind.wrap .i64 (1 + (p.2 : Nat) : Int)), .bool (.sym true)] = _
      rw [e4]
      rfl
  simp at h4
  rw [if_neg h4]
  conv => whnf
  refine ⟨fun h5 => ?_, fun h5 => ?_⟩
  · simp at h5
    rw [if_pos h5]
    conv => whnf
    rw [e2]
    refine call1 (refnum_GetText s (k + 1) 1024 (by omega) (by decide)) rfl ?_
    conv => whnf
    cases hg : Num.getT s (k + 1) 1024 with
    | none =>
      refine fk rfl ?_
      conv => whnf
      rfl
    | some p =>
      have hbd := getT_bd (t := p.1) (i := p.2) hg
      refine tk rfl ?_
      conv => whnf
      have e4 : IntKind.wrap .i64 (1 + (p.2 : Nat) : Int) = ((p.2 + 1 : Nat) : Int) := by rw [wr64 _ (by omega) (by omega)]; omega
      show SV.agg [.int .i64 3, .int .i64 0, .str p.1, .int .i64 (IntKind.wrap .i64 (1 + (p.2 : Nat) : Int)), .bool (.sym true)] = _
      rw [e4]
      rfl
  · simp at h5
    rw [if_neg h5]
    conv => whnf
    rfl
end Go.Proofs.YtmdjonckcapkeaaGreatDoor
/- The walks of wire.text, number, value; data of commands. Own work. -/
set_option linter.unusedVariables false
set_option maxRecDepth 100000
namespace Go.Proofs.YtmdjonckcapkeaaGreatDoor
open Go Go.RowKit OE

/-- a change: kind, Id, type, from, to, name, value, cascade -/
abbrev OD : D := .pair (.int .i64) (.pair (.int .i64) (.pair .str (.pair (.int .i64) (.pair (.int .i64) (.pair .str (.pair VD .bool))))))
abbrev oc (o : OD.T) : List C := [.int .i64 o.1, .int .i64 o.2.1, .str o.2.2.1, .int .i64 o.2.2.2.1, .int .i64 o.2.2.2.2.1, .str o.2.2.2.2.2.1, .int .i64 o.2.2.2.2.2.2.1.1, .int .i64 o.2.2.2.2.2.2.1.2.1, .str o.2.2.2.2.2.2.1.2.2, .bool (.sym o.2.2.2.2.2.2.2)]
/-- a command: kind, Id, type, name, value, to, N, change, rule -/
abbrev MD : D := .pair (.int .i64) (.pair (.int .i64) (.pair .str (.pair .str (.pair VD (.pair VD (.pair (.int .i64) (.pair OD RD)))))))
abbrev mc (m : MD.T) : List C := [.int .i64 m.1, .int .i64 m.2.1, .str m.2.2.1, .str m.2.2.2.1, .int .i64 m.2.2.2.2.1.1, .int .i64 m.2.2.2.2.1.2.1, .str m.2.2.2.2.1.2.2, .int .i64 m.2.2.2.2.2.1.1, .int .i64 m.2.2.2.2.2.1.2.1, .str m.2.2.2.2.2.1.2.2, .int .i64 m.2.2.2.2.2.2.1,
  .int .i64 m.2.2.2.2.2.2.2.1.1, .int .i64 m.2.2.2.2.2.2.2.1.2.1, .str m.2.2.2.2.2.2.2.1.2.2.1, .int .i64 m.2.2.2.2.2.2.2.1.2.2.2.1, .int .i64 m.2.2.2.2.2.2.2.1.2.2.2.2.1, .str m.2.2.2.2.2.2.2.1.2.2.2.2.2.1, .int .i64 m.2.2.2.2.2.2.2.1.2.2.2.2.2.2.1.1, .int .i64 m.2.2.2.2.2.2.2.1.2.2.2.2.2.2.1.2.1, .str m.2.2.2.2.2.2.2.1.2.2.2.2.2.2.1.2.2, .bool (.sym m.2.2.2.2.2.2.2.1.2.2.2.2.2.2.2),
  .int .i64 m.2.2.2.2.2.2.2.2.1, .int .i64 m.2.2.2.2.2.2.2.2.2.1, .str m.2.2.2.2.2.2.2.2.2.2.1, .str m.2.2.2.2.2.2.2.2.2.2.2.1, .str m.2.2.2.2.2.2.2.2.2.2.2.2.1, .str m.2.2.2.2.2.2.2.2.2.2.2.2.2.1, .int .i64 m.2.2.2.2.2.2.2.2.2.2.2.2.2.2.1, .int .i64 m.2.2.2.2.2.2.2.2.2.2.2.2.2.2.2]
def mType (m : MD.T) : List UInt8 := m.2.2.1
def mName (m : MD.T) : List UInt8 := m.2.2.2.1
def mV (m : MD.T) : VD.T := m.2.2.2.2.1
def mTo (m : MD.T) : VD.T := m.2.2.2.2.2.1
def mN (m : MD.T) : Int := m.2.2.2.2.2.2.1
def mOp (m : MD.T) : OD.T := m.2.2.2.2.2.2.2.1
def mRule (m : MD.T) : RD.T := m.2.2.2.2.2.2.2.2
def oV (o : OD.T) : VD.T := o.2.2.2.2.2.2.1

/-- the bytes of a field, and whether it has a form -/
def txS (s : List UInt8) (e : Bool) : List UInt8 × Bool := (Num.putT s, nameS s || (e && decide (s = [])))
def u64 (n : Int) : Nat := (IntKind.wrap .u64 n).toNat
def nuS (n least most : Int) : List UInt8 × Bool := (Num.putN (u64 n), decide (least ≤ n) && decide (n ≤ most))
def vaS (v : VD.T) (e : Bool) : List UInt8 × Bool := (encV v, !decide (encV v = []) && (e || !decide (v.1 = 0)))
theorem wrap_u64 (n : Int) : IntKind.wrap .u64 n = (u64 n : Int) ∧ u64 n < 18446744073709551616 := by
  have h : IntKind.wrap .u64 n = n % 18446744073709551616 := by simp [IntKind.wrap, IntKind.bits, IntKind.signed]
  unfold u64
  rw [h]
  omega
theorem u64_of {n : Int} (h0 : 0 ≤ n) (h1 : n < 18446744073709551616) : u64 n = n.toNat := by
  have h : IntKind.wrap .u64 n = n % 18446744073709551616 := by simp [IntKind.wrap, IntKind.bits, IntKind.signed]
  unfold u64
  rw [h]
  omega
abbrev paR (p : List UInt8 × Bool) : SV := .tup [(false, [.str p.1]), (false, [.bool (.sym p.2)])]
theorem wire_text0 (s : List UInt8) (hs : s.length ≤ 140737488355327) (b : Bool) : FnD Tryz.prog 102 [.c (.str s), .c (.bool (.sym b))] (· = paR (txS s b)) := by
  refine fn0 Tryz.func102 rfl rfl rfl ?_
  conv => whnf
  refine call1 (num_PutText s hs) rfl ?_
  conv => whnf
  refine call1 (val_Name s) rfl ?_
  conv => whnf
  rfl
theorem wire_text (s : List UInt8) (hs : s.length ≤ 140737488355327) (b : BE) : FnD Tryz.prog 102 [.c (.str s), .c (.bool b)] (· = paR (txS s b.v)) := by
  cases b with
  | tt => exact (wire_text0 s hs true).args fun w ok => ⟨fun _ h => h, fun _ h => h, trivial⟩
  | ff => exact (wire_text0 s hs false).args fun w ok => ⟨fun _ h => h, fun _ h => h, trivial⟩
  | sym b => exact wire_text0 s hs b
theorem wire_number (n least most : Int) : FnD Tryz.prog 103 [.c (.int .i64 n), .c (.int .i64 least), .c (.int .i64 most)] (· = paR (nuS n least most)) := by
  obtain ⟨e, hl⟩ := wrap_u64 n
  refine fn0 Tryz.func103 rfl rfl rfl ?_
  conv => whnf
  rw [e]
  refine call1 (num_Put (u64 n) hl) rfl ?_
  conv => whnf
  rfl
theorem wire_value0 (v : VD.T) (hv : Wf VD v) (b : Bool) : FnD Tryz.prog 104 [.agg (vc v), .c (.bool (.sym b))] (· = paR (vaS v b)) := by
  refine fn0 Tryz.func104 rfl rfl rfl ?_
  conv => whnf
  refine call1 (val_Encode v hv) rfl ?_
  conv => whnf
  refine any0 ?_
  conv => whnf
  refine ⟨.inl (by kernel_rfl), after0 ?_⟩
  conv => whnf
  rfl
theorem wire_value (v : VD.T) (hv : Wf VD v) (b : BE) : FnD Tryz.prog 104 [.agg (vc v), .c (.bool b)] (· = paR (vaS v b.v)) := by
  cases b with
  | tt => exact (wire_value0 v hv true).args fun w ok => ⟨fun _ h => h, fun _ h => h, trivial⟩
  | ff => exact (wire_value0 v hv false).args fun w ok => ⟨fun _ h => h, fun _ h => h, trivial⟩
  | sym b => exact wire_value0 v hv b
end Go.Proofs.YtmdjonckcapkeaaGreatDoor
/- The walks of place.put, all, change, bytes. Own work. -/
set_option linter.unusedVariables false
set_option maxRecDepth 100000
namespace Go.Proofs.YtmdjonckcapkeaaGreatDoor
open Go Go.RowKit OE

/-- where a change's fields stand: in an object of its own -/
abbrev plO (b o : Nat) : List C := [.ptr b (o + 2), .ptr b (o + 5), .ptr b (o + 1), .ptr b (o + 3), .ptr b (o + 4), .ptr b (o + 6), .val (.pointer none), .val (.pointer none), .ptr b (o + 9), .val (.pointer none), .val (.pointer none)]
abbrev obO (o : OD.T) : List (Nat × Ob) := [(0, .cells 51 (oc o))]
abbrev kp0 : List (Nat × Bool) := [(0, false)]
/-- a byte of a change's fields -/
def putO (o : OD.T) (f : Int) : List UInt8 × Bool :=
  if f = 116 ∨ f = 101 then txS o.2.2.1 (decide (f = 101))
  else if f = 110 then txS o.2.2.2.2.2.1 false
  else if f = 105 then nuS o.2.1 0 4611686018427387903
  else if f = 97 then nuS o.2.2.2.1 0 4611686018427387903
  else if f = 98 then nuS o.2.2.2.2.1 0 4611686018427387903
  else if f = 118 ∨ f = 119 then vaS (oV o) (decide (f = 119))
  else if o.2.2.2.2.2.2.2 = true then ([1], true) else ([0], true)
/-- the fields that a change may have -/
def fO (f : Int) : Prop := f = 116 ∨ f = 101 ∨ f = 110 ∨ f = 105 ∨ f = 97 ∨ f = 98 ∨ f = 118 ∨ f = 119 ∨ f = 99
theorem wire_ofOp (o : OD.T) : FnP Tryz.prog 122 [.c (.ptr 0 0)] (obO o) 1 kp0 (.agg (plO 0 0)) (obO o) 1 := by
  refine fnP noI Tryz.func122 rfl rfl rfl rfl ?_
  conv => whnf
  refine any0 ?_
  conv => whnf
  refine ⟨.inl (by kernel_rfl), after0 ?_⟩
  conv => whnf
  refine ⟨rfl, ?_, ?_, ?_⟩ <;> (repeat' apply And.intro) <;> first | exact trivial | rfl | assumption
theorem wire_putO (o : OD.T) (f : Int) (hf : fO f) (h1 : o.2.2.1.length ≤ 140737488355327) (h2 : o.2.2.2.2.2.1.length ≤ 140737488355327) (h3 : Wf VD (oV o)) : FnP Tryz.prog 79 [.agg (plO 0 0), .c (.int .u8 f)] (obO o) 1 kp0 (paR (putO o f)) (obO o) 1 := by
  refine fnP noI Tryz.func79 rfl rfl rfl rfl ?_
  conv => whnf
  refine ⟨fun a => ?_, fun a => ?_⟩
  · have a : f = 116 := of_decide_eq_true a
    conv => whnf
    have hA : putO o f = txS o.2.2.1 (decide (f = 101)) := by unfold putO; exact if_pos (.inl a)
    rw [hA]
    conv => whnf
    refine call1 (wire_text o.2.2.1 h1 _) rfl ?_
    conv => whnf
    refine ⟨rfl, ?_, ?_, ?_⟩ <;> (repeat' apply And.intro) <;> first | exact trivial | rfl | assumption
  have a1 : ¬ f = 116 := of_decide_eq_false a
  clear a
  conv => whnf
  refine ⟨fun a => ?_, fun a => ?_⟩
  · have a : f = 101 := of_decide_eq_true a
    conv => whnf
    have hA : putO o f = txS o.2.2.1 (decide (f = 101)) := by unfold putO; exact if_pos (.inr a)
    rw [hA]
    conv => whnf
    refine call1 (wire_text o.2.2.1 h1 _) rfl ?_
    conv => whnf
    refine ⟨rfl, ?_, ?_, ?_⟩ <;> (repeat' apply And.intro) <;> first | exact trivial | rfl | assumption
  have a2 : ¬ f = 101 := of_decide_eq_false a
  have q1 : ¬ (f = 116 ∨ f = 101) := fun h => h.elim a1 a2
  clear a
  conv => whnf
  refine ⟨fun a => ?_, fun a => ?_⟩
  · have a : f = 110 := of_decide_eq_true a
    conv => whnf
    have hA : putO o f = txS o.2.2.2.2.2.1 false := by unfold putO; rw [if_neg q1, if_pos a]
    rw [hA]
    conv => whnf
    refine call1 (wire_text o.2.2.2.2.2.1 h2 _) rfl ?_
    conv => whnf
    refine ⟨rfl, ?_, ?_, ?_⟩ <;> (repeat' apply And.intro) <;> first | exact trivial | rfl | assumption
  have a3 : ¬ f = 110 := of_decide_eq_false a
  clear a
  conv => whnf
  refine ⟨fun a => ?_, fun a => ?_⟩
  · have a : f = 105 := of_decide_eq_true a
    conv => whnf
    have hA : putO o f = nuS o.2.1 0 4611686018427387903 := by unfold putO; rw [if_neg q1, if_neg a3, if_pos a]
    rw [hA]
    conv => whnf
    refine call1 (wire_number _ _ _) rfl ?_
    conv => whnf
    refine ⟨rfl, ?_, ?_, ?_⟩ <;> (repeat' apply And.intro) <;> first | exact trivial | rfl | assumption
  have a4 : ¬ f = 105 := of_decide_eq_false a
  clear a
  conv => whnf
  refine ⟨fun a => ?_, fun a => ?_⟩
  · have a : f = 97 := of_decide_eq_true a
    conv => whnf
    have hA : putO o f = nuS o.2.2.2.1 0 4611686018427387903 := by unfold putO; rw [if_neg q1, if_neg a3, if_neg a4, if_pos a]
    rw [hA]
    conv => whnf
    refine call1 (wire_number _ _ _) rfl ?_
    conv => whnf
    refine ⟨rfl, ?_, ?_, ?_⟩ <;> (repeat' apply And.intro) <;> first | exact trivial | rfl | assumption
  have a5 : ¬ f = 97 := of_decide_eq_false a
  clear a
  conv => whnf
  refine ⟨fun a => ?_, fun a => ?_⟩
  · have a : f = 98 := of_decide_eq_true a
    conv => whnf
    have hA : putO o f = nuS o.2.2.2.2.1 0 4611686018427387903 := by unfold putO; rw [if_neg q1, if_neg a3, if_neg a4, if_neg a5, if_pos a]
    rw [hA]
    conv => whnf
    refine call1 (wire_number _ _ _) rfl ?_
    conv => whnf
    refine ⟨rfl, ?_, ?_, ?_⟩ <;> (repeat' apply And.intro) <;> first | exact trivial | rfl | assumption
  have a6 : ¬ f = 98 := of_decide_eq_false a
  clear a
  conv => whnf
  refine ⟨fun a => ?_, fun a => ?_⟩
  · have a : f = 118 := of_decide_eq_true a
    conv => whnf
    have hA : putO o f = vaS (oV o) (decide (f = 119)) := by unfold putO; rw [if_neg q1, if_neg a3, if_neg a4, if_neg a5, if_neg a6, if_pos (.inl a)]
    rw [hA]
    conv => whnf
    refine call1 (wire_value (oV o) h3 _) rfl ?_
    conv => whnf
    refine ⟨rfl, ?_, ?_, ?_⟩ <;> (repeat' apply And.intro) <;> first | exact trivial | rfl | assumption
  have a7 : ¬ f = 118 := of_decide_eq_false a
  clear a
  conv => whnf
  refine ⟨fun a => ?_, fun a => ?_⟩
  · have a : f = 119 := of_decide_eq_true a
    conv => whnf
    have hA : putO o f = vaS (oV o) (decide (f = 119)) := by unfold putO; rw [if_neg q1, if_neg a3, if_neg a4, if_neg a5, if_neg a6, if_pos (.inr a)]
    rw [hA]
    conv => whnf
    refine call1 (wire_value (oV o) h3 _) rfl ?_
    conv => whnf
    refine ⟨rfl, ?_, ?_, ?_⟩ <;> (repeat' apply And.intro) <;> first | exact trivial | rfl | assumption
  have a8 : ¬ f = 119 := of_decide_eq_false a
  have q2 : ¬ (f = 118 ∨ f = 119) := fun h => h.elim a7 a8
  clear a
  have a : f = 99 := by rcases hf with h | h | h | h | h | h | h | h | h <;> first | exact h | exact absurd h (by assumption)
  conv => whnf
  refine fk (by simp [a]) ?_
  conv => whnf
  refine fk (by simp [a]) ?_
  conv => whnf
  refine fk (by simp [a]) ?_
  conv => whnf
  refine tk (by simp [a]) ?_
  conv => whnf
  refine ⟨fun b => ?_, fun b => ?_⟩
  · have hA : putO o f = ([1], true) := by unfold putO; rw [if_neg q1, if_neg a3, if_neg a4, if_neg a5, if_neg a6, if_neg q2, if_pos b]
    rw [hA]
    conv => whnf
    refine ⟨rfl, ?_, ?_, ?_⟩ <;> (repeat' apply And.intro) <;> first | exact trivial | rfl | assumption
  · have hA : putO o f = ([0], true) := by unfold putO; rw [if_neg q1, if_neg a3, if_neg a4, if_neg a5, if_neg a6, if_neg q2, if_neg (by rw [b]; decide)]
    rw [hA]
    conv => whnf
    refine ⟨rfl, ?_, ?_, ?_⟩ <;> (repeat' apply And.intro) <;> first | exact trivial | rfl | assumption
end Go.Proofs.YtmdjonckcapkeaaGreatDoor
/- The walks of all, change, of changes. Own work. -/
set_option linter.unusedVariables false
set_option maxRecDepth 100000
namespace Go.Proofs.YtmdjonckcapkeaaGreatDoor
open Go Go.RowKit OE

/-- a kind's byte and its fields -/
def allS (P : Int → List UInt8 × Bool) (k : Int) (l : List UInt8) : List UInt8 × Bool :=
  if (l.all fun f => (P f.toNat).2) = true then (byl [k] ++ l.flatMap (fun f => (P f.toNat).1), true) else ([], false)
theorem flat_len {P : Int → List UInt8 × Bool} {B : Nat} (h : ∀ f, (P f).1.length ≤ B) : ∀ l : List UInt8, (l.flatMap fun f => (P f.toNat).1).length ≤ l.length * B
  | [] => by simp
  | f :: l => by
    have ih := flat_len h l
    have h1 := h f.toNat
    simp only [List.flatMap_cons, List.length_append, List.length_cons, Nat.add_mul, Nat.one_mul]
    omega
theorem wire_allO (o : OD.T) (k : Int) (l : List UInt8) (hl : l.length ≤ 100) (hf : ∀ f ∈ l, fO f.toNat) (hb : ∀ f, (putO o f).1.length ≤ 1000000) (h1 : o.2.2.1.length ≤ 140737488355327) (h2 : o.2.2.2.2.2.1.length ≤ 140737488355327) (h3 : Wf VD (oV o)) :
    FnP Tryz.prog 54 [.c (.int .u8 k), .c (.str l), .agg (plO 0 0)] (obO o) 1 kp0 (paR (allS (putO o) k l)) (obO o) 1 := by
  refine fnP noI Tryz.func54 rfl rfl rfl rfl ?_
  conv => whnf
  refine loop0 (α := Nat) (fun j => j ≤ l.length ∧ ((l.take j).all fun f => (putO o f.toNat).2) = true)
    (fun j => ⟨[(1, .c (.str l)), (5, .c (.ptr 1 0)), (8, .c (.str (byl [k] ++ (l.take j).flatMap fun f => (putO o f.toNat).1))), (16, .c (.int .i64 l.length)), (17, .c (.int .i64 j))], (1, .cells 121 (plO 0 0)) :: obO o, 2⟩) (fun j => l.length - j) ⟨0, ⟨by omega, rfl⟩, ?_⟩ ?_
  · (conv => whnf); refine ⟨rfl, ?_, ?_, ?_⟩ <;> (repeat' apply And.intro) <;> first | exact trivial | rfl | exact wr_succ _ (by omega) | assumption | exact decide_eq_false (by assumption) | exact decide_eq_true (by assumption)
  rintro j ⟨hJ1, hJ2⟩
  conv => whnf
  refine ⟨fun h4 => ?_, fun h4 => ?_⟩
  · have h4 : j < l.length := by simp at h4; omega
    conv => whnf
    refine any0 ?_
    conv => whnf
    refine ⟨by omega, ?_⟩
    conv => whnf
    rw [bt_nat l j h4]
    refine callrp0 [0] rfl rfl rfl (wire_putO o l[j].toNat (hf _ (List.getElem_mem h4)) h1 h2 h3) rfl rfl rfl rfl rfl rfl [0] rfl rfl ?_
    conv => whnf
    refine ⟨.inl (by kernel_rfl), after0 ?_⟩
    conv => whnf
    refine ⟨fun h5 => ?_, fun h5 => ?_⟩
    · have h5 : (putO o l[j].toNat).2 = false := by simpa using h5
      have hA : allS (putO o) k l = ([], false) := if_neg fun h => by
        have := List.all_eq_true.1 h _ (List.getElem_mem h4)
        rw [h5] at this; cases this
      rw [hA]
      conv => whnf
      refine ⟨rfl, ?_, ?_, ?_⟩ <;> (repeat' apply And.intro) <;> first | exact trivial | rfl | assumption
    have h5 : (putO o l[j].toNat).2 = true := by simpa using h5
    have hT : l.take (j + 1) = l.take j ++ [l[j]] := take_step h4
    conv => whnf
    refine ⟨by
      have e1 := flat_len hb (l.take j)
      have e2 := hb l[j].toNat
      have e3 : (l.take j).length * 1000000 ≤ 100 * 1000000 := Nat.mul_le_mul_right _ (by rw [List.length_take]; omega)
      have e4 : (byl [k]).length = 1 := rfl
      rw [List.length_append, e4]
      omega, ?_⟩
    conv => whnf
    refine ⟨j + 1, ⟨⟨by omega, ?_⟩, by omega⟩, ?_⟩
    · rw [hT, List.all_append, hJ2]; simpa using h5
    rw [hT, List.flatMap_append, ← List.append_assoc, show List.flatMap (fun f => (putO o f.toNat).1) [l[j]] = (putO o l[j].toNat).1 from by simp]
    (conv => whnf); refine ⟨rfl, ?_, ?_, ?_⟩ <;> (repeat' apply And.intro) <;> first | exact trivial | rfl | exact wr_succ _ (by omega) | assumption | exact decide_eq_false (by assumption) | exact decide_eq_true (by assumption)
  · have h4 : l.length ≤ j := by simp at h4; omega
    rw [List.take_of_length_le h4] at hJ2 ⊢
    have hA : allS (putO o) k l = (byl [k] ++ l.flatMap (fun f => (putO o f.toNat).1), true) := if_pos hJ2
    rw [hA]
    conv => whnf
    refine ⟨rfl, ?_, ?_, ?_⟩ <;> (repeat' apply And.intro) <;> first | exact trivial | rfl | assumption
end Go.Proofs.YtmdjonckcapkeaaGreatDoor
/- The walk of wire.change. Own work. -/
set_option linter.unusedVariables false
set_option maxRecDepth 100000
namespace Go.Proofs.YtmdjonckcapkeaaGreatDoor
open Go Go.RowKit OE

/-- the fields of each kind of change -/
abbrev opsL : List (List UInt8) := [[], [116], [105, 99], [116, 97, 98], [105], [105, 110, 119]]
def chgS (o : OD.T) : List UInt8 × Bool :=
  if (o.1 : Int) < 0 ∨ (6 : Int) ≤ o.1 ∨ gt (d := .str) opsL o.1 = [] then ([], false)
  else allS (putO o) (IntKind.wrap .u8 o.1) (gt (d := .str) opsL o.1)
instance (f : Int) : Decidable (fO f) := by unfold fO; infer_instance
theorem ops_fin : ∀ n : Fin 6, (opsL.getD n.1 []).length ≤ 100 ∧ ∀ f ∈ opsL.getD n.1 [], fO f.toNat := by decide
theorem ops_ok (k : Int) : (gt (d := .str) opsL k).length ≤ 100 ∧ ∀ f ∈ gt (d := .str) opsL k, fO f.toNat := by
  show (opsL.getD k.toNat []).length ≤ 100 ∧ ∀ f ∈ opsL.getD k.toNat [], fO f.toNat
  rcases Nat.lt_or_ge k.toNat 6 with h | h
  · exact ops_fin ⟨k.toNat, h⟩
  · have : opsL.getD k.toNat [] = [] := by rw [List.getD_eq_getElem?_getD, List.getElem?_eq_none h]; rfl
    rw [this]
    exact ⟨by decide, fun _ h => by cases h⟩
theorem wire_change (o : OD.T) (hb : ∀ f, (putO o f).1.length ≤ 1000000) (h1 : o.2.2.1.length ≤ 140737488355327) (h2 : o.2.2.2.2.2.1.length ≤ 140737488355327) (h3 : Wf VD (oV o)) :
    FnD Tryz.prog 105 [.agg (oc o)] (· = paR (chgS o)) := by
  refine fn0 Tryz.func105 rfl rfl rfl ?_
  conv => whnf
  refine ⟨fun h => ?_, ?_⟩
  · rw [Bool.or_eq_false_iff, decide_eq_false_iff_not, decide_eq_false_iff_not] at h
    exact ⟨⟨Int.not_lt.1 h.1, Int.not_le.1 h.2⟩, Int.not_le.1 h.2⟩
  conv => whnf
  refine ⟨fun a => ?_, fun a => ?_⟩
  · have hA : chgS o = ([], false) := if_pos (by simpa [or_assoc] using a)
    rw [hA]
    conv => whnf
  have a0 : ¬ ((o.1 : Int) < 0 ∨ (6 : Int) ≤ o.1 ∨ gt (d := .str) opsL o.1 = []) := by
    rw [Bool.or_eq_false_iff, Bool.or_eq_false_iff, decide_eq_false_iff_not, decide_eq_false_iff_not, decide_eq_false_iff_not] at a
    rintro (h | h | h)
    · exact a.1.1 h
    · exact a.1.2 h
    · exact a.2 h
  rw [show chgS o = allS (putO o) (IntKind.wrap .u8 o.1) (gt (d := .str) opsL o.1) from if_neg a0]
  have a1 : 0 ≤ (o.1 : Int) := Int.not_lt.1 fun h => a0 (.inl h)
  have a2 : (o.1 : Int) < 6 := Int.not_le.1 fun h => a0 (.inr (.inl h))
  clear a a0
  conv => whnf
  refine any0 ?_
  conv => whnf
  refine ⟨⟨⟨a1, a2⟩, a2⟩, ?_⟩
  conv => whnf
  refine callrp0 [0] rfl rfl rfl (wire_ofOp o) rfl rfl rfl rfl rfl rfl [0] rfl rfl ?_
  conv => whnf
  refine callrp0 [0] rfl rfl rfl (wire_allO o (IntKind.wrap .u8 o.1) (gt (d := .str) opsL o.1) (ops_ok _).1 (ops_ok _).2 hb h1 h2 h3) rfl rfl rfl rfl rfl rfl [0] rfl rfl ?_
  conv => whnf
  refine ⟨.inl (by kernel_rfl), after0 ?_⟩
  conv => whnf
end Go.Proofs.YtmdjonckcapkeaaGreatDoor
/- The walks of place.put, all, bytes, of commands. Own work. -/
set_option linter.unusedVariables false
set_option maxRecDepth 100000
namespace Go.Proofs.YtmdjonckcapkeaaGreatDoor
open Go Go.RowKit OE

/-- where a command's fields stand -/
abbrev plM : List C := [.ptr 0 2, .ptr 0 3, .ptr 0 1, .val (.pointer none), .val (.pointer none), .ptr 0 4, .ptr 0 7, .ptr 0 10, .val (.pointer none), .ptr 0 21, .ptr 0 11]
abbrev obM (m : MD.T) : List (Nat × Ob) := [(0, .cells 55 (mc m))]
def ruS (r : RD.T) : List UInt8 × Bool := (encS r, decide (errS r = 0) && decide (r.1 = 0) && decide (r.2.2.2.2.2.2.2 = 0))
def putM (m : MD.T) (f : Int) : List UInt8 × Bool :=
  if f = 116 ∨ f = 101 then txS (mType m) (decide (f = 101))
  else if f = 110 then txS (mName m) false
  else if f = 105 then nuS m.2.1 0 4611686018427387903
  else if f = 118 ∨ f = 119 then vaS (mV m) (decide (f = 119))
  else if f = 120 then vaS (mTo m) true
  else if f = 107 then nuS (mN m) 1 2
  else if f = 109 then nuS (mN m) 0 1000000
  else if f = 114 then ruS (mRule m)
  else chgS (mOp m)
/-- the fields that a command may have -/
def fM (f : Int) : Prop := f = 116 ∨ f = 101 ∨ f = 110 ∨ f = 105 ∨ f = 118 ∨ f = 119 ∨ f = 120 ∨ f = 107 ∨ f = 109 ∨ f = 114 ∨ f = 111
theorem wire_ofCmd (m : MD.T) : FnP Tryz.prog 52 [.c (.ptr 0 0)] (obM m) 1 kp0 (.agg plM) (obM m) 1 := by
  refine fnP noI Tryz.func52 rfl rfl rfl rfl ?_
  conv => whnf
  refine any0 ?_
  conv => whnf
  refine ⟨.inl (by kernel_rfl), after0 ?_⟩
  conv => whnf
  refine ⟨rfl, ?_, ?_, ?_⟩ <;> (repeat' apply And.intro) <;> first | exact trivial | rfl | assumption
/-- what is small of a command -/
structure SmM (m : MD.T) : Prop where
  ty : (mType m).length ≤ 1000
  nm : (mName m).length ≤ 1000
  v : Wf VD (mV m)
  to : Wf VD (mTo m)
  op : ∀ f, (putO (mOp m) f).1.length ≤ 1000000
  o1 : (mOp m).2.2.1.length ≤ 140737488355327
  o2 : (mOp m).2.2.2.2.2.1.length ≤ 140737488355327
  o3 : Wf VD (oV (mOp m))
theorem wire_putM (m : MD.T) (f : Int) (hf : fM f) (hm : SmM m) : FnP Tryz.prog 79 [.agg plM, .c (.int .u8 f)] (obM m) 1 kp0 (paR (putM m f)) (obM m) 1 := by
  have h1 : (mType m).length ≤ 140737488355327 := Nat.le_trans hm.ty (by decide)
  have h2 : (mName m).length ≤ 140737488355327 := Nat.le_trans hm.nm (by decide)
  refine fnP noI Tryz.func79 rfl rfl rfl rfl ?_
  conv => whnf
  refine ⟨fun a => ?_, fun a => ?_⟩
  · have a : f = 116 := of_decide_eq_true a
    conv => whnf
    have hA : putM m f = txS (mType m) (decide (f = 101)) := by unfold putM; exact if_pos (.inl a)
    rw [hA]
    conv => whnf
    refine call1 (wire_text (mType m) h1 _) rfl ?_
    conv => whnf
    refine ⟨rfl, ?_, ?_, ?_⟩ <;> (repeat' apply And.intro) <;> first | exact trivial | rfl | assumption
  have a1 : ¬ f = 116 := of_decide_eq_false a
  clear a
  conv => whnf
  refine ⟨fun a => ?_, fun a => ?_⟩
  · have a : f = 101 := of_decide_eq_true a
    conv => whnf
    have hA : putM m f = txS (mType m) (decide (f = 101)) := by unfold putM; exact if_pos (.inr a)
    rw [hA]
    conv => whnf
    refine call1 (wire_text (mType m) h1 _) rfl ?_
    conv => whnf
    refine ⟨rfl, ?_, ?_, ?_⟩ <;> (repeat' apply And.intro) <;> first | exact trivial | rfl | assumption
  have a2 : ¬ f = 101 := of_decide_eq_false a
  have q1 : ¬ (f = 116 ∨ f = 101) := fun h => h.elim a1 a2
  clear a
  conv => whnf
  refine ⟨fun a => ?_, fun a => ?_⟩
  · have a : f = 110 := of_decide_eq_true a
    conv => whnf
    have hA : putM m f = txS (mName m) false := by unfold putM; rw [if_neg q1, if_pos a]
    rw [hA]
    conv => whnf
    refine call1 (wire_text (mName m) h2 _) rfl ?_
    conv => whnf
    refine ⟨rfl, ?_, ?_, ?_⟩ <;> (repeat' apply And.intro) <;> first | exact trivial | rfl | assumption
  have a3 : ¬ f = 110 := of_decide_eq_false a
  clear a
  conv => whnf
  refine ⟨fun a => ?_, fun a => ?_⟩
  · have a : f = 105 := of_decide_eq_true a
    conv => whnf
    have hA : putM m f = nuS m.2.1 0 4611686018427387903 := by unfold putM; rw [if_neg q1, if_neg a3, if_pos a]
    rw [hA]
    conv => whnf
    refine call1 (wire_number _ _ _) rfl ?_
    conv => whnf
    refine ⟨rfl, ?_, ?_, ?_⟩ <;> (repeat' apply And.intro) <;> first | exact trivial | rfl | assumption
  have a4 : ¬ f = 105 := of_decide_eq_false a
  have n1 : ¬ f = 97 := fun e => by rcases hf with h | h | h | h | h | h | h | h | h | h | h <;> rw [h] at e <;> exact absurd e (by decide)
  have n2 : ¬ f = 98 := fun e => by rcases hf with h | h | h | h | h | h | h | h | h | h | h <;> rw [h] at e <;> exact absurd e (by decide)
  have n3 : ¬ f = 99 := fun e => by rcases hf with h | h | h | h | h | h | h | h | h | h | h <;> rw [h] at e <;> exact absurd e (by decide)
  clear a
  conv => whnf
  refine fk (decide_eq_false n1) ?_
  conv => whnf
  refine fk (decide_eq_false n2) ?_
  conv => whnf
  refine ⟨fun a => ?_, fun a => ?_⟩
  · have a : f = 118 := of_decide_eq_true a
    conv => whnf
    have hA : putM m f = vaS (mV m) (decide (f = 119)) := by unfold putM; rw [if_neg q1, if_neg a3, if_neg a4, if_pos (.inl a)]
    rw [hA]
    conv => whnf
    refine call1 (wire_value (mV m) hm.v _) rfl ?_
    conv => whnf
    refine ⟨rfl, ?_, ?_, ?_⟩ <;> (repeat' apply And.intro) <;> first | exact trivial | rfl | assumption
  have a7 : ¬ f = 118 := of_decide_eq_false a
  clear a
  conv => whnf
  refine ⟨fun a => ?_, fun a => ?_⟩
  · have a : f = 119 := of_decide_eq_true a
    conv => whnf
    have hA : putM m f = vaS (mV m) (decide (f = 119)) := by unfold putM; rw [if_neg q1, if_neg a3, if_neg a4, if_pos (.inr a)]
    rw [hA]
    conv => whnf
    refine call1 (wire_value (mV m) hm.v _) rfl ?_
    conv => whnf
    refine ⟨rfl, ?_, ?_, ?_⟩ <;> (repeat' apply And.intro) <;> first | exact trivial | rfl | assumption
  have a8 : ¬ f = 119 := of_decide_eq_false a
  have q2 : ¬ (f = 118 ∨ f = 119) := fun h => h.elim a7 a8
  clear a
  conv => whnf
  refine ⟨fun a => ?_, fun a => ?_⟩
  · have a : f = 120 := of_decide_eq_true a
    conv => whnf
    have hA : putM m f = vaS (mTo m) true := by unfold putM; rw [if_neg q1, if_neg a3, if_neg a4, if_neg q2, if_pos a]
    rw [hA]
    conv => whnf
    refine call1 (wire_value (mTo m) hm.to _) rfl ?_
    conv => whnf
    refine ⟨rfl, ?_, ?_, ?_⟩ <;> (repeat' apply And.intro) <;> first | exact trivial | rfl | assumption
  have a9 : ¬ f = 120 := of_decide_eq_false a
  clear a
  conv => whnf
  refine ⟨fun a => ?_, fun a => ?_⟩
  · have a : f = 107 := of_decide_eq_true a
    conv => whnf
    have hA : putM m f = nuS (mN m) 1 2 := by unfold putM; rw [if_neg q1, if_neg a3, if_neg a4, if_neg q2, if_neg a9, if_pos a]
    rw [hA]
    conv => whnf
    refine call1 (wire_number _ _ _) rfl ?_
    conv => whnf
    refine ⟨rfl, ?_, ?_, ?_⟩ <;> (repeat' apply And.intro) <;> first | exact trivial | rfl | assumption
  have a10 : ¬ f = 107 := of_decide_eq_false a
  clear a
  conv => whnf
  refine ⟨fun a => ?_, fun a => ?_⟩
  · have a : f = 109 := of_decide_eq_true a
    conv => whnf
    have hA : putM m f = nuS (mN m) 0 1000000 := by unfold putM; rw [if_neg q1, if_neg a3, if_neg a4, if_neg q2, if_neg a9, if_neg a10, if_pos a]
    rw [hA]
    conv => whnf
    refine call1 (wire_number _ _ _) rfl ?_
    conv => whnf
    refine ⟨rfl, ?_, ?_, ?_⟩ <;> (repeat' apply And.intro) <;> first | exact trivial | rfl | assumption
  have a11 : ¬ f = 109 := of_decide_eq_false a
  clear a
  conv => whnf
  refine fk (decide_eq_false n3) ?_
  conv => whnf
  refine ⟨fun a => ?_, fun a => ?_⟩
  · have a : f = 114 := of_decide_eq_true a
    have hA : putM m f = ruS (mRule m) := by unfold putM; rw [if_neg q1, if_neg a3, if_neg a4, if_neg q2, if_neg a9, if_neg a10, if_neg a11, if_pos a]
    rw [hA]
    conv => whnf
    refine call1 (rule_Encode (mRule m)) rfl ?_
    conv => whnf
    refine any0 ?_
    conv => whnf
    refine ⟨.inl (by kernel_rfl), after0 ?_⟩
    conv => whnf
    refine ⟨rfl, ?_, ?_, ?_⟩ <;> (repeat' apply And.intro) <;> first | exact trivial | rfl | assumption
  have a12 : ¬ f = 114 := of_decide_eq_false a
  conv => whnf
  have hA : putM m f = chgS (mOp m) := by unfold putM; rw [if_neg q1, if_neg a3, if_neg a4, if_neg q2, if_neg a9, if_neg a10, if_neg a11, if_neg a12]
  rw [hA]
  conv => whnf
  refine call1 (wire_change (mOp m) hm.op hm.o1 hm.o2 hm.o3) rfl ?_
  conv => whnf
  refine ⟨rfl, ?_, ?_, ?_⟩ <;> (repeat' apply And.intro) <;> first | exact trivial | rfl | assumption
theorem wire_allM (m : MD.T) (k : Int) (l : List UInt8) (hl : l.length ≤ 100) (hf : ∀ f ∈ l, fM f.toNat) (hb : ∀ f, (putM m f).1.length ≤ 1000000) (hm : SmM m) :
    FnP Tryz.prog 54 [.c (.int .u8 k), .c (.str l), .agg plM] (obM m) 1 kp0 (paR (allS (putM m) k l)) (obM m) 1 := by
  refine fnP noI Tryz.func54 rfl rfl rfl rfl ?_
  conv => whnf
  refine loop0 (α := Nat) (fun j => j ≤ l.length ∧ ((l.take j).all fun f => (putM m f.toNat).2) = true)
    (fun j => ⟨[(1, .c (.str l)), (5, .c (.ptr 1 0)), (8, .c (.str (byl [k] ++ (l.take j).flatMap fun f => (putM m f.toNat).1))), (16, .c (.int .i64 l.length)), (17, .c (.int .i64 j))], (1, .cells 121 (plM)) :: obM m, 2⟩) (fun j => l.length - j) ⟨0, ⟨by omega, rfl⟩, ?_⟩ ?_
  · (conv => whnf); refine ⟨rfl, ?_, ?_, ?_⟩ <;> (repeat' apply And.intro) <;> first | exact trivial | rfl | exact wr_succ _ (by omega) | assumption | exact decide_eq_false (by assumption) | exact decide_eq_true (by assumption)
  rintro j ⟨hJ1, hJ2⟩
  conv => whnf
  refine ⟨fun h4 => ?_, fun h4 => ?_⟩
  · have h4 : j < l.length := by simp at h4; omega
    conv => whnf
    refine any0 ?_
    conv => whnf
    refine ⟨by omega, ?_⟩
    conv => whnf
    rw [bt_nat l j h4]
    refine callrp0 [0] rfl rfl rfl (wire_putM m l[j].toNat (hf _ (List.getElem_mem h4)) hm) rfl rfl rfl rfl rfl rfl [0] rfl rfl ?_
    conv => whnf
    refine ⟨.inl (by kernel_rfl), after0 ?_⟩
    conv => whnf
    refine ⟨fun h5 => ?_, fun h5 => ?_⟩
    · have h5 : (putM m l[j].toNat).2 = false := by simpa using h5
      have hA : allS (putM m) k l = ([], false) := if_neg fun h => by
        have := List.all_eq_true.1 h _ (List.getElem_mem h4)
        rw [h5] at this; cases this
      rw [hA]
      conv => whnf
      refine ⟨rfl, ?_, ?_, ?_⟩ <;> (repeat' apply And.intro) <;> first | exact trivial | rfl | assumption
    have h5 : (putM m l[j].toNat).2 = true := by simpa using h5
    have hT : l.take (j + 1) = l.take j ++ [l[j]] := take_step h4
    conv => whnf
    refine ⟨by
      have e1 := flat_len hb (l.take j)
      have e2 := hb l[j].toNat
      have e3 : (l.take j).length * 1000000 ≤ 100 * 1000000 := Nat.mul_le_mul_right _ (by rw [List.length_take]; omega)
      have e4 : (byl [k]).length = 1 := rfl
      rw [List.length_append, e4]
      omega, ?_⟩
    conv => whnf
    refine ⟨j + 1, ⟨⟨by omega, ?_⟩, by omega⟩, ?_⟩
    · rw [hT, List.all_append, hJ2]; simpa using h5
    rw [hT, List.flatMap_append, ← List.append_assoc, show List.flatMap (fun f => (putM m f.toNat).1) [l[j]] = (putM m l[j].toNat).1 from by simp]
    (conv => whnf); refine ⟨rfl, ?_, ?_, ?_⟩ <;> (repeat' apply And.intro) <;> first | exact trivial | rfl | exact wr_succ _ (by omega) | assumption | exact decide_eq_false (by assumption) | exact decide_eq_true (by assumption)
  · have h4 : l.length ≤ j := by simp at h4; omega
    rw [List.take_of_length_le h4] at hJ2 ⊢
    have hA : allS (putM m) k l = (byl [k] ++ l.flatMap (fun f => (putM m f.toNat).1), true) := if_pos hJ2
    rw [hA]
    conv => whnf
    refine ⟨rfl, ?_, ?_, ?_⟩ <;> (repeat' apply And.intro) <;> first | exact trivial | rfl | assumption
/-- the fields of each kind of command -/
abbrev cmdL : List (List UInt8) := [[], [], [], [], [110], [110], [111], [105], [105], [105, 101], [105, 101], [116], [116, 110, 118], [116, 110, 119, 120], [116, 107], [116, 107], [114], [109], [116, 110], [116, 110], []]
instance (f : Int) : Decidable (fM f) := by unfold fM; infer_instance
theorem cmd_fin : ∀ n : Fin 21, (cmdL.getD n.1 []).length ≤ 100 ∧ ∀ f ∈ cmdL.getD n.1 [], fM f.toNat := by decide
theorem cmd_ok (k : Int) : (gt (d := .str) cmdL k).length ≤ 100 ∧ ∀ f ∈ gt (d := .str) cmdL k, fM f.toNat := by
  show (cmdL.getD k.toNat []).length ≤ 100 ∧ ∀ f ∈ cmdL.getD k.toNat [], fM f.toNat
  rcases Nat.lt_or_ge k.toNat 21 with h | h
  · exact cmd_fin ⟨k.toNat, h⟩
  · have : cmdL.getD k.toNat [] = [] := by rw [List.getD_eq_getElem?_getD, List.getElem?_eq_none h]; rfl
    rw [this]
    exact ⟨by decide, fun _ h => by cases h⟩
def knownM (k : Int) : Bool := decide (1 ≤ k) && decide (k < 21)
theorem wire_known (k : Int) : FnD Tryz.prog 51 [.c (.int .i64 k)] (· = .c (.bool (.sym (knownM k)))) := by
  refine fn0 Tryz.func51 rfl rfl rfl ?_
  conv => whnf
  rfl
/-- the bytes of a command, but for the fields that it has not -/
def bytM (m : MD.T) : List UInt8 × Bool := if knownM m.1 = false then ([], false) else allS (putM m) (IntKind.wrap .u8 m.1) (gt (d := .str) cmdL m.1)
theorem wire_bytes (m : MD.T) (hb : ∀ f, (putM m f).1.length ≤ 1000000) (hm : SmM m) : FnD Tryz.prog 37 [.agg (mc m)] (· = paR (bytM m)) := by
  refine fn0 Tryz.func37 rfl rfl rfl ?_
  conv => whnf
  refine call1 (wire_known m.1) rfl ?_
  conv => whnf
  refine ⟨fun a => ?_, fun a => ?_⟩
  · rw [show bytM m = ([], false) from if_pos (by simpa using a)]
    conv => whnf
  have a : knownM m.1 = true := by simpa using a
  rw [show bytM m = allS (putM m) (IntKind.wrap .u8 m.1) (gt (d := .str) cmdL m.1) from if_neg (by rw [a]; decide)]
  have a1 : 1 ≤ (m.1 : Int) ∧ (m.1 : Int) < 21 := by simpa [knownM] using a
  have a2 : 0 ≤ (m.1 : Int) := Int.le_trans (by decide) a1.1
  clear a
  conv => whnf
  refine any0 ?_
  conv => whnf
  refine ⟨⟨⟨a2, a1.2⟩, a1.2⟩, ?_⟩
  conv => whnf
  refine callrp0 [0] rfl rfl rfl (wire_ofCmd m) rfl rfl rfl rfl rfl rfl [0] rfl rfl ?_
  conv => whnf
  refine callrp0 [0] rfl rfl rfl (wire_allM m (IntKind.wrap .u8 m.1) (gt (d := .str) cmdL m.1) (cmd_ok _).1 (cmd_ok _).2 hb hm) rfl rfl rfl rfl rfl rfl [0] rfl rfl ?_
  conv => whnf
  refine ⟨.inl (by kernel_rfl), after0 ?_⟩
  conv => whnf
end Go.Proofs.YtmdjonckcapkeaaGreatDoor
