/- Joined texts: SOk1. -/
import Derived.Test.YtojooakojnelbaaDoorRows
import Derived.Test.YtojooakojnelbaaDoorGf
/- That the Go functions come to the printed Lean functions, whatever they are handed. Printed by sxgen.py of this session. -/
namespace Go.Proofs.YtojooakojnelbaaDoor
open Go Go.Am Go.Sx
def tt : TT := { kd := [(0, .other), (1, .func), (2, (.int .i64)), (3, (.int .i64)), (4, .bool), (5, (.int .u8)), (6, (.int .u8)), (7, .struct), (8, .struct), (9, .string), (10, .string), (11, .string), (12, (.int .u64)), (13, .struct), (14, .struct), (15, (.pointer 167)), (16, (.pointer 170)), (17, (.pointer 178)), (18, .struct), (19, .struct), (20, .other), (21, (.int .i32)), (22, (.slice 61)), (23, .struct), (24, .struct), (25, (.pointer 37)), (26, .other), (27, .func), (28, .func), (29, (.slice 31)), (30, .func), (31, (.int .i64)), (32, .func), (33, .func), (34, .func), (35, (.slice 25)), (36, .struct), (37, .struct), (38, .func), (39, .func), (40, .other), (41, .func), (42, (.slice 44)), (43, .func), (44, (.slice 3)), (45, .func), (46, .func), (47, .func), (48, .func), (49, (.slice 74)), (50, .func), (51, .other), (52, .func), (53, .other), (54, .func), (55, .other), (56, .func), (57, .func), (58, .func), (59, .func), (60, .struct), (61, .struct), (62, .func), (63, .other), (64, .func), (65, .func), (66, .func), (67, .func), (68, (.slice 4)), (69, .func), (70, .func), (71, .func), (72, .func), (73, .struct), (74, .struct), (75, (.pointer 79)), (76, .func), (77, .func), (78, .struct), (79, .struct), (80, .func), (81, .other), (82, .func), (83, .func), (84, .func), (85, .func), (86, .func), (87, .func), (88, .other), (89, .func), (90, .func), (91, .func), (92, (.slice 95)), (93, .func), (94, .struct), (95, .struct), (96, .func), (97, .other), (98, .func), (99, .func), (100, .func), (101, .func), (102, .func), (103, .func), (104, .func), (105, .func), (106, .func), (107, (.slice 9)), (108, .func), (109, .func), (110, .func), (111, .func), (112, (.slice 67)), (113, .func), (114, .func), (115, .func), (116, (.map 9 4)), (117, (.pointer 120)), (118, (.slice 5)), (119, .struct), (120, .struct), (121, .func), (122, .other), (123, .other), (124, .other), (125, .func), (126, .func), (127, .func), (128, .func), (129, .func), (130, .func), (131, .func), (132, .func), (133, .func), (134, .other), (135, .func), (136, .func), (137, .func), (138, .func), (139, (.pointer 5)), (140, (.int .u64)), (141, .func), (142, (.slice 21)), (143, .other), (144, .func), (145, .func), (146, .func), (147, .func), (148, .func), (149, .array), (150, .struct), (151, .struct), (152, .array), (153, (.int .u64)), (154, .func), (155, .other), (156, .func), (157, .func), (158, .other), (159, .func), (160, .func), (161, .func), (162, .func), (163, (.int .u32)), (164, .other), (165, .func), (166, .struct), (167, .struct), (168, .array), (169, .struct), (170, .struct), (171, .func), (172, (.int .u8)), (173, (.int .u8)), (174, .func), (175, (.int .i32)), (176, (.int .i32)), (177, .struct), (178, .struct)], sz := [(1, 1), (2, 1), (3, 1), (4, 1), (5, 1), (6, 1), (7, 4), (8, 4), (9, 1), (10, 1), (11, 1), (12, 1), (13, 2), (14, 2), (15, 1), (16, 1), (17, 1), (18, 1), (19, 1), (21, 1), (22, 1), (23, 1), (24, 1), (25, 1), (27, 1), (28, 1), (29, 1), (30, 1), (31, 1), (32, 1), (33, 1), (34, 1), (35, 1), (36, 5), (37, 5), (38, 1), (39, 1), (41, 1), (42, 1), (43, 1), (44, 1), (45, 1), (46, 1), (47, 1), (48, 1), (49, 1), (50, 1), (52, 1), (54, 1), (56, 1), (57, 1), (58, 1), (59, 1), (60, 5), (61, 5), (62, 1), (64, 1), (65, 1), (66, 1), (67, 1), (68, 1), (69, 1), (70, 1), (71, 1), (72, 1), (73, 4), (74, 4), (75, 1), (76, 1), (77, 1), (78, 3), (79, 3), (80, 1), (82, 1), (83, 1), (84, 1), (85, 1), (86, 1), (87, 1), (89, 1), (90, 1), (91, 1), (92, 1), (93, 1), (94, 7), (95, 7), (96, 1), (98, 1), (99, 1), (100, 1), (101, 1), (102, 1), (103, 1), (104, 1), (105, 1), (106, 1), (107, 1), (108, 1), (109, 1), (110, 1), (111, 1), (112, 1), (113, 1), (114, 1), (115, 1), (116, 1), (117, 1), (118, 1), (119, 2), (120, 2), (121, 1), (125, 1), (126, 1), (127, 1), (128, 1), (129, 1), (130, 1), (131, 1), (132, 1), (133, 1), (135, 1), (136, 1), (137, 1), (138, 1), (139, 1), (140, 1), (141, 1), (142, 1), (144, 1), (145, 1), (146, 1), (147, 1), (148, 1), (149, 256), (150, 2), (151, 2), (152, 32), (153, 1), (154, 1), (155, 1), (156, 1), (157, 1), (159, 1), (160, 1), (161, 1), (162, 1), (163, 1), (165, 1), (166, 4), (167, 4), (168, 0), (169, 0), (170, 0), (171, 1), (172, 1), (173, 1), (174, 1), (175, 1), (176, 1), (177, 11), (178, 11)], by' := [(1, 8), (2, 8), (3, 8), (4, 1), (5, 1), (6, 1), (7, 24), (8, 24), (9, 16), (10, 16), (11, 16), (12, 8), (13, 24), (14, 24), (15, 8), (16, 8), (17, 8), (18, 8), (19, 8), (21, 4), (22, 24), (23, 24), (24, 24), (25, 8), (27, 8), (28, 8), (29, 24), (30, 8), (31, 8), (32, 8), (33, 8), (34, 8), (35, 24), (36, 72), (37, 72), (38, 8), (39, 8), (41, 8), (42, 24), (43, 8), (44, 24), (45, 8), (46, 8), (47, 8), (48, 8), (49, 24), (50, 8), (52, 8), (54, 8), (56, 8), (57, 8), (58, 8), (59, 8), (60, 72), (61, 72), (62, 8), (64, 8), (65, 8), (66, 8), (67, 8), (68, 24), (69, 8), (70, 8), (71, 8), (72, 8), (73, 40), (74, 40), (75, 8), (76, 8), (77, 8), (78, 40), (79, 40), (80, 8), (82, 8), (83, 8), (84, 8), (85, 8), (86, 8), (87, 8), (89, 8), (90, 8), (91, 8), (92, 24), (93, 8), (94, 80), (95, 80), (96, 8), (98, 8), (99, 8), (100, 8), (101, 8), (102, 8), (103, 8), (104, 8), (105, 8), (106, 8), (107, 24), (108, 8), (109, 8), (110, 8), (111, 8), (112, 24), (113, 8), (114, 8), (115, 8), (116, 8), (117, 8), (118, 24), (119, 32), (120, 32), (121, 8), (125, 8), (126, 8), (127, 8), (128, 8), (129, 8), (130, 8), (131, 8), (132, 8), (133, 8), (135, 8), (136, 8), (137, 8), (138, 8), (139, 8), (140, 8), (141, 8), (142, 24), (144, 8), (145, 8), (146, 8), (147, 8), (148, 8), (149, 256), (150, 2), (151, 2), (152, 32), (153, 8), (154, 8), (155, 8), (156, 8), (157, 8), (159, 8), (160, 8), (161, 8), (162, 8), (163, 4), (165, 8), (166, 40), (167, 40), (168, 0), (169, 0), (170, 0), (171, 8), (172, 1), (173, 1), (174, 8), (175, 4), (176, 4), (177, 48), (178, 48)], zero := [(1, [.nilFunc]), (2, [(.int .i64 0)]), (3, [(.int .i64 0)]), (4, [(.bool false)]), (5, [(.int .u8 0)]), (6, [(.int .u8 0)]), (7, [(.int .i64 0), (.int .i64 0), (.bool false), (.int .u8 0)]), (8, [(.int .i64 0), (.int .i64 0), (.bool false), (.int .u8 0)]), (9, [(.string ⟨#[]⟩)]), (10, [(.string ⟨#[]⟩)]), (11, [(.string ⟨#[]⟩)]), (12, [(.int .u64 0)]), (13, [(.string ⟨#[]⟩), (.int .u64 0)]), (14, [(.string ⟨#[]⟩), (.int .u64 0)]), (15, [(.pointer none)]), (16, [(.pointer none)]), (17, [(.pointer none)]), (18, [(.pointer none)]), (19, [(.pointer none)]), (21, [(.int .i32 0)]), (22, [(.slice none 0 0)]), (23, [(.slice none 0 0)]), (24, [(.slice none 0 0)]), (25, [(.pointer none)]), (27, [.nilFunc]), (28, [.nilFunc]), (29, [(.slice none 0 0)]), (30, [.nilFunc]), (31, [(.int .i64 0)]), (32, [.nilFunc]), (33, [.nilFunc]), (34, [.nilFunc]), (35, [(.slice none 0 0)]), (36, [(.int .i64 0), (.int .i64 0), (.string ⟨#[]⟩), (.string ⟨#[]⟩), (.slice none 0 0)]), (37, [(.int .i64 0), (.int .i64 0), (.string ⟨#[]⟩), (.string ⟨#[]⟩), (.slice none 0 0)]), (38, [.nilFunc]), (39, [.nilFunc]), (41, [.nilFunc]), (42, [(.slice none 0 0)]), (43, [.nilFunc]), (44, [(.slice none 0 0)]), (45, [.nilFunc]), (46, [.nilFunc]), (47, [.nilFunc]), (48, [.nilFunc]), (49, [(.slice none 0 0)]), (50, [.nilFunc]), (52, [.nilFunc]), (54, [.nilFunc]), (56, [.nilFunc]), (57, [.nilFunc]), (58, [.nilFunc]), (59, [.nilFunc]), (60, [(.int .i64 0), (.int .i64 0), (.string ⟨#[]⟩), (.string ⟨#[]⟩), (.slice none 0 0)]), (61, [(.int .i64 0), (.int .i64 0), (.string ⟨#[]⟩), (.string ⟨#[]⟩), (.slice none 0 0)]), (62, [.nilFunc]), (64, [.nilFunc]), (65, [.nilFunc]), (66, [.nilFunc]), (67, [.nilFunc]), (68, [(.slice none 0 0)]), (69, [.nilFunc]), (70, [.nilFunc]), (71, [.nilFunc]), (72, [.nilFunc]), (73, [(.int .i64 0), (.string ⟨#[]⟩), (.int .i64 0), (.int .i64 0)]), (74, [(.int .i64 0), (.string ⟨#[]⟩), (.int .i64 0), (.int .i64 0)]), (75, [(.pointer none)]), (76, [.nilFunc]), (77, [.nilFunc]), (78, [(.slice none 0 0), (.int .i64 0), (.int .i64 0)]), (79, [(.slice none 0 0), (.int .i64 0), (.int .i64 0)]), (80, [.nilFunc]), (82, [.nilFunc]), (83, [.nilFunc]), (84, [.nilFunc]), (85, [.nilFunc]), (86, [.nilFunc]), (87, [.nilFunc]), (89, [.nilFunc]), (90, [.nilFunc]), (91, [.nilFunc]), (92, [(.slice none 0 0)]), (93, [.nilFunc]), (94, [(.int .i64 0), (.int .i64 0), (.string ⟨#[]⟩), (.string ⟨#[]⟩), (.int .i64 0), (.int .i64 0), (.string ⟨#[]⟩)]), (95, [(.int .i64 0), (.int .i64 0), (.string ⟨#[]⟩), (.string ⟨#[]⟩), (.int .i64 0), (.int .i64 0), (.string ⟨#[]⟩)]), (96, [.nilFunc]), (98, [.nilFunc]), (99, [.nilFunc]), (100, [.nilFunc]), (101, [.nilFunc]), (102, [.nilFunc]), (103, [.nilFunc]), (104, [.nilFunc]), (105, [.nilFunc]), (106, [.nilFunc]), (107, [(.slice none 0 0)]), (108, [.nilFunc]), (109, [.nilFunc]), (110, [.nilFunc]), (111, [.nilFunc]), (112, [(.slice none 0 0)]), (113, [.nilFunc]), (114, [.nilFunc]), (115, [.nilFunc]), (116, [(.map none)]), (117, [(.pointer none)]), (118, [(.slice none 0 0)]), (119, [(.pointer none), (.slice none 0 0)]), (120, [(.pointer none), (.slice none 0 0)]), (121, [.nilFunc]), (125, [.nilFunc]), (126, [.nilFunc]), (127, [.nilFunc]), (128, [.nilFunc]), (129, [.nilFunc]), (130, [.nilFunc]), (131, [.nilFunc]), (132, [.nilFunc]), (133, [.nilFunc]), (135, [.nilFunc]), (136, [.nilFunc]), (137, [.nilFunc]), (138, [.nilFunc]), (139, [(.pointer none)]), (140, [(.int .u64 0)]), (141, [.nilFunc]), (142, [(.slice none 0 0)]), (144, [.nilFunc]), (145, [.nilFunc]), (146, [.nilFunc]), (147, [.nilFunc]), (148, [.nilFunc]), (149, [(.int .u8 0), (.int .u8 0), (.int .u8 0), (.int .u8 0), (.int .u8 0), (.int .u8 0), (.int .u8 0), (.int .u8 0), (.int .u8 0), (.int .u8 0), (.int .u8 0), (.int .u8 0), (.int .u8 0), (.int .u8 0), (.int .u8 0), (.int .u8 0), (.int .u8 0), (.int .u8 0), (.int .u8 0), (.int .u8 0), (.int .u8 0), (.int .u8 0), (.int .u8 0), (.int .u8 0), (.int .u8 0), (.int .u8 0), (.int .u8 0), (.int .u8 0), (.int .u8 0), (.int .u8 0), (.int .u8 0), (.int .u8 0), (.int .u8 0), (.int .u8 0), (.int .u8 0), (.int .u8 0), (.int .u8 0), (.int .u8 0), (.int .u8 0), (.int .u8 0), (.int .u8 0), (.int .u8 0), (.int .u8 0), (.int .u8 0), (.int .u8 0), (.int .u8 0), (.int .u8 0), (.int .u8 0), (.int .u8 0), (.int .u8 0), (.int .u8 0), (.int .u8 0), (.int .u8 0), (.int .u8 0), (.int .u8 0), (.int .u8 0), (.int .u8 0), (.int .u8 0), (.int .u8 0), (.int .u8 0), (.int .u8 0), (.int .u8 0), (.int .u8 0), (.int .u8 0), (.int .u8 0), (.int .u8 0), (.int .u8 0), (.int .u8 0), (.int .u8 0), (.int .u8 0), (.int .u8 0), (.int .u8 0), (.int .u8 0), (.int .u8 0), (.int .u8 0), (.int .u8 0), (.int .u8 0), (.int .u8 0), (.int .u8 0), (.int .u8 0), (.int .u8 0), (.int .u8 0), (.int .u8 0), (.int .u8 0), (.int .u8 0), (.int .u8 0), (.int .u8 0), (.int .u8 0), (.int .u8 0), (.int .u8 0), (.int .u8 0), (.int .u8 0), (.int .u8 0), (.int .u8 0), (.int .u8 0), (.int .u8 0), (.int .u8 0), (.int .u8 0), (.int .u8 0), (.int .u8 0), (.int .u8 0), (.int .u8 0), (.int .u8 0), (.int .u8 0), (.int .u8 0), (.int .u8 0), (.int .u8 0), (.int .u8 0), (.int .u8 0), (.int .u8 0), (.int .u8 0), (.int .u8 0), (.int .u8 0), (.int .u8 0), (.int .u8 0), (.int .u8 0), (.int .u8 0), (.int .u8 0), (.int .u8 0), (.int .u8 0), (.int .u8 0), (.int .u8 0), (.int .u8 0), (.int .u8 0), (.int .u8 0), (.int .u8 0), (.int .u8 0), (.int .u8 0), (.int .u8 0), (.int .u8 0), (.int .u8 0), (.int .u8 0), (.int .u8 0), (.int .u8 0), (.int .u8 0), (.int .u8 0), (.int .u8 0), (.int .u8 0), (.int .u8 0), (.int .u8 0), (.int .u8 0), (.int .u8 0), (.int .u8 0), (.int .u8 0), (.int .u8 0), (.int .u8 0), (.int .u8 0), (.int .u8 0), (.int .u8 0), (.int .u8 0), (.int .u8 0), (.int .u8 0), (.int .u8 0), (.int .u8 0), (.int .u8 0), (.int .u8 0), (.int .u8 0), (.int .u8 0), (.int .u8 0), (.int .u8 0), (.int .u8 0), (.int .u8 0), (.int .u8 0), (.int .u8 0), (.int .u8 0), (.int .u8 0), (.int .u8 0), (.int .u8 0), (.int .u8 0), (.int .u8 0), (.int .u8 0), (.int .u8 0), (.int .u8 0), (.int .u8 0), (.int .u8 0), (.int .u8 0), (.int .u8 0), (.int .u8 0), (.int .u8 0), (.int .u8 0), (.int .u8 0), (.int .u8 0), (.int .u8 0), (.int .u8 0), (.int .u8 0), (.int .u8 0), (.int .u8 0), (.int .u8 0), (.int .u8 0), (.int .u8 0), (.int .u8 0), (.int .u8 0), (.int .u8 0), (.int .u8 0), (.int .u8 0), (.int .u8 0), (.int .u8 0), (.int .u8 0), (.int .u8 0), (.int .u8 0), (.int .u8 0), (.int .u8 0), (.int .u8 0), (.int .u8 0), (.int .u8 0), (.int .u8 0), (.int .u8 0), (.int .u8 0), (.int .u8 0), (.int .u8 0), (.int .u8 0), (.int .u8 0), (.int .u8 0), (.int .u8 0), (.int .u8 0), (.int .u8 0), (.int .u8 0), (.int .u8 0), (.int .u8 0), (.int .u8 0), (.int .u8 0), (.int .u8 0), (.int .u8 0), (.int .u8 0), (.int .u8 0), (.int .u8 0), (.int .u8 0), (.int .u8 0), (.int .u8 0), (.int .u8 0), (.int .u8 0), (.int .u8 0), (.int .u8 0), (.int .u8 0), (.int .u8 0), (.int .u8 0), (.int .u8 0), (.int .u8 0), (.int .u8 0), (.int .u8 0), (.int .u8 0), (.int .u8 0), (.int .u8 0), (.int .u8 0), (.int .u8 0), (.int .u8 0), (.int .u8 0), (.int .u8 0), (.int .u8 0), (.int .u8 0), (.int .u8 0), (.int .u8 0), (.int .u8 0), (.int .u8 0), (.int .u8 0), (.int .u8 0)]), (150, [(.int .u8 0), (.int .u8 0)]), (151, [(.int .u8 0), (.int .u8 0)]), (152, [(.int .u8 0), (.int .u8 0), (.int .u8 0), (.int .u8 0), (.int .u8 0), (.int .u8 0), (.int .u8 0), (.int .u8 0), (.int .u8 0), (.int .u8 0), (.int .u8 0), (.int .u8 0), (.int .u8 0), (.int .u8 0), (.int .u8 0), (.int .u8 0), (.int .u8 0), (.int .u8 0), (.int .u8 0), (.int .u8 0), (.int .u8 0), (.int .u8 0), (.int .u8 0), (.int .u8 0), (.int .u8 0), (.int .u8 0), (.int .u8 0), (.int .u8 0), (.int .u8 0), (.int .u8 0), (.int .u8 0), (.int .u8 0)]), (153, [(.int .u64 0)]), (154, [.nilFunc]), (155, [(.pointer none)]), (156, [.nilFunc]), (157, [.nilFunc]), (159, [.nilFunc]), (160, [.nilFunc]), (161, [.nilFunc]), (162, [.nilFunc]), (163, [(.int .u32 0)]), (165, [.nilFunc]), (166, [(.pointer none), (.pointer none), (.pointer none), (.string ⟨#[]⟩)]), (167, [(.pointer none), (.pointer none), (.pointer none), (.string ⟨#[]⟩)]), (168, []), (169, []), (170, []), (171, [.nilFunc]), (172, [(.int .u8 0)]), (173, [(.int .u8 0)]), (174, [.nilFunc]), (175, [(.int .i32 0)]), (176, [(.int .i32 0)]), (177, [(.int .u64 0), (.int .u64 0), (.int .u32 0), (.int .u8 0), (.int .u8 0), (.int .u8 0), (.int .u8 0), .nilFunc, (.pointer none), (.int .i32 0), (.int .i32 0)]), (178, [(.int .u64 0), (.int .u64 0), (.int .u32 0), (.int .u8 0), (.int .u8 0), (.int .u8 0), (.int .u8 0), .nilFunc, (.pointer none), (.int .i32 0), (.int .i32 0)])], fld := [(7, [(2, 0, 1), (3, 1, 1), (4, 2, 1), (6, 3, 1)]), (8, [(2, 0, 1), (3, 1, 1), (4, 2, 1), (6, 3, 1)]), (13, [(9, 0, 1), (12, 1, 1)]), (14, [(9, 0, 1), (12, 1, 1)]), (18, [(17, 0, 1)]), (19, [(17, 0, 1)]), (23, [(22, 0, 1)]), (24, [(22, 0, 1)]), (36, [(3, 0, 1), (3, 1, 1), (9, 2, 1), (9, 3, 1), (35, 4, 1)]), (37, [(3, 0, 1), (3, 1, 1), (9, 2, 1), (9, 3, 1), (35, 4, 1)]), (60, [(3, 0, 1), (3, 1, 1), (9, 2, 1), (9, 3, 1), (44, 4, 1)]), (61, [(3, 0, 1), (3, 1, 1), (9, 2, 1), (9, 3, 1), (44, 4, 1)]), (73, [(3, 0, 1), (9, 1, 1), (3, 2, 1), (3, 3, 1)]), (74, [(3, 0, 1), (9, 1, 1), (3, 2, 1), (3, 3, 1)]), (78, [(49, 0, 1), (3, 1, 1), (31, 2, 1)]), (79, [(49, 0, 1), (3, 1, 1), (31, 2, 1)]), (94, [(3, 0, 1), (3, 1, 1), (9, 2, 1), (9, 3, 1), (3, 4, 1), (3, 5, 1), (9, 6, 1)]), (95, [(3, 0, 1), (3, 1, 1), (9, 2, 1), (9, 3, 1), (3, 4, 1), (3, 5, 1), (9, 6, 1)]), (119, [(117, 0, 1), (118, 1, 1)]), (120, [(117, 0, 1), (118, 1, 1)]), (150, [(5, 0, 1), (5, 1, 1)]), (151, [(5, 0, 1), (5, 1, 1)]), (166, [(17, 0, 1), (17, 1, 1), (17, 2, 1), (9, 3, 1)]), (167, [(17, 0, 1), (17, 1, 1), (17, 2, 1), (9, 3, 1)]), (169, [(168, 0, 0)]), (170, [(168, 0, 0)]), (177, [(12, 0, 1), (12, 1, 1), (163, 2, 1), (172, 3, 1), (5, 4, 1), (5, 5, 1), (173, 6, 1), (174, 7, 1), (139, 8, 1), (175, 9, 1), (176, 10, 1)]), (178, [(12, 0, 1), (12, 1, 1), (163, 2, 1), (172, 3, 1), (5, 4, 1), (5, 5, 1), (173, 6, 1), (174, 7, 1), (139, 8, 1), (175, 9, 1), (176, 10, 1)])], arr := [(149, (256, 5)), (152, (16, 151)), (168, (0, 16))], mp := [(116, (9, 4))], zv := [(4, (.bool false))] }
theorem tt_ok : TTok Tryd.prog tt := ⟨by kernel_rfl, by kernel_rfl, by kernel_rfl, by kernel_rfl, by kernel_rfl, by kernel_rfl, by kernel_rfl, by kernel_rfl⟩
theorem mixed : Tryd.prog.follows .mixedOrders = true := by kernel_rfl
def xt : XT := { T := tt, ty := [(2, (.int .i64)), (3, (.int .i64)), (4, .bool), (5, (.int .u8)), (6, (.int .u8)), (7, (.pair (.int .i64) (.pair (.int .i64) (.pair .bool (.int .u8))))), (8, (.pair (.int .i64) (.pair (.int .i64) (.pair .bool (.int .u8))))), (9, .str), (10, .str), (11, .str), (12, (.int .u64)), (13, (.pair .str (.int .u64))), (14, (.pair .str (.int .u64))), (21, (.int .i32)), (22, (.list false (.pair (.int .i64) (.pair (.int .i64) (.pair .str (.pair .str (.list false (.int .i64)))))))), (23, (.one (.list false (.pair (.int .i64) (.pair (.int .i64) (.pair .str (.pair .str (.list false (.int .i64))))))))), (24, (.one (.list false (.pair (.int .i64) (.pair (.int .i64) (.pair .str (.pair .str (.list false (.int .i64))))))))), (25, .tree), (29, (.list false (.int .i64))), (31, (.int .i64)), (35, (.list false .tree)), (36, (.pair (.int .i64) (.pair (.int .i64) (.pair .str (.pair .str (.list false .tree)))))), (37, (.pair (.int .i64) (.pair (.int .i64) (.pair .str (.pair .str (.list false .tree)))))), (42, (.list false (.list false (.int .i64)))), (44, (.list false (.int .i64))), (49, (.list false (.pair (.int .i64) (.pair .str (.pair (.int .i64) (.int .i64)))))), (60, (.pair (.int .i64) (.pair (.int .i64) (.pair .str (.pair .str (.list false (.int .i64))))))), (61, (.pair (.int .i64) (.pair (.int .i64) (.pair .str (.pair .str (.list false (.int .i64))))))), (68, (.list false .bool)), (73, (.pair (.int .i64) (.pair .str (.pair (.int .i64) (.int .i64))))), (74, (.pair (.int .i64) (.pair .str (.pair (.int .i64) (.int .i64))))), (78, (.pair (.list false (.pair (.int .i64) (.pair .str (.pair (.int .i64) (.int .i64))))) (.pair (.int .i64) (.int .i64)))), (79, (.pair (.list false (.pair (.int .i64) (.pair .str (.pair (.int .i64) (.int .i64))))) (.pair (.int .i64) (.int .i64)))), (92, (.list false (.pair (.int .i64) (.pair (.int .i64) (.pair .str (.pair .str (.pair (.int .i64) (.pair (.int .i64) .str)))))))), (94, (.pair (.int .i64) (.pair (.int .i64) (.pair .str (.pair .str (.pair (.int .i64) (.pair (.int .i64) .str))))))), (95, (.pair (.int .i64) (.pair (.int .i64) (.pair .str (.pair .str (.pair (.int .i64) (.pair (.int .i64) .str))))))), (107, (.list false .str)), (118, (.list false (.int .u8))), (140, (.int .u64)), (142, (.list false (.int .i32))), (150, (.pair (.int .u8) (.int .u8))), (151, (.pair (.int .u8) (.int .u8))), (153, (.int .u64)), (163, (.int .u32)), (172, (.int .u8)), (173, (.int .u8)), (175, (.int .i32)), (176, (.int .i32))], objs := [79], tab := [(0, ⟨.list false (.int .u8), tab0⟩), (1, ⟨.list false (.pair (.int .u8) (.int .u8)), tab1⟩)] }
theorem xt_ok : XOk Tryd.prog xt := ⟨tt_ok, by kernel_rfl⟩
def g_law05_few : Sig := { fid := 12, Γ := [(.list false (.pair (.int .i64) (.pair (.int .i64) (.pair .str (.pair .str (.list false (.int .i64)))))))], args := [(.agg [(.var 0)])], sto := [], nk := 0, nr := 0, Δ := [(.list false (.pair (.int .i64) (.pair (.int .i64) (.pair .str (.pair .str (.list false (.int .i64)))))))], res := (.agg [(.var 0)]), sto' := [], nk' := 0, f := fun k x => law05_few k x }
def l_law05_few_0 : LH ((List (Int × Int × (List UInt8) × (List UInt8) × (List Int)))) := { Γ := [(.list false (.pair (.int .i64) (.pair (.int .i64) (.pair .str (.pair .str (.list false (.int .i64))))))), (.int .i64), (.list false (.pair (.int .i64) (.pair (.int .i64) (.pair .str (.pair .str (.list false (.int .i64)))))))], live := [(1, (.ptr [(.var 0)])), (2, (.ref 0 0)), (3, (.ref 1 0)), (4, (.var 1))], sto := [(0, (.cells 24 1 [.nils] false)), (1, (.cells 24 1 [(.row 2 2)] false)), (2, (.list 61 2 none))], nk := 3, ad := [.c 3 0 61 (.pair (.int .i64) (.pair (.int .i64) (.pair .str (.pair .str (.list false (.int .i64))))))], F := fun k x => law05_few_l0 k x.1 x.2.1 x.2.2 }
def h_law05_few : Hints ((List (Int × Int × (List UInt8) × (List UInt8) × (List Int)))) := { keep := [], ord := [(6, [.l 0, .l 1, .l 2, .l 3, .l 4, .l 5, .l 6, .l 7, .l 8, .l 9, .l 10, .l 11, .l 12, .l 13, .l 14, .h 15, .l 16, .h 17])], loops := [(3, l_law05_few_0)], unr := [], adr := [], cuts := [] }
def e_law05_few : List Sig := []
set_option maxRecDepth 100000 in
theorem law05_few_eq (k : Nat) (x : (List (Int × Int × (List UInt8) × (List UInt8) × (List Int)))) : law05_few k x = fx xt e_law05_few g_law05_few Tryd.f12 h_law05_few (bodyOf Tryd.f12) k x := by kernel_rfl
set_option maxRecDepth 100000 in
theorem law05_few_l0_eq (k : Nat) (x : (List (Int × Int × (List UInt8) × (List UInt8) × (List Int))) × Int × (List (Int × Int × (List UInt8) × (List UInt8) × (List Int)))) : law05_few_l0 (k + 1) x.1 x.2.1 x.2.2 = lrhs xt e_law05_few 55 0 h_law05_few (bodyOf Tryd.f12) (retK xt.T Tryd.f12.results g_law05_few) 0 l_law05_few_0 k x := (law05_few_l0.eq_def (k + 1) x.1 x.2.1 x.2.2).trans (by kernel_rfl)
theorem law05_few_ok (K : Nat) : SigOk Tryd.prog g_law05_few K := sig_fun (X := xt) (g := g_law05_few) (H := h_law05_few) (env := e_law05_few) (c := bodyOf Tryd.f12) xt_ok mixed (fun k => AllOk.nil) Tryd.func12 (by kernel_rfl) (by kernel_rfl) (by kernel_rfl) (UpTo.all (UpTo.zero.succ l_law05_few_0 (by kernel_rfl) (fun _ => rfl) law05_few_l0_eq) (by kernel_rfl) (by kernel_rfl)) law05_few_eq K
def g_ref04_grow : Sig := { fid := 31, Γ := [(.list false (.pair (.int .i64) (.pair (.int .i64) (.pair .str (.pair .str (.list false (.int .i64))))))), (.int .i64)], args := [(.agg [(.var 0)]), (.var 1)], sto := [], nk := 0, nr := 0, Δ := [.tree], res := (.var 0), sto' := [], nk' := 0, f := fun k x => ref04_grow k x.1 x.2 }
def l_ref04_grow_0 : LH (Tr) := { Γ := [(.int .i64), (.list false (.pair (.int .i64) (.pair (.int .i64) (.pair .str (.pair .str (.list false (.int .i64))))))), (.int .i64), (.int .i64), .str, .str, (.list false (.int .i64)), (.list false .tree)], live := [(2, (.ref 0 0)), (5, (.ref 1 0)), (6, (.ref 2 0)), (7, (.var 0))], sto := [(0, (.cells 24 1 [(.var 1)] false)), (1, (.cells 61 5 [(.var 2), (.var 3), (.var 4), (.var 5), (.var 6)] false)), (2, (.cells 37 5 [(.var 2), (.var 3), (.var 4), (.var 5), (.row 3 7)] false)), (3, (.list 25 7 none))], nk := 4, ad := [.c 6 4 25 .tree], F := fun k x => ref04_grow_l0 k x.1 x.2.1 x.2.2.1 x.2.2.2.1 x.2.2.2.2.1 x.2.2.2.2.2.1 x.2.2.2.2.2.2.1 x.2.2.2.2.2.2.2 }
def h_ref04_grow : Hints (Tr) := { keep := [], ord := [(6, [.l 0, .l 1, .l 2, .l 3, .l 4, .l 5, .l 6, .l 7, .l 8, .l 9, .l 10, .h 11, .l 12, .h 13, .l 14, .l 15, .h 16])], loops := [(4, l_ref04_grow_0)], unr := [], adr := [], cuts := [] }
def e_ref04_grow : List Sig := [g_ref04_grow]
def x_ref04_grow : XT := { xt with objs := [24, 37] ++ xt.objs }
set_option maxRecDepth 100000 in
theorem ref04_grow_eq (k : Nat) (x : (List (Int × Int × (List UInt8) × (List UInt8) × (List Int))) × Int) : ref04_grow (k + 1) x.1 x.2 = fx x_ref04_grow e_ref04_grow g_ref04_grow Tryd.f31 h_ref04_grow (bodyOf Tryd.f31) k x := (ref04_grow.eq_def (k + 1) x.1 x.2).trans (by kernel_rfl)
set_option maxRecDepth 100000 in
theorem ref04_grow_l0_eq (k : Nat) (x : Int × (List (Int × Int × (List UInt8) × (List UInt8) × (List Int))) × Int × Int × (List UInt8) × (List UInt8) × (List Int) × (List Tr)) : ref04_grow_l0 (k + 1) x.1 x.2.1 x.2.2.1 x.2.2.2.1 x.2.2.2.2.1 x.2.2.2.2.2.1 x.2.2.2.2.2.2.1 x.2.2.2.2.2.2.2 = lrhs x_ref04_grow e_ref04_grow 47 0 h_ref04_grow (bodyOf Tryd.f31) (retK xt.T Tryd.f31.results g_ref04_grow) 0 l_ref04_grow_0 k x := (ref04_grow_l0.eq_def (k + 1) x.1 x.2.1 x.2.2.1 x.2.2.2.1 x.2.2.2.2.1 x.2.2.2.2.2.1 x.2.2.2.2.2.2.1 x.2.2.2.2.2.2.2).trans (by kernel_rfl)
theorem ref04_grow_all (K : Nat) : SigOk Tryd.prog g_ref04_grow K := by
  induction K using Nat.strongRecOn with
  | ind K ih => exact sig_rec (X := x_ref04_grow) (g := g_ref04_grow) (H := h_ref04_grow) (env := e_ref04_grow) (c := bodyOf Tryd.f31) (show XOk Tryd.prog x_ref04_grow from ⟨tt_ok, xt_ok.tab⟩) mixed (fun k hk => (AllOk.cons (ih k hk) AllOk.nil)) Tryd.func31 (by kernel_rfl) (by kernel_rfl) (by kernel_rfl) (UpTo.all (UpTo.zero.succ l_ref04_grow_0 (by kernel_rfl) (fun _ => rfl) ref04_grow_l0_eq) (by kernel_rfl) (by kernel_rfl)) (fun _ => rfl) ref04_grow_eq
theorem ref04_grow_ok (K : Nat) : SigOk Tryd.prog g_ref04_grow K := (ref04_grow_all K)
def g_ref04_Open : Sig := { fid := 11, Γ := [(.list false (.pair (.int .i64) (.pair (.int .i64) (.pair .str (.pair .str (.list false (.int .i64)))))))], args := [(.agg [(.var 0)])], sto := [], nk := 0, nr := 0, Δ := [.tree, (.int .i64)], res := (.tup [(.var 0), (.var 1)]), sto' := [], nk' := 0, f := fun k x => ref04_Open k x }
def l_ref04_Open_0 : LH (Tr × Int) := { Γ := [(.list false (.pair (.int .i64) (.pair (.int .i64) (.pair .str (.pair .str (.list false (.int .i64))))))), (.list false (.int .i64)), (.int .i64)], live := [(1, (.ptr [(.var 0)])), (4, (.len 0)), (5, (.row 0 1)), (6, (.var 2))], sto := [(0, (.list 3 1 none))], nk := 1, ad := [], F := fun k x => ref04_Open_l0 k x.1 x.2.1 x.2.2 }
def l_ref04_Open_1 : LH (Tr × Int) := { Γ := [(.list false (.pair (.int .i64) (.pair (.int .i64) (.pair .str (.pair .str (.list false (.int .i64))))))), (.list false (.int .i64)), (.int .i64), (.int .i64)], live := [(1, (.ptr [(.var 0)])), (4, (.len 0)), (5, (.row 0 1)), (6, (.var 2)), (7, (.var 3))], sto := [(0, (.list 3 1 none))], nk := 1, ad := [], F := fun k x => ref04_Open_l1 k x.1 x.2.1 x.2.2.1 x.2.2.2 }
def l_ref04_Open_2 : LH (Tr × Int) := { Γ := [(.list false (.pair (.int .i64) (.pair (.int .i64) (.pair .str (.pair .str (.list false (.int .i64))))))), (.list false (.int .i64)), (.int .i64)], live := [(1, (.ptr [(.var 0)])), (4, (.len 0)), (5, (.row 0 1)), (9, (.var 2))], sto := [(0, (.list 3 1 none))], nk := 1, ad := [], F := fun k x => ref04_Open_l2 k x.1 x.2.1 x.2.2 }
def h_ref04_Open : Hints (Tr × Int) := { keep := [], ord := [], loops := [(8, l_ref04_Open_0), (11, l_ref04_Open_1), (18, l_ref04_Open_2)], unr := [], adr := [], cuts := [] }
def e_ref04_Open : List Sig := [g_ref04_grow]
set_option maxRecDepth 100000 in
theorem ref04_Open_eq (k : Nat) (x : (List (Int × Int × (List UInt8) × (List UInt8) × (List Int)))) : ref04_Open k x = fx xt e_ref04_Open g_ref04_Open Tryd.f11 h_ref04_Open (bodyOf Tryd.f11) k x := by kernel_rfl
set_option maxRecDepth 100000 in
theorem ref04_Open_l0_eq (k : Nat) (x : (List (Int × Int × (List UInt8) × (List UInt8) × (List Int))) × (List Int) × Int) : ref04_Open_l0 (k + 1) x.1 x.2.1 x.2.2 = lrhs xt e_ref04_Open 72 0 h_ref04_Open (bodyOf Tryd.f11) (retK xt.T Tryd.f11.results g_ref04_Open) 0 l_ref04_Open_0 k x := (ref04_Open_l0.eq_def (k + 1) x.1 x.2.1 x.2.2).trans (by kernel_rfl)
set_option maxRecDepth 100000 in
theorem ref04_Open_l1_eq (k : Nat) (x : (List (Int × Int × (List UInt8) × (List UInt8) × (List Int))) × (List Int) × Int × Int) : ref04_Open_l1 (k + 1) x.1 x.2.1 x.2.2.1 x.2.2.2 = lrhs xt e_ref04_Open 72 0 h_ref04_Open (bodyOf Tryd.f11) (retK xt.T Tryd.f11.results g_ref04_Open) 1 l_ref04_Open_1 k x := (ref04_Open_l1.eq_def (k + 1) x.1 x.2.1 x.2.2.1 x.2.2.2).trans (by kernel_rfl)
set_option maxRecDepth 100000 in
theorem ref04_Open_l2_eq (k : Nat) (x : (List (Int × Int × (List UInt8) × (List UInt8) × (List Int))) × (List Int) × Int) : ref04_Open_l2 (k + 1) x.1 x.2.1 x.2.2 = lrhs xt e_ref04_Open 72 0 h_ref04_Open (bodyOf Tryd.f11) (retK xt.T Tryd.f11.results g_ref04_Open) 2 l_ref04_Open_2 k x := (ref04_Open_l2.eq_def (k + 1) x.1 x.2.1 x.2.2).trans (by kernel_rfl)
theorem ref04_Open_ok (K : Nat) : SigOk Tryd.prog g_ref04_Open K := sig_fun (X := xt) (g := g_ref04_Open) (H := h_ref04_Open) (env := e_ref04_Open) (c := bodyOf Tryd.f11) xt_ok mixed (fun k => (AllOk.cons (ref04_grow_ok k) AllOk.nil)) Tryd.func11 (by kernel_rfl) (by kernel_rfl) (by kernel_rfl) (UpTo.all (((UpTo.zero.succ l_ref04_Open_0 (by kernel_rfl) (fun _ => rfl) ref04_Open_l0_eq).succ l_ref04_Open_1 (by kernel_rfl) (fun _ => rfl) ref04_Open_l1_eq).succ l_ref04_Open_2 (by kernel_rfl) (fun _ => rfl) ref04_Open_l2_eq) (by kernel_rfl) (by kernel_rfl)) ref04_Open_eq K
def g_arena_whole_1 : Sig := { fid := 115, Γ := [.tree], args := [(.var 0)], sto := [], nk := 0, nr := 0, Δ := [.bool], res := (.var 0), sto' := [], nk' := 0, f := fun k x => arena_whole_1 k x }
def g_slices_IndexFunc : Sig := { fid := 133, Γ := [(.list false .tree)], args := [(.var 0), (.fn 115 [] [])], sto := [], nk := 0, nr := 0, Δ := [(.int .i64)], res := (.var 0), sto' := [], nk' := 0, f := fun k x => slices_IndexFunc k x }
def g_slices_ContainsFunc : Sig := { fid := 114, Γ := [(.list false .tree)], args := [(.var 0), (.fn 115 [] [])], sto := [], nk := 0, nr := 0, Δ := [.bool], res := (.var 0), sto' := [], nk' := 0, f := fun k x => slices_ContainsFunc k x }
def g_arena_whole : Sig := { fid := 93, Γ := [.tree], args := [(.var 0)], sto := [], nk := 0, nr := 0, Δ := [.bool], res := (.var 0), sto' := [], nk' := 0, f := fun k x => arena_whole k x }
def h_arena_whole_1 : Hints (Bool) := { keep := [], ord := [], loops := [], unr := [], adr := [], cuts := [] }
def e_arena_whole_1 : List Sig := [g_arena_whole]
set_option maxRecDepth 100000 in
theorem arena_whole_1_eq (k : Nat) (x : Tr) : arena_whole_1 (k + 1) x = fx xt e_arena_whole_1 g_arena_whole_1 Tryd.f115 h_arena_whole_1 (bodyOf Tryd.f115) k x := (arena_whole_1.eq_def (k + 1) x).trans (by kernel_rfl)
def l_slices_IndexFunc_0 : LH (Int) := { Γ := [(.list false .tree), (.int .i64)], live := [(0, (.var 0)), (1, (.fn 115 [] [])), (7, (.len 0)), (8, (.var 1))], sto := [], nk := 0, ad := [], F := fun k x => slices_IndexFunc_l0 k x.1 x.2 }
def h_slices_IndexFunc : Hints (Int) := { keep := [], ord := [], loops := [(2, l_slices_IndexFunc_0)], unr := [], adr := [], cuts := [] }
def e_slices_IndexFunc : List Sig := [g_arena_whole_1]
set_option maxRecDepth 100000 in
theorem slices_IndexFunc_eq (k : Nat) (x : (List Tr)) : slices_IndexFunc (k + 1) x = fx xt e_slices_IndexFunc g_slices_IndexFunc Tryd.f133 h_slices_IndexFunc (bodyOf Tryd.f133) k x := (slices_IndexFunc.eq_def (k + 1) x).trans (by kernel_rfl)
set_option maxRecDepth 100000 in
theorem slices_IndexFunc_l0_eq (k : Nat) (x : (List Tr) × Int) : slices_IndexFunc_l0 (k + 1) x.1 x.2 = lrhs xt e_slices_IndexFunc 19 0 h_slices_IndexFunc (bodyOf Tryd.f133) (retK xt.T Tryd.f133.results g_slices_IndexFunc) 0 l_slices_IndexFunc_0 k x := (slices_IndexFunc_l0.eq_def (k + 1) x.1 x.2).trans (by kernel_rfl)
def h_slices_ContainsFunc : Hints (Bool) := { keep := [], ord := [], loops := [], unr := [], adr := [], cuts := [] }
def e_slices_ContainsFunc : List Sig := [g_slices_IndexFunc]
set_option maxRecDepth 100000 in
theorem slices_ContainsFunc_eq (k : Nat) (x : (List Tr)) : slices_ContainsFunc (k + 1) x = fx xt e_slices_ContainsFunc g_slices_ContainsFunc Tryd.f114 h_slices_ContainsFunc (bodyOf Tryd.f114) k x := (slices_ContainsFunc.eq_def (k + 1) x).trans (by kernel_rfl)
def h_arena_whole : Hints (Bool) := { keep := [], ord := [], loops := [], unr := [], adr := [], cuts := [] }
def e_arena_whole : List Sig := [g_slices_ContainsFunc]
set_option maxRecDepth 100000 in
theorem arena_whole_eq (k : Nat) (x : Tr) : arena_whole (k + 1) x = fx xt e_arena_whole g_arena_whole Tryd.f93 h_arena_whole (bodyOf Tryd.f93) k x := (arena_whole.eq_def (k + 1) x).trans (by kernel_rfl)
theorem arena_whole_1_all (K : Nat) : SigOk Tryd.prog g_arena_whole_1 K ∧ SigOk Tryd.prog g_slices_IndexFunc K ∧ SigOk Tryd.prog g_slices_ContainsFunc K ∧ SigOk Tryd.prog g_arena_whole K := by
  induction K using Nat.strongRecOn with
  | ind K ih => exact ⟨sig_rec (X := xt) (g := g_arena_whole_1) (H := h_arena_whole_1) (env := e_arena_whole_1) (c := bodyOf Tryd.f115) xt_ok mixed (fun k hk => (AllOk.cons (ih k hk).2.2.2 AllOk.nil)) Tryd.func115 (by kernel_rfl) (by kernel_rfl) (by kernel_rfl) (UpTo.all UpTo.zero (by kernel_rfl) (by kernel_rfl)) (fun _ => rfl) arena_whole_1_eq, sig_rec (X := xt) (g := g_slices_IndexFunc) (H := h_slices_IndexFunc) (env := e_slices_IndexFunc) (c := bodyOf Tryd.f133) xt_ok mixed (fun k hk => (AllOk.cons (ih k hk).1 AllOk.nil)) Tryd.func133 (by kernel_rfl) (by kernel_rfl) (by kernel_rfl) (UpTo.all (UpTo.zero.succ l_slices_IndexFunc_0 (by kernel_rfl) (fun _ => rfl) slices_IndexFunc_l0_eq) (by kernel_rfl) (by kernel_rfl)) (fun _ => rfl) slices_IndexFunc_eq, sig_rec (X := xt) (g := g_slices_ContainsFunc) (H := h_slices_ContainsFunc) (env := e_slices_ContainsFunc) (c := bodyOf Tryd.f114) xt_ok mixed (fun k hk => (AllOk.cons (ih k hk).2.1 AllOk.nil)) Tryd.func114 (by kernel_rfl) (by kernel_rfl) (by kernel_rfl) (UpTo.all UpTo.zero (by kernel_rfl) (by kernel_rfl)) (fun _ => rfl) slices_ContainsFunc_eq, sig_rec (X := xt) (g := g_arena_whole) (H := h_arena_whole) (env := e_arena_whole) (c := bodyOf Tryd.f93) xt_ok mixed (fun k hk => (AllOk.cons (ih k hk).2.2.1 AllOk.nil)) Tryd.func93 (by kernel_rfl) (by kernel_rfl) (by kernel_rfl) (UpTo.all UpTo.zero (by kernel_rfl) (by kernel_rfl)) (fun _ => rfl) arena_whole_eq⟩
theorem arena_whole_1_ok (K : Nat) : SigOk Tryd.prog g_arena_whole_1 K := (arena_whole_1_all K).1
theorem slices_IndexFunc_ok (K : Nat) : SigOk Tryd.prog g_slices_IndexFunc K := (arena_whole_1_all K).2.1
theorem slices_ContainsFunc_ok (K : Nat) : SigOk Tryd.prog g_slices_ContainsFunc K := (arena_whole_1_all K).2.2.1
theorem arena_whole_ok (K : Nat) : SigOk Tryd.prog g_arena_whole K := (arena_whole_1_all K).2.2.2
def g_arena_Size : Sig := { fid := 94, Γ := [.tree], args := [(.var 0)], sto := [], nk := 0, nr := 0, Δ := [(.int .i64)], res := (.var 0), sto' := [], nk' := 0, f := fun k x => arena_Size k x }
def l_arena_Size_0 : LH (Int) := { Γ := [(.int .i64), (.list false .tree), (.int .i64)], live := [(3, (.var 0)), (11, (.var 1)), (12, (.len 1)), (13, (.var 2))], sto := [], nk := 0, ad := [], F := fun k x => arena_Size_l0 k x.1 x.2.1 x.2.2 }
def h_arena_Size : Hints (Int) := { keep := [], ord := [], loops := [(5, l_arena_Size_0)], unr := [], adr := [], cuts := [] }
def e_arena_Size : List Sig := [g_arena_Size]
set_option maxRecDepth 100000 in
theorem arena_Size_eq (k : Nat) (x : Tr) : arena_Size (k + 1) x = fx xt e_arena_Size g_arena_Size Tryd.f94 h_arena_Size (bodyOf Tryd.f94) k x := (arena_Size.eq_def (k + 1) x).trans (by kernel_rfl)
set_option maxRecDepth 100000 in
theorem arena_Size_l0_eq (k : Nat) (x : Int × (List Tr) × Int) : arena_Size_l0 (k + 1) x.1 x.2.1 x.2.2 = lrhs xt e_arena_Size 23 0 h_arena_Size (bodyOf Tryd.f94) (retK xt.T Tryd.f94.results g_arena_Size) 0 l_arena_Size_0 k x := (arena_Size_l0.eq_def (k + 1) x.1 x.2.1 x.2.2).trans (by kernel_rfl)
theorem arena_Size_all (K : Nat) : SigOk Tryd.prog g_arena_Size K := by
  induction K using Nat.strongRecOn with
  | ind K ih => exact sig_rec (X := xt) (g := g_arena_Size) (H := h_arena_Size) (env := e_arena_Size) (c := bodyOf Tryd.f94) xt_ok mixed (fun k hk => (AllOk.cons (ih k hk) AllOk.nil)) Tryd.func94 (by kernel_rfl) (by kernel_rfl) (by kernel_rfl) (UpTo.all (UpTo.zero.succ l_arena_Size_0 (by kernel_rfl) (fun _ => rfl) arena_Size_l0_eq) (by kernel_rfl) (by kernel_rfl)) (fun _ => rfl) arena_Size_eq
theorem arena_Size_ok (K : Nat) : SigOk Tryd.prog g_arena_Size K := (arena_Size_all K)
def g_arena_Pack_1 : Sig := { fid := 95, Γ := [.tree, (.list false (.pair (.int .i64) (.pair (.int .i64) (.pair .str (.pair .str (.list false (.int .i64)))))))], args := [(.var 0), (.ref 0 0), (.ref 1 0)], sto := [(0, (.cells 47 1 [(.fn 95 [] [(.ref 0 0), (.ref 1 0)])] false)), (1, (.cells 24 1 [(.row 2 1)] false)), (2, (.list 61 1 none))], nk := 2, nr := 1, Δ := [(.int .i64), (.list false (.pair (.int .i64) (.pair (.int .i64) (.pair .str (.pair .str (.list false (.int .i64)))))))], res := (.var 0), sto' := [(0, (.cells 47 1 [(.fn 95 [] [(.ref 0 0), (.ref 1 0)])] false)), (1, (.cells 24 1 [(.row 2 1)] false)), (2, (.list 61 1 none))], nk' := 3, f := fun k x => arena_Pack_1 k x.1 x.2 }
def l_arena_Pack_1_0 : LH (Int × (List (Int × Int × (List UInt8) × (List UInt8) × (List Int)))) := { Γ := [(.list false .tree), (.int .i64), (.list false (.pair (.int .i64) (.pair (.int .i64) (.pair .str (.pair .str (.list false (.int .i64))))))), (.int .i64), (.int .i64), .str, .str, (.list false (.int .i64))], live := [(1, (.ref 0 0)), (2, (.ref 1 0)), (5, (.ref 2 0)), (28, (.var 0)), (29, (.len 0)), (30, (.var 1))], sto := [(0, (.cells 47 1 [(.fn 95 [] [(.ref 0 0), (.ref 1 0)])] false)), (1, (.cells 24 1 [(.row 3 2)] false)), (2, (.cells 61 5 [(.var 3), (.var 4), (.var 5), (.var 6), (.row 4 7)] false)), (3, (.list 61 2 none)), (4, (.list 3 7 none))], nk := 5, ad := [.c 5 4 3 (.int .i64)], F := fun k x => arena_Pack_1_l0 k x.1 x.2.1 x.2.2.1 x.2.2.2.1 x.2.2.2.2.1 x.2.2.2.2.2.1 x.2.2.2.2.2.2.1 x.2.2.2.2.2.2.2 }
def h_arena_Pack_1 : Hints (Int × (List (Int × Int × (List UInt8) × (List UInt8) × (List Int)))) := { keep := [], ord := [(1, [.l 0, .l 1, .l 2, .l 3, .l 4, .l 5, .l 6, .l 7, .l 8, .l 9, .l 10, .l 11, .l 12, .l 13, .l 14, .l 15, .l 16, .h 17, .h 18]), (5, [.l 0, .l 1, .l 2, .l 3, .h 4, .l 5, .h 6, .l 7, .h 8])], loops := [(3, l_arena_Pack_1_0)], unr := [], adr := [], cuts := [] }
def e_arena_Pack_1 : List Sig := [g_arena_Pack_1]
set_option maxRecDepth 100000 in
theorem arena_Pack_1_eq (k : Nat) (x : Tr × (List (Int × Int × (List UInt8) × (List UInt8) × (List Int)))) : arena_Pack_1 (k + 1) x.1 x.2 = fx xt e_arena_Pack_1 g_arena_Pack_1 Tryd.f95 h_arena_Pack_1 (bodyOf Tryd.f95) k x := (arena_Pack_1.eq_def (k + 1) x.1 x.2).trans (by kernel_rfl)
set_option maxRecDepth 100000 in
theorem arena_Pack_1_l0_eq (k : Nat) (x : (List Tr) × Int × (List (Int × Int × (List UInt8) × (List UInt8) × (List Int))) × Int × Int × (List UInt8) × (List UInt8) × (List Int)) : arena_Pack_1_l0 (k + 1) x.1 x.2.1 x.2.2.1 x.2.2.2.1 x.2.2.2.2.1 x.2.2.2.2.2.1 x.2.2.2.2.2.2.1 x.2.2.2.2.2.2.2 = lrhs xt e_arena_Pack_1 53 2 h_arena_Pack_1 (bodyOf Tryd.f95) (retK xt.T Tryd.f95.results g_arena_Pack_1) 0 l_arena_Pack_1_0 k x := (arena_Pack_1_l0.eq_def (k + 1) x.1 x.2.1 x.2.2.1 x.2.2.2.1 x.2.2.2.2.1 x.2.2.2.2.2.1 x.2.2.2.2.2.2.1 x.2.2.2.2.2.2.2).trans (by kernel_rfl)
theorem arena_Pack_1_all (K : Nat) : SigOk Tryd.prog g_arena_Pack_1 K := by
  induction K using Nat.strongRecOn with
  | ind K ih => exact sig_rec (X := xt) (g := g_arena_Pack_1) (H := h_arena_Pack_1) (env := e_arena_Pack_1) (c := bodyOf Tryd.f95) xt_ok mixed (fun k hk => (AllOk.cons (ih k hk) AllOk.nil)) Tryd.func95 (by kernel_rfl) (by kernel_rfl) (by kernel_rfl) (UpTo.all (UpTo.zero.succ l_arena_Pack_1_0 (by kernel_rfl) (fun _ => rfl) arena_Pack_1_l0_eq) (by kernel_rfl) (by kernel_rfl)) (fun _ => rfl) arena_Pack_1_eq
theorem arena_Pack_1_ok (K : Nat) : SigOk Tryd.prog g_arena_Pack_1 K := (arena_Pack_1_all K)
def g_arena_Pack : Sig := { fid := 68, Γ := [.tree], args := [(.var 0)], sto := [], nk := 0, nr := 0, Δ := [(.list false (.pair (.int .i64) (.pair (.int .i64) (.pair .str (.pair .str (.list false (.int .i64))))))), (.int .i64)], res := (.tup [(.agg [(.var 0)]), (.var 1)]), sto' := [], nk' := 0, f := fun k x => arena_Pack k x }
def h_arena_Pack : Hints ((List (Int × Int × (List UInt8) × (List UInt8) × (List Int))) × Int) := { keep := [], ord := [], loops := [], unr := [], adr := [(8, [.c 4 0 61 (.pair (.int .i64) (.pair (.int .i64) (.pair .str (.pair .str (.list false (.int .i64))))))])], cuts := [] }
def e_arena_Pack : List Sig := [g_arena_whole, g_arena_Size, g_arena_Pack_1]
set_option maxRecDepth 100000 in
theorem arena_Pack_eq (k : Nat) (x : Tr) : arena_Pack k x = fx xt e_arena_Pack g_arena_Pack Tryd.f68 h_arena_Pack (bodyOf Tryd.f68) k x := by kernel_rfl
theorem arena_Pack_ok (K : Nat) : SigOk Tryd.prog g_arena_Pack K := sig_fun (X := xt) (g := g_arena_Pack) (H := h_arena_Pack) (env := e_arena_Pack) (c := bodyOf Tryd.f68) xt_ok mixed (fun k => (AllOk.cons (arena_whole_ok k) (AllOk.cons (arena_Size_ok k) (AllOk.cons (arena_Pack_1_ok k) AllOk.nil)))) Tryd.func68 (by kernel_rfl) (by kernel_rfl) (by kernel_rfl) (UpTo.all UpTo.zero (by kernel_rfl) (by kernel_rfl)) arena_Pack_eq K
def g_arena_Deep : Sig := { fid := 22, Γ := [.tree], args := [(.var 0)], sto := [], nk := 0, nr := 0, Δ := [(.int .i64)], res := (.var 0), sto' := [], nk' := 0, f := fun k x => arena_Deep k x }
def l_arena_Deep_0 : LH (Int) := { Γ := [(.int .i64), (.list false .tree), (.int .i64)], live := [(3, (.var 0)), (11, (.var 1)), (12, (.len 1)), (13, (.var 2))], sto := [], nk := 0, ad := [], F := fun k x => arena_Deep_l0 k x.1 x.2.1 x.2.2 }
def h_arena_Deep : Hints (Int) := { keep := [], ord := [], loops := [(5, l_arena_Deep_0)], unr := [], adr := [], cuts := [] }
def e_arena_Deep : List Sig := [g_arena_Deep]
set_option maxRecDepth 100000 in
theorem arena_Deep_eq (k : Nat) (x : Tr) : arena_Deep (k + 1) x = fx xt e_arena_Deep g_arena_Deep Tryd.f22 h_arena_Deep (bodyOf Tryd.f22) k x := (arena_Deep.eq_def (k + 1) x).trans (by kernel_rfl)
set_option maxRecDepth 100000 in
theorem arena_Deep_l0_eq (k : Nat) (x : Int × (List Tr) × Int) : arena_Deep_l0 (k + 1) x.1 x.2.1 x.2.2 = lrhs xt e_arena_Deep 24 0 h_arena_Deep (bodyOf Tryd.f22) (retK xt.T Tryd.f22.results g_arena_Deep) 0 l_arena_Deep_0 k x := (arena_Deep_l0.eq_def (k + 1) x.1 x.2.1 x.2.2).trans (by kernel_rfl)
theorem arena_Deep_all (K : Nat) : SigOk Tryd.prog g_arena_Deep K := by
  induction K using Nat.strongRecOn with
  | ind K ih => exact sig_rec (X := xt) (g := g_arena_Deep) (H := h_arena_Deep) (env := e_arena_Deep) (c := bodyOf Tryd.f22) xt_ok mixed (fun k hk => (AllOk.cons (ih k hk) AllOk.nil)) Tryd.func22 (by kernel_rfl) (by kernel_rfl) (by kernel_rfl) (UpTo.all (UpTo.zero.succ l_arena_Deep_0 (by kernel_rfl) (fun _ => rfl) arena_Deep_l0_eq) (by kernel_rfl) (by kernel_rfl)) (fun _ => rfl) arena_Deep_eq
theorem arena_Deep_ok (K : Nat) : SigOk Tryd.prog g_arena_Deep K := (arena_Deep_all K)
def g_shape_bare : Sig := { fid := 69, Γ := [.tree, .bool, .bool, .bool], args := [(.var 0), (.var 1), (.var 2), (.var 3)], sto := [], nk := 0, nr := 0, Δ := [.bool], res := (.var 0), sto' := [], nk' := 0, f := fun k x => shape_bare k x.1 x.2.1 x.2.2.1 x.2.2.2 }
def h_shape_bare : Hints (Bool) := { keep := [], ord := [], loops := [], unr := [], adr := [], cuts := [] }
def e_shape_bare : List Sig := []
set_option maxRecDepth 100000 in
theorem shape_bare_eq (k : Nat) (x : Tr × Bool × Bool × Bool) : shape_bare k x.1 x.2.1 x.2.2.1 x.2.2.2 = fx xt e_shape_bare g_shape_bare Tryd.f69 h_shape_bare (bodyOf Tryd.f69) k x := by kernel_rfl
theorem shape_bare_ok (K : Nat) : SigOk Tryd.prog g_shape_bare K := sig_fun (X := xt) (g := g_shape_bare) (H := h_shape_bare) (env := e_shape_bare) (c := bodyOf Tryd.f69) xt_ok mixed (fun k => AllOk.nil) Tryd.func69 (by kernel_rfl) (by kernel_rfl) (by kernel_rfl) (UpTo.all UpTo.zero (by kernel_rfl) (by kernel_rfl)) shape_bare_eq K
def g_shape_kids : Sig := { fid := 70, Γ := [.tree], args := [(.var 0), .nils], sto := [], nk := 0, nr := 0, Δ := [.bool], res := (.var 0), sto' := [], nk' := 0, f := fun k x => shape_kids k x }
def l_shape_kids_0 : LH (Bool) := { Γ := [.tree], live := [(0, (.var 0)), (15, .nils), (16, (.int .i64 0)), (17, (.int .i64 0))], sto := [], nk := 0, ad := [], F := fun k x => shape_kids_l0 k x }
def h_shape_kids : Hints (Bool) := { keep := [], ord := [], loops := [(4, l_shape_kids_0)], unr := [], adr := [], cuts := [] }
def e_shape_kids : List Sig := []
set_option maxRecDepth 100000 in
theorem shape_kids_eq (k : Nat) (x : Tr) : shape_kids k x = fx xt e_shape_kids g_shape_kids Tryd.f70 h_shape_kids (bodyOf Tryd.f70) k x := by kernel_rfl
set_option maxRecDepth 100000 in
theorem shape_kids_l0_eq (k : Nat) (x : Tr) : shape_kids_l0 (k + 1) x = lrhs xt e_shape_kids 33 0 h_shape_kids (bodyOf Tryd.f70) (retK xt.T Tryd.f70.results g_shape_kids) 0 l_shape_kids_0 k x := (shape_kids_l0.eq_def (k + 1) x).trans (by kernel_rfl)
theorem shape_kids_ok (K : Nat) : SigOk Tryd.prog g_shape_kids K := sig_fun (X := xt) (g := g_shape_kids) (H := h_shape_kids) (env := e_shape_kids) (c := bodyOf Tryd.f70) xt_ok mixed (fun k => AllOk.nil) Tryd.func70 (by kernel_rfl) (by kernel_rfl) (by kernel_rfl) (UpTo.all (UpTo.zero.succ l_shape_kids_0 (by kernel_rfl) (fun _ => rfl) shape_kids_l0_eq) (by kernel_rfl) (by kernel_rfl)) shape_kids_eq K
def g_utf8_RuneCountInString : Sig := { fid := 144, Γ := [.str], args := [(.var 0)], sto := [], nk := 0, nr := 0, Δ := [(.int .i64)], res := (.var 0), sto' := [], nk' := 0, f := fun k x => utf8_RuneCountInString k x }
def l_utf8_RuneCountInString_0 : LH (Int) := { Γ := [(.int .i64), .str, (.int .i64)], live := [(2, (.var 0)), (4, (.it 0))], sto := [(0, (.iter 1 2))], nk := 1, ad := [], F := fun k x => utf8_RuneCountInString_l0 k x.1 x.2.1 x.2.2 }
def h_utf8_RuneCountInString : Hints (Int) := { keep := [], ord := [], loops := [(2, l_utf8_RuneCountInString_0)], unr := [], adr := [], cuts := [] }
def e_utf8_RuneCountInString : List Sig := []
set_option maxRecDepth 100000 in
theorem utf8_RuneCountInString_eq (k : Nat) (x : (List UInt8)) : utf8_RuneCountInString k x = fx xt e_utf8_RuneCountInString g_utf8_RuneCountInString Tryd.f144 h_utf8_RuneCountInString (bodyOf Tryd.f144) k x := by kernel_rfl
set_option maxRecDepth 100000 in
theorem utf8_RuneCountInString_l0_eq (k : Nat) (x : Int × (List UInt8) × Int) : utf8_RuneCountInString_l0 (k + 1) x.1 x.2.1 x.2.2 = lrhs xt e_utf8_RuneCountInString 10 0 h_utf8_RuneCountInString (bodyOf Tryd.f144) (retK xt.T Tryd.f144.results g_utf8_RuneCountInString) 0 l_utf8_RuneCountInString_0 k x := (utf8_RuneCountInString_l0.eq_def (k + 1) x.1 x.2.1 x.2.2).trans (by kernel_rfl)
theorem utf8_RuneCountInString_ok (K : Nat) : SigOk Tryd.prog g_utf8_RuneCountInString K := sig_fun (X := xt) (g := g_utf8_RuneCountInString) (H := h_utf8_RuneCountInString) (env := e_utf8_RuneCountInString) (c := bodyOf Tryd.f144) xt_ok mixed (fun k => AllOk.nil) Tryd.func144 (by kernel_rfl) (by kernel_rfl) (by kernel_rfl) (UpTo.all (UpTo.zero.succ l_utf8_RuneCountInString_0 (by kernel_rfl) (fun _ => rfl) utf8_RuneCountInString_l0_eq) (by kernel_rfl) (by kernel_rfl)) utf8_RuneCountInString_eq K
def g_utf8_decodeRuneInStringSlow : Sig := { fid := 148, Γ := [.str], args := [(.var 0)], sto := [], nk := 0, nr := 0, Δ := [(.int .i32), (.int .i64)], res := (.tup [(.var 0), (.var 1)]), sto' := [], nk' := 0, f := fun k x => utf8_decodeRuneInStringSlow k x }
def c_utf8_decodeRuneInStringSlow_0 : LH (Int × Int) := { Γ := [.str, (.int .u8), (.int .i64), (.int .u8)], live := [(0, (.var 0)), (5, (.var 1)), (8, (.var 2)), (10, (.var 3))], sto := [], nk := 0, ad := [], F := fun k x => utf8_decodeRuneInStringSlow_c0 k x.1 x.2.1 x.2.2.1 x.2.2.2 }
def h_utf8_decodeRuneInStringSlow : Hints (Int × Int) := { keep := [], ord := [], loops := [], unr := [], adr := [], cuts := [(16, c_utf8_decodeRuneInStringSlow_0)] }
def e_utf8_decodeRuneInStringSlow : List Sig := []
set_option maxRecDepth 100000 in
theorem utf8_decodeRuneInStringSlow_eq (k : Nat) (x : (List UInt8)) : utf8_decodeRuneInStringSlow k x = fx xt e_utf8_decodeRuneInStringSlow g_utf8_decodeRuneInStringSlow Tryd.f148 h_utf8_decodeRuneInStringSlow (bodyOf Tryd.f148) k x := by kernel_rfl
set_option maxRecDepth 100000 in
theorem utf8_decodeRuneInStringSlow_c0_eq (k : Nat) (x : (List UInt8) × Int × Int × Int) : utf8_decodeRuneInStringSlow_c0 (k + 1) x.1 x.2.1 x.2.2.1 x.2.2.2 = lrhs xt e_utf8_decodeRuneInStringSlow 117 0 h_utf8_decodeRuneInStringSlow (bodyOf Tryd.f148) (retK xt.T Tryd.f148.results g_utf8_decodeRuneInStringSlow) 0 c_utf8_decodeRuneInStringSlow_0 k x := (utf8_decodeRuneInStringSlow_c0.eq_def (k + 1) x.1 x.2.1 x.2.2.1 x.2.2.2).trans (by kernel_rfl)
theorem utf8_decodeRuneInStringSlow_ok (K : Nat) : SigOk Tryd.prog g_utf8_decodeRuneInStringSlow K := sig_fun (X := xt) (g := g_utf8_decodeRuneInStringSlow) (H := h_utf8_decodeRuneInStringSlow) (env := e_utf8_decodeRuneInStringSlow) (c := bodyOf Tryd.f148) xt_ok mixed (fun k => AllOk.nil) Tryd.func148 (by kernel_rfl) (by kernel_rfl) (by kernel_rfl) (UpTo.all (UpTo.zero.succ c_utf8_decodeRuneInStringSlow_0 (by kernel_rfl) (fun _ => rfl) utf8_decodeRuneInStringSlow_c0_eq) (by kernel_rfl) (by kernel_rfl)) utf8_decodeRuneInStringSlow_eq K
def g_utf8_DecodeRuneInString : Sig := { fid := 145, Γ := [.str], args := [(.var 0)], sto := [], nk := 0, nr := 0, Δ := [(.int .i32), (.int .i64)], res := (.tup [(.var 0), (.var 1)]), sto' := [], nk' := 0, f := fun k x => utf8_DecodeRuneInString k x }
def h_utf8_DecodeRuneInString : Hints (Int × Int) := { keep := [], ord := [], loops := [], unr := [], adr := [], cuts := [] }
def e_utf8_DecodeRuneInString : List Sig := [g_utf8_decodeRuneInStringSlow]
set_option maxRecDepth 100000 in
theorem utf8_DecodeRuneInString_eq (k : Nat) (x : (List UInt8)) : utf8_DecodeRuneInString k x = fx xt e_utf8_DecodeRuneInString g_utf8_DecodeRuneInString Tryd.f145 h_utf8_DecodeRuneInString (bodyOf Tryd.f145) k x := by kernel_rfl
theorem utf8_DecodeRuneInString_ok (K : Nat) : SigOk Tryd.prog g_utf8_DecodeRuneInString K := sig_fun (X := xt) (g := g_utf8_DecodeRuneInString) (H := h_utf8_DecodeRuneInString) (env := e_utf8_DecodeRuneInString) (c := bodyOf Tryd.f145) xt_ok mixed (fun k => (AllOk.cons (utf8_decodeRuneInStringSlow_ok k) AllOk.nil)) Tryd.func145 (by kernel_rfl) (by kernel_rfl) (by kernel_rfl) (UpTo.all UpTo.zero (by kernel_rfl) (by kernel_rfl)) utf8_DecodeRuneInString_eq K
def g_strings_explode : Sig := { fid := 134, Γ := [.str, (.int .i64)], args := [(.var 0), (.var 1)], sto := [], nk := 0, nr := 0, Δ := [(.list false .str)], res := (.var 0), sto' := [], nk' := 0, f := fun k x => strings_explode k x.1 x.2 }
def c_strings_explode_0 : LH ((List (List UInt8))) := { Γ := [.str, (.int .i64)], live := [(0, (.var 0)), (1, (.var 1))], sto := [], nk := 0, ad := [], F := fun k x => strings_explode_c0 k x.1 x.2 }
def l_strings_explode_0 : LH ((List (List UInt8))) := { Γ := [.str, (.int .i64), (.list false .str), (.int .i64)], live := [(0, (.var 0)), (1, (.var 1)), (6, (.row 0 2)), (7, (.var 3))], sto := [(0, (.list 9 2 none))], nk := 1, ad := [], F := fun k x => strings_explode_l0 k x.1 x.2.1 x.2.2.1 x.2.2.2 }
def h_strings_explode : Hints ((List (List UInt8))) := { keep := [], ord := [], loops := [(6, l_strings_explode_0)], unr := [], adr := [], cuts := [(4, c_strings_explode_0)] }
def e_strings_explode : List Sig := [g_utf8_RuneCountInString, g_utf8_DecodeRuneInString]
set_option maxRecDepth 100000 in
theorem strings_explode_eq (k : Nat) (x : (List UInt8) × Int) : strings_explode k x.1 x.2 = fx xt e_strings_explode g_strings_explode Tryd.f134 h_strings_explode (bodyOf Tryd.f134) k x := by kernel_rfl
set_option maxRecDepth 100000 in
theorem strings_explode_c0_eq (k : Nat) (x : (List UInt8) × Int) : strings_explode_c0 (k + 1) x.1 x.2 = lrhs xt e_strings_explode 50 0 h_strings_explode (bodyOf Tryd.f134) (retK xt.T Tryd.f134.results g_strings_explode) 0 c_strings_explode_0 k x := (strings_explode_c0.eq_def (k + 1) x.1 x.2).trans (by kernel_rfl)
set_option maxRecDepth 100000 in
theorem strings_explode_l0_eq (k : Nat) (x : (List UInt8) × Int × (List (List UInt8)) × Int) : strings_explode_l0 (k + 1) x.1 x.2.1 x.2.2.1 x.2.2.2 = lrhs xt e_strings_explode 50 0 h_strings_explode (bodyOf Tryd.f134) (retK xt.T Tryd.f134.results g_strings_explode) 1 l_strings_explode_0 k x := (strings_explode_l0.eq_def (k + 1) x.1 x.2.1 x.2.2.1 x.2.2.2).trans (by kernel_rfl)
theorem strings_explode_ok (K : Nat) : SigOk Tryd.prog g_strings_explode K := sig_fun (X := xt) (g := g_strings_explode) (H := h_strings_explode) (env := e_strings_explode) (c := bodyOf Tryd.f134) xt_ok mixed (fun k => (AllOk.cons (utf8_RuneCountInString_ok k) (AllOk.cons (utf8_DecodeRuneInString_ok k) AllOk.nil))) Tryd.func134 (by kernel_rfl) (by kernel_rfl) (by kernel_rfl) (UpTo.all ((UpTo.zero.succ c_strings_explode_0 (by kernel_rfl) (fun _ => rfl) strings_explode_c0_eq).succ l_strings_explode_0 (by kernel_rfl) (fun _ => rfl) strings_explode_l0_eq) (by kernel_rfl) (by kernel_rfl)) strings_explode_eq K
def g_strings_Count : Sig := { fid := 135, Γ := [.str, .str], args := [(.var 0), (.var 1)], sto := [], nk := 0, nr := 0, Δ := [(.int .i64)], res := (.var 0), sto' := [], nk' := 0, f := fun k x => strings_Count k x.1 x.2 }
set_option maxHeartbeats 2000000 in
set_option maxRecDepth 100000 in
theorem c_strings_Count (s : ByteArray) (c : UInt8) (w : World) : Calls Tryd.prog 135 #[.string s, .string ⟨#[c]⟩] w fun e w' => e = .returned (.int .i64 (Lib.countByte s.data.toList c)) ∧ w' = w := by
  go_enter Tryd.func135, Tryd.ntmps135
  go_wp2
  rw [run_callFunc_extern Tryd.func146 (by kernel_rfl) (by kernel_rfl) (by kernel_rfl) (e := Extern.BytealgCount.count) (by kernel_rfl), Lib.run_countString]
  simp only [Result.andThen]
  rw [Oper.upon_value]
  go_wp2
  go_ret
  exact ⟨rfl, rfl⟩
theorem strings_Count_ok (K : Nat) : SigOk Tryd.prog g_strings_Count K := sigok_ss_i (f := strings_Count) ⟨_, Tryd.func135, by kernel_rfl, by kernel_rfl⟩ fun a b y h w => by
  unfold strings_Count at h
  split at h
  · cases h; exact c_strings_Count ⟨a.toArray⟩ _ w
  · cases h
def g_strings_Index : Sig := { fid := 136, Γ := [.str, .str], args := [(.var 0), (.var 1)], sto := [], nk := 0, nr := 0, Δ := [(.int .i64)], res := (.var 0), sto' := [], nk' := 0, f := fun k x => strings_Index k x.1 x.2 }
set_option maxHeartbeats 2000000 in
set_option maxRecDepth 100000 in
theorem c_IndexByte (s : ByteArray) (c : Int) (w : World) : Calls Tryd.prog 149 #[.string s, .int .u8 c] w fun e w' => e = .returned (.int .i64 (Lib.indexByte s.data.toList c.toNat.toUInt8)) ∧ w' = w := by
  go_enter Tryd.func149, Tryd.ntmps149
  go_wp2
  rw [run_callFunc_extern Tryd.func153 (by kernel_rfl) (by kernel_rfl) (by kernel_rfl) (e := Extern.BytealgIndexByte.indexByte) (by kernel_rfl), Lib.run_indexByteString]
  simp only [Result.andThen]
  rw [Oper.upon_value]
  go_wp2
  go_ret
  exact ⟨rfl, rfl⟩
set_option maxHeartbeats 2000000 in
set_option maxRecDepth 100000 in
theorem c_IndexLite (s : ByteArray) (c : UInt8) (w : World) : Calls Tryd.prog 147 #[.string s, .string ⟨#[c]⟩] w fun e w' => e = .returned (.int .i64 (Lib.indexByte s.data.toList c)) ∧ w' = w := by
  go_enter Tryd.func147, Tryd.ntmps147
  go_wp2_with (go_at_call 149; refine (c_IndexByte _ _ _).mono ?_; rintro e w' ⟨rfl, rfl⟩)
  · have h : ([c] == s.toList) = true := by assumption
    go_ret
    refine ⟨?_, rfl⟩
    have e : s.data.toList = [c] := by rw [← Lib.toList_data]; exact (beq_iff_eq.1 h).symm
    rw [e]
    simp [Lib.indexByte]
  · go_ret
    exact ⟨rfl, rfl⟩
set_option maxHeartbeats 2000000 in
set_option maxRecDepth 100000 in
theorem c_strings_Index (s : ByteArray) (c : UInt8) (w : World) : Calls Tryd.prog 136 #[.string s, .string ⟨#[c]⟩] w fun e w' => e = .returned (.int .i64 (Lib.indexByte s.data.toList c)) ∧ w' = w := by
  go_enter Tryd.func136, Tryd.ntmps136
  go_wp2_with (go_at_call 147; refine (c_IndexLite _ _ _).mono ?_; rintro e w' ⟨rfl, rfl⟩)
  go_ret
  exact ⟨rfl, rfl⟩
theorem strings_Index_ok (K : Nat) : SigOk Tryd.prog g_strings_Index K := sigok_ss_i (f := strings_Index) ⟨_, Tryd.func136, by kernel_rfl, by kernel_rfl⟩ fun a b y h w => by
  unfold strings_Index at h
  split at h
  · cases h; exact c_strings_Index ⟨a.toArray⟩ _ w
  · cases h
def g_strings_genSplit : Sig := { fid := 117, Γ := [.str, .str, (.int .i64), (.int .i64)], args := [(.var 0), (.var 1), (.var 2), (.var 3)], sto := [], nk := 0, nr := 0, Δ := [(.list false .str)], res := (.var 0), sto' := [], nk' := 0, f := fun k x => strings_genSplit k x.1 x.2.1 x.2.2.1 x.2.2.2 }
def c_strings_genSplit_0 : LH ((List (List UInt8))) := { Γ := [.str, .str, (.int .i64), (.int .i64)], live := [(0, (.var 0)), (1, (.var 1)), (2, (.var 2)), (3, (.var 3))], sto := [], nk := 0, ad := [], F := fun k x => strings_genSplit_c0 k x.1 x.2.1 x.2.2.1 x.2.2.2 }
def l_strings_genSplit_0 : LH ((List (List UInt8))) := { Γ := [.str, .str, (.int .i64), (.int .i64), (.list false .str), (.int .i64)], live := [(0, (.var 0)), (1, (.var 1)), (2, (.var 2)), (3, (.var 3)), (9, (.row 0 4)), (10, (.var 5))], sto := [(0, (.list 9 4 none))], nk := 1, ad := [], F := fun k x => strings_genSplit_l0 k x.1 x.2.1 x.2.2.1 x.2.2.2.1 x.2.2.2.2.1 x.2.2.2.2.2 }
def h_strings_genSplit : Hints ((List (List UInt8))) := { keep := [], ord := [], loops := [(11, l_strings_genSplit_0)], unr := [], adr := [(18, [.f 9])], cuts := [(7, c_strings_genSplit_0)] }
def e_strings_genSplit : List Sig := [g_strings_explode, g_strings_Count, g_strings_Index]
set_option maxRecDepth 100000 in
theorem strings_genSplit_eq (k : Nat) (x : (List UInt8) × (List UInt8) × Int × Int) : strings_genSplit k x.1 x.2.1 x.2.2.1 x.2.2.2 = fx xt e_strings_genSplit g_strings_genSplit Tryd.f117 h_strings_genSplit (bodyOf Tryd.f117) k x := by kernel_rfl
set_option maxRecDepth 100000 in
theorem strings_genSplit_c0_eq (k : Nat) (x : (List UInt8) × (List UInt8) × Int × Int) : strings_genSplit_c0 (k + 1) x.1 x.2.1 x.2.2.1 x.2.2.2 = lrhs xt e_strings_genSplit 66 0 h_strings_genSplit (bodyOf Tryd.f117) (retK xt.T Tryd.f117.results g_strings_genSplit) 0 c_strings_genSplit_0 k x := (strings_genSplit_c0.eq_def (k + 1) x.1 x.2.1 x.2.2.1 x.2.2.2).trans (by kernel_rfl)
set_option maxRecDepth 100000 in
theorem strings_genSplit_l0_eq (k : Nat) (x : (List UInt8) × (List UInt8) × Int × Int × (List (List UInt8)) × Int) : strings_genSplit_l0 (k + 1) x.1 x.2.1 x.2.2.1 x.2.2.2.1 x.2.2.2.2.1 x.2.2.2.2.2 = lrhs xt e_strings_genSplit 66 0 h_strings_genSplit (bodyOf Tryd.f117) (retK xt.T Tryd.f117.results g_strings_genSplit) 1 l_strings_genSplit_0 k x := (strings_genSplit_l0.eq_def (k + 1) x.1 x.2.1 x.2.2.1 x.2.2.2.1 x.2.2.2.2.1 x.2.2.2.2.2).trans (by kernel_rfl)
theorem strings_genSplit_ok (K : Nat) : SigOk Tryd.prog g_strings_genSplit K := sig_fun (X := xt) (g := g_strings_genSplit) (H := h_strings_genSplit) (env := e_strings_genSplit) (c := bodyOf Tryd.f117) xt_ok mixed (fun k => (AllOk.cons (strings_explode_ok k) (AllOk.cons (strings_Count_ok k) (AllOk.cons (strings_Index_ok k) AllOk.nil)))) Tryd.func117 (by kernel_rfl) (by kernel_rfl) (by kernel_rfl) (UpTo.all ((UpTo.zero.succ c_strings_genSplit_0 (by kernel_rfl) (fun _ => rfl) strings_genSplit_c0_eq).succ l_strings_genSplit_0 (by kernel_rfl) (fun _ => rfl) strings_genSplit_l0_eq) (by kernel_rfl) (by kernel_rfl)) strings_genSplit_eq K
def g_strings_Split : Sig := { fid := 98, Γ := [.str, .str], args := [(.var 0), (.var 1)], sto := [], nk := 0, nr := 0, Δ := [(.list false .str)], res := (.var 0), sto' := [], nk' := 0, f := fun k x => strings_Split k x.1 x.2 }
def h_strings_Split : Hints ((List (List UInt8))) := { keep := [], ord := [], loops := [], unr := [], adr := [], cuts := [] }
def e_strings_Split : List Sig := [g_strings_genSplit]
set_option maxRecDepth 100000 in
theorem strings_Split_eq (k : Nat) (x : (List UInt8) × (List UInt8)) : strings_Split k x.1 x.2 = fx xt e_strings_Split g_strings_Split Tryd.f98 h_strings_Split (bodyOf Tryd.f98) k x := by kernel_rfl
theorem strings_Split_ok (K : Nat) : SigOk Tryd.prog g_strings_Split K := sig_fun (X := xt) (g := g_strings_Split) (H := h_strings_Split) (env := e_strings_Split) (c := bodyOf Tryd.f98) xt_ok mixed (fun k => (AllOk.cons (strings_genSplit_ok k) AllOk.nil)) Tryd.func98 (by kernel_rfl) (by kernel_rfl) (by kernel_rfl) (UpTo.all UpTo.zero (by kernel_rfl) (by kernel_rfl)) strings_Split_eq K
def g_utf8_word : Sig := { fid := 137, Γ := [.str], args := [(.var 0)], sto := [], nk := 0, nr := 0, Δ := [(.int .u64)], res := (.var 0), sto' := [], nk' := 0, f := fun k x => utf8_word k x }
def h_utf8_word : Hints (Int) := { keep := [], ord := [(2, [.l 0, .l 1, .l 2, .l 3, .l 4, .l 5, .l 6, .l 7, .l 8, .l 9, .l 10, .l 11, .l 12, .l 13, .l 14, .l 15, .l 16, .l 17, .l 18, .l 19, .l 20, .l 21, .l 22, .l 23, .l 24, .l 25, .l 26, .l 27, .l 28, .l 29, .l 30, .l 31, .l 32, .l 33, .l 34, .l 35, .l 36, .l 37, .l 38])], loops := [], unr := [], adr := [], cuts := [] }
def e_utf8_word : List Sig := []
set_option maxRecDepth 100000 in
theorem utf8_word_eq (k : Nat) (x : (List UInt8)) : utf8_word k x = fx xt e_utf8_word g_utf8_word Tryd.f137 h_utf8_word (bodyOf Tryd.f137) k x := by kernel_rfl
theorem utf8_word_ok (K : Nat) : SigOk Tryd.prog g_utf8_word K := sig_fun (X := xt) (g := g_utf8_word) (H := h_utf8_word) (env := e_utf8_word) (c := bodyOf Tryd.f137) xt_ok mixed (fun k => AllOk.nil) Tryd.func137 (by kernel_rfl) (by kernel_rfl) (by kernel_rfl) (UpTo.all UpTo.zero (by kernel_rfl) (by kernel_rfl)) utf8_word_eq K
def g_utf8_ValidString : Sig := { fid := 118, Γ := [.str], args := [(.var 0)], sto := [], nk := 0, nr := 0, Δ := [.bool], res := (.var 0), sto' := [], nk' := 0, f := fun k x => utf8_ValidString k x }
def l_utf8_ValidString_0 : LH (Bool) := { Γ := [.str], live := [(0, (.var 0))], sto := [], nk := 0, ad := [], F := fun k x => utf8_ValidString_l0 k x }
def l_utf8_ValidString_1 : LH (Bool) := { Γ := [.str], live := [(0, (.var 0))], sto := [], nk := 0, ad := [], F := fun k x => utf8_ValidString_l1 k x }
def h_utf8_ValidString : Hints (Bool) := { keep := [], ord := [(7, [.l 0, .l 1, .l 2, .l 3, .l 4, .l 6, .l 7, .h 5, .h 8, .l 9, .l 10, .l 11, .l 12]), (9, [.l 0, .l 1, .l 2, .l 3, .l 4, .l 6, .l 7, .l 10, .l 11, .l 13, .l 14, .h 5, .h 8, .l 9, .h 12, .h 15, .l 16, .l 17, .l 18, .l 19, .l 20]), (17, [.l 0, .l 1, .l 2, .l 3, .l 4, .l 5, .l 6, .l 7, .l 8, .l 9, .l 10, .l 11, .l 12, .l 13, .l 14, .l 15, .l 16]), (21, [.l 0, .l 1, .l 2, .l 3, .l 4, .l 5, .l 6, .l 7, .l 8, .l 9, .l 10, .l 11, .l 12, .l 13, .l 14, .l 15, .l 16, .l 17, .l 18, .l 19, .l 20, .l 21, .l 22, .l 23, .l 24, .l 25, .l 26]), (25, [.l 0, .l 1, .l 2, .l 3, .l 4, .l 5, .l 6, .l 7, .l 8, .l 9, .l 10, .l 11, .l 12, .l 13, .l 14, .l 15, .l 16, .l 17, .l 18, .l 19, .l 20, .l 21, .l 22, .l 23, .l 24, .l 25, .l 26, .l 27, .l 28, .l 29, .l 30, .l 31, .l 32, .l 33, .l 34, .l 35, .l 36])], loops := [(1, l_utf8_ValidString_0), (9, l_utf8_ValidString_1)], unr := [], adr := [], cuts := [] }
def e_utf8_ValidString : List Sig := [g_utf8_word]
set_option maxRecDepth 100000 in
theorem utf8_ValidString_eq (k : Nat) (x : (List UInt8)) : utf8_ValidString k x = fx xt e_utf8_ValidString g_utf8_ValidString Tryd.f118 h_utf8_ValidString (bodyOf Tryd.f118) k x := by kernel_rfl
set_option maxRecDepth 100000 in
theorem utf8_ValidString_l0_eq (k : Nat) (x : (List UInt8)) : utf8_ValidString_l0 (k + 1) x = lrhs xt e_utf8_ValidString 169 0 h_utf8_ValidString (bodyOf Tryd.f118) (retK xt.T Tryd.f118.results g_utf8_ValidString) 0 l_utf8_ValidString_0 k x := (utf8_ValidString_l0.eq_def (k + 1) x).trans (by kernel_rfl)
set_option maxRecDepth 100000 in
theorem utf8_ValidString_l1_eq (k : Nat) (x : (List UInt8)) : utf8_ValidString_l1 (k + 1) x = lrhs xt e_utf8_ValidString 169 0 h_utf8_ValidString (bodyOf Tryd.f118) (retK xt.T Tryd.f118.results g_utf8_ValidString) 1 l_utf8_ValidString_1 k x := (utf8_ValidString_l1.eq_def (k + 1) x).trans (by kernel_rfl)
theorem utf8_ValidString_ok (K : Nat) : SigOk Tryd.prog g_utf8_ValidString K := sig_fun (X := xt) (g := g_utf8_ValidString) (H := h_utf8_ValidString) (env := e_utf8_ValidString) (c := bodyOf Tryd.f118) xt_ok mixed (fun k => (AllOk.cons (utf8_word_ok k) AllOk.nil)) Tryd.func118 (by kernel_rfl) (by kernel_rfl) (by kernel_rfl) (UpTo.all ((UpTo.zero.succ l_utf8_ValidString_0 (by kernel_rfl) (fun _ => rfl) utf8_ValidString_l0_eq).succ l_utf8_ValidString_1 (by kernel_rfl) (fun _ => rfl) utf8_ValidString_l1_eq) (by kernel_rfl) (by kernel_rfl)) utf8_ValidString_eq K
def g_utf8_ValidRune : Sig := { fid := 83, Γ := [(.int .i32)], args := [(.var 0)], sto := [], nk := 0, nr := 0, Δ := [.bool], res := (.var 0), sto' := [], nk' := 0, f := fun k x => utf8_ValidRune k x }
def h_utf8_ValidRune : Hints (Bool) := { keep := [], ord := [], loops := [], unr := [], adr := [], cuts := [] }
def e_utf8_ValidRune : List Sig := []
set_option maxRecDepth 100000 in
theorem utf8_ValidRune_eq (k : Nat) (x : Int) : utf8_ValidRune k x = fx xt e_utf8_ValidRune g_utf8_ValidRune Tryd.f83 h_utf8_ValidRune (bodyOf Tryd.f83) k x := by kernel_rfl
theorem utf8_ValidRune_ok (K : Nat) : SigOk Tryd.prog g_utf8_ValidRune K := sig_fun (X := xt) (g := g_utf8_ValidRune) (H := h_utf8_ValidRune) (env := e_utf8_ValidRune) (c := bodyOf Tryd.f83) xt_ok mixed (fun k => AllOk.nil) Tryd.func83 (by kernel_rfl) (by kernel_rfl) (by kernel_rfl) (UpTo.all UpTo.zero (by kernel_rfl) (by kernel_rfl)) utf8_ValidRune_eq K
def g_runes_Class : Sig := { fid := 53, Γ := [(.int .i32)], args := [(.var 0)], sto := [], nk := 0, nr := 0, Δ := [(.int .i64)], res := (.var 0), sto' := [], nk' := 0, f := fun k x => runes_Class k x }
def h_runes_Class : Hints (Int) := { keep := [], ord := [], loops := [], unr := [], adr := [], cuts := [] }
def e_runes_Class : List Sig := [g_utf8_ValidRune]
set_option maxRecDepth 100000 in
theorem runes_Class_eq (k : Nat) (x : Int) : runes_Class k x = fx xt e_runes_Class g_runes_Class Tryd.f53 h_runes_Class (bodyOf Tryd.f53) k x := by kernel_rfl
theorem runes_Class_ok (K : Nat) : SigOk Tryd.prog g_runes_Class K := sig_fun (X := xt) (g := g_runes_Class) (H := h_runes_Class) (env := e_runes_Class) (c := bodyOf Tryd.f53) xt_ok mixed (fun k => (AllOk.cons (utf8_ValidRune_ok k) AllOk.nil)) Tryd.func53 (by kernel_rfl) (by kernel_rfl) (by kernel_rfl) (UpTo.all UpTo.zero (by kernel_rfl) (by kernel_rfl)) runes_Class_eq K
def g_runes_Name : Sig := { fid := 99, Γ := [.str], args := [(.var 0)], sto := [], nk := 0, nr := 0, Δ := [.bool], res := (.var 0), sto' := [], nk' := 0, f := fun k x => runes_Name k x }
def l_runes_Name_0 : LH (Bool) := { Γ := [.str, (.int .i64)], live := [(18, (.it 0))], sto := [(0, (.iter 0 1))], nk := 1, ad := [], F := fun k x => runes_Name_l0 k x.1 x.2 }
def h_runes_Name : Hints (Bool) := { keep := [], ord := [], loops := [(4, l_runes_Name_0)], unr := [], adr := [], cuts := [] }
def e_runes_Name : List Sig := [g_utf8_ValidString, g_runes_Class]
set_option maxRecDepth 100000 in
theorem runes_Name_eq (k : Nat) (x : (List UInt8)) : runes_Name k x = fx xt e_runes_Name g_runes_Name Tryd.f99 h_runes_Name (bodyOf Tryd.f99) k x := by kernel_rfl
set_option maxRecDepth 100000 in
theorem runes_Name_l0_eq (k : Nat) (x : (List UInt8) × Int) : runes_Name_l0 (k + 1) x.1 x.2 = lrhs xt e_runes_Name 37 0 h_runes_Name (bodyOf Tryd.f99) (retK xt.T Tryd.f99.results g_runes_Name) 0 l_runes_Name_0 k x := (runes_Name_l0.eq_def (k + 1) x.1 x.2).trans (by kernel_rfl)
theorem runes_Name_ok (K : Nat) : SigOk Tryd.prog g_runes_Name K := sig_fun (X := xt) (g := g_runes_Name) (H := h_runes_Name) (env := e_runes_Name) (c := bodyOf Tryd.f99) xt_ok mixed (fun k => (AllOk.cons (utf8_ValidString_ok k) (AllOk.cons (runes_Class_ok k) AllOk.nil))) Tryd.func99 (by kernel_rfl) (by kernel_rfl) (by kernel_rfl) (UpTo.all (UpTo.zero.succ l_runes_Name_0 (by kernel_rfl) (fun _ => rfl) runes_Name_l0_eq) (by kernel_rfl) (by kernel_rfl)) runes_Name_eq K
def g_lexer_words : Sig := { fid := 120, Γ := [], args := [], sto := [], nk := 0, nr := 0, Δ := [(.list false .str)], res := (.var 0), sto' := [], nk' := 0, f := fun k _ => lexer_words k }
def h_lexer_words : Hints ((List (List UInt8))) := { keep := [], ord := [], loops := [], unr := [], adr := [], cuts := [] }
def e_lexer_words : List Sig := []
set_option maxRecDepth 100000 in
theorem lexer_words_eq (k : Nat) (x : Unit) : lexer_words k = fx xt e_lexer_words g_lexer_words Tryd.f120 h_lexer_words (bodyOf Tryd.f120) k x := by kernel_rfl
theorem lexer_words_ok (K : Nat) : SigOk Tryd.prog g_lexer_words K := sig_fun (X := xt) (g := g_lexer_words) (H := h_lexer_words) (env := e_lexer_words) (c := bodyOf Tryd.f120) xt_ok mixed (fun k => AllOk.nil) Tryd.func120 (by kernel_rfl) (by kernel_rfl) (by kernel_rfl) (UpTo.all UpTo.zero (by kernel_rfl) (by kernel_rfl)) lexer_words_eq K
def g_slices_Index : Sig := { fid := 138, Γ := [(.list false .str), .str], args := [(.var 0), (.var 1)], sto := [], nk := 0, nr := 0, Δ := [(.int .i64)], res := (.var 0), sto' := [], nk' := 0, f := fun k x => slices_Index k x.1 x.2 }
def l_slices_Index_0 : LH (Int) := { Γ := [(.list false .str), .str, (.int .i64)], live := [(0, (.var 0)), (1, (.var 1)), (7, (.len 0)), (8, (.var 2))], sto := [], nk := 0, ad := [], F := fun k x => slices_Index_l0 k x.1 x.2.1 x.2.2 }
def h_slices_Index : Hints (Int) := { keep := [], ord := [], loops := [(2, l_slices_Index_0)], unr := [], adr := [], cuts := [] }
def e_slices_Index : List Sig := []
set_option maxRecDepth 100000 in
theorem slices_Index_eq (k : Nat) (x : (List (List UInt8)) × (List UInt8)) : slices_Index k x.1 x.2 = fx xt e_slices_Index g_slices_Index Tryd.f138 h_slices_Index (bodyOf Tryd.f138) k x := by kernel_rfl
set_option maxRecDepth 100000 in
theorem slices_Index_l0_eq (k : Nat) (x : (List (List UInt8)) × (List UInt8) × Int) : slices_Index_l0 (k + 1) x.1 x.2.1 x.2.2 = lrhs xt e_slices_Index 19 0 h_slices_Index (bodyOf Tryd.f138) (retK xt.T Tryd.f138.results g_slices_Index) 0 l_slices_Index_0 k x := (slices_Index_l0.eq_def (k + 1) x.1 x.2.1 x.2.2).trans (by kernel_rfl)
theorem slices_Index_ok (K : Nat) : SigOk Tryd.prog g_slices_Index K := sig_fun (X := xt) (g := g_slices_Index) (H := h_slices_Index) (env := e_slices_Index) (c := bodyOf Tryd.f138) xt_ok mixed (fun k => AllOk.nil) Tryd.func138 (by kernel_rfl) (by kernel_rfl) (by kernel_rfl) (UpTo.all (UpTo.zero.succ l_slices_Index_0 (by kernel_rfl) (fun _ => rfl) slices_Index_l0_eq) (by kernel_rfl) (by kernel_rfl)) slices_Index_eq K
def g_slices_Contains : Sig := { fid := 119, Γ := [(.list false .str), .str], args := [(.var 0), (.var 1)], sto := [], nk := 0, nr := 0, Δ := [.bool], res := (.var 0), sto' := [], nk' := 0, f := fun k x => slices_Contains k x.1 x.2 }
def h_slices_Contains : Hints (Bool) := { keep := [], ord := [], loops := [], unr := [], adr := [], cuts := [] }
def e_slices_Contains : List Sig := [g_slices_Index]
set_option maxRecDepth 100000 in
theorem slices_Contains_eq (k : Nat) (x : (List (List UInt8)) × (List UInt8)) : slices_Contains k x.1 x.2 = fx xt e_slices_Contains g_slices_Contains Tryd.f119 h_slices_Contains (bodyOf Tryd.f119) k x := by kernel_rfl
theorem slices_Contains_ok (K : Nat) : SigOk Tryd.prog g_slices_Contains K := sig_fun (X := xt) (g := g_slices_Contains) (H := h_slices_Contains) (env := e_slices_Contains) (c := bodyOf Tryd.f119) xt_ok mixed (fun k => (AllOk.cons (slices_Index_ok k) AllOk.nil)) Tryd.func119 (by kernel_rfl) (by kernel_rfl) (by kernel_rfl) (UpTo.all UpTo.zero (by kernel_rfl) (by kernel_rfl)) slices_Contains_eq K
def g_lexer_Word : Sig := { fid := 100, Γ := [.str], args := [(.var 0)], sto := [], nk := 0, nr := 0, Δ := [.bool], res := (.var 0), sto' := [], nk' := 0, f := fun k x => lexer_Word k x }
def h_lexer_Word : Hints (Bool) := { keep := [], ord := [], loops := [], unr := [], adr := [], cuts := [] }
def e_lexer_Word : List Sig := [g_lexer_words, g_slices_Contains]
set_option maxRecDepth 100000 in
theorem lexer_Word_eq (k : Nat) (x : (List UInt8)) : lexer_Word k x = fx xt e_lexer_Word g_lexer_Word Tryd.f100 h_lexer_Word (bodyOf Tryd.f100) k x := by kernel_rfl
theorem lexer_Word_ok (K : Nat) : SigOk Tryd.prog g_lexer_Word K := sig_fun (X := xt) (g := g_lexer_Word) (H := h_lexer_Word) (env := e_lexer_Word) (c := bodyOf Tryd.f100) xt_ok mixed (fun k => (AllOk.cons (lexer_words_ok k) (AllOk.cons (slices_Contains_ok k) AllOk.nil))) Tryd.func100 (by kernel_rfl) (by kernel_rfl) (by kernel_rfl) (UpTo.all UpTo.zero (by kernel_rfl) (by kernel_rfl)) lexer_Word_eq K
def g_names_Check : Sig := { fid := 73, Γ := [.str], args := [(.var 0)], sto := [], nk := 0, nr := 0, Δ := [.bool], res := (.var 0), sto' := [], nk' := 0, f := fun k x => names_Check k x }
def h_names_Check : Hints (Bool) := { keep := [], ord := [], loops := [], unr := [], adr := [], cuts := [] }
def e_names_Check : List Sig := [g_runes_Name, g_lexer_Word]
set_option maxRecDepth 100000 in
theorem names_Check_eq (k : Nat) (x : (List UInt8)) : names_Check k x = fx xt e_names_Check g_names_Check Tryd.f73 h_names_Check (bodyOf Tryd.f73) k x := by kernel_rfl
theorem names_Check_ok (K : Nat) : SigOk Tryd.prog g_names_Check K := sig_fun (X := xt) (g := g_names_Check) (H := h_names_Check) (env := e_names_Check) (c := bodyOf Tryd.f73) xt_ok mixed (fun k => (AllOk.cons (runes_Name_ok k) (AllOk.cons (lexer_Word_ok k) AllOk.nil))) Tryd.func73 (by kernel_rfl) (by kernel_rfl) (by kernel_rfl) (UpTo.all UpTo.zero (by kernel_rfl) (by kernel_rfl)) names_Check_eq K
def g_names_Long_1 : Sig := { fid := 96, Γ := [.str], args := [(.var 0)], sto := [], nk := 0, nr := 0, Δ := [.bool], res := (.var 0), sto' := [], nk' := 0, f := fun k x => names_Long_1 k x }
def h_names_Long_1 : Hints (Bool) := { keep := [], ord := [], loops := [], unr := [], adr := [], cuts := [] }
def e_names_Long_1 : List Sig := [g_names_Check]
set_option maxRecDepth 100000 in
theorem names_Long_1_eq (k : Nat) (x : (List UInt8)) : names_Long_1 k x = fx xt e_names_Long_1 g_names_Long_1 Tryd.f96 h_names_Long_1 (bodyOf Tryd.f96) k x := by kernel_rfl
theorem names_Long_1_ok (K : Nat) : SigOk Tryd.prog g_names_Long_1 K := sig_fun (X := xt) (g := g_names_Long_1) (H := h_names_Long_1) (env := e_names_Long_1) (c := bodyOf Tryd.f96) xt_ok mixed (fun k => (AllOk.cons (names_Check_ok k) AllOk.nil)) Tryd.func96 (by kernel_rfl) (by kernel_rfl) (by kernel_rfl) (UpTo.all UpTo.zero (by kernel_rfl) (by kernel_rfl)) names_Long_1_eq K
def g_slices_IndexFunc_2 : Sig := { fid := 116, Γ := [(.list false .str)], args := [(.var 0), (.fn 96 [] [])], sto := [], nk := 0, nr := 0, Δ := [(.int .i64)], res := (.var 0), sto' := [], nk' := 0, f := fun k x => slices_IndexFunc_2 k x }
def l_slices_IndexFunc_2_0 : LH (Int) := { Γ := [(.list false .str), (.int .i64)], live := [(0, (.var 0)), (1, (.fn 96 [] [])), (7, (.len 0)), (8, (.var 1))], sto := [], nk := 0, ad := [], F := fun k x => slices_IndexFunc_2_l0 k x.1 x.2 }
def h_slices_IndexFunc_2 : Hints (Int) := { keep := [], ord := [], loops := [(2, l_slices_IndexFunc_2_0)], unr := [], adr := [], cuts := [] }
def e_slices_IndexFunc_2 : List Sig := [g_names_Long_1]
set_option maxRecDepth 100000 in
theorem slices_IndexFunc_2_eq (k : Nat) (x : (List (List UInt8))) : slices_IndexFunc_2 k x = fx xt e_slices_IndexFunc_2 g_slices_IndexFunc_2 Tryd.f116 h_slices_IndexFunc_2 (bodyOf Tryd.f116) k x := by kernel_rfl
set_option maxRecDepth 100000 in
theorem slices_IndexFunc_2_l0_eq (k : Nat) (x : (List (List UInt8)) × Int) : slices_IndexFunc_2_l0 (k + 1) x.1 x.2 = lrhs xt e_slices_IndexFunc_2 19 0 h_slices_IndexFunc_2 (bodyOf Tryd.f116) (retK xt.T Tryd.f116.results g_slices_IndexFunc_2) 0 l_slices_IndexFunc_2_0 k x := (slices_IndexFunc_2_l0.eq_def (k + 1) x.1 x.2).trans (by kernel_rfl)
theorem slices_IndexFunc_2_ok (K : Nat) : SigOk Tryd.prog g_slices_IndexFunc_2 K := sig_fun (X := xt) (g := g_slices_IndexFunc_2) (H := h_slices_IndexFunc_2) (env := e_slices_IndexFunc_2) (c := bodyOf Tryd.f116) xt_ok mixed (fun k => (AllOk.cons (names_Long_1_ok k) AllOk.nil)) Tryd.func116 (by kernel_rfl) (by kernel_rfl) (by kernel_rfl) (UpTo.all (UpTo.zero.succ l_slices_IndexFunc_2_0 (by kernel_rfl) (fun _ => rfl) slices_IndexFunc_2_l0_eq) (by kernel_rfl) (by kernel_rfl)) slices_IndexFunc_2_eq K
def g_slices_ContainsFunc_2 : Sig := { fid := 97, Γ := [(.list false .str)], args := [(.var 0), (.fn 96 [] [])], sto := [], nk := 0, nr := 0, Δ := [.bool], res := (.var 0), sto' := [], nk' := 0, f := fun k x => slices_ContainsFunc_2 k x }
def h_slices_ContainsFunc_2 : Hints (Bool) := { keep := [], ord := [], loops := [], unr := [], adr := [], cuts := [] }
def e_slices_ContainsFunc_2 : List Sig := [g_slices_IndexFunc_2]
set_option maxRecDepth 100000 in
theorem slices_ContainsFunc_2_eq (k : Nat) (x : (List (List UInt8))) : slices_ContainsFunc_2 k x = fx xt e_slices_ContainsFunc_2 g_slices_ContainsFunc_2 Tryd.f97 h_slices_ContainsFunc_2 (bodyOf Tryd.f97) k x := by kernel_rfl
theorem slices_ContainsFunc_2_ok (K : Nat) : SigOk Tryd.prog g_slices_ContainsFunc_2 K := sig_fun (X := xt) (g := g_slices_ContainsFunc_2) (H := h_slices_ContainsFunc_2) (env := e_slices_ContainsFunc_2) (c := bodyOf Tryd.f97) xt_ok mixed (fun k => (AllOk.cons (slices_IndexFunc_2_ok k) AllOk.nil)) Tryd.func97 (by kernel_rfl) (by kernel_rfl) (by kernel_rfl) (UpTo.all UpTo.zero (by kernel_rfl) (by kernel_rfl)) slices_ContainsFunc_2_eq K
def g_names_Long : Sig := { fid := 72, Γ := [.str], args := [(.var 0)], sto := [], nk := 0, nr := 0, Δ := [.bool], res := (.var 0), sto' := [], nk' := 0, f := fun k x => names_Long k x }
def h_names_Long : Hints (Bool) := { keep := [], ord := [], loops := [], unr := [], adr := [], cuts := [] }
def e_names_Long : List Sig := [g_strings_Split, g_slices_ContainsFunc_2]
set_option maxRecDepth 100000 in
theorem names_Long_eq (k : Nat) (x : (List UInt8)) : names_Long k x = fx xt e_names_Long g_names_Long Tryd.f72 h_names_Long (bodyOf Tryd.f72) k x := by kernel_rfl
theorem names_Long_ok (K : Nat) : SigOk Tryd.prog g_names_Long K := sig_fun (X := xt) (g := g_names_Long) (H := h_names_Long) (env := e_names_Long) (c := bodyOf Tryd.f72) xt_ok mixed (fun k => (AllOk.cons (strings_Split_ok k) (AllOk.cons (slices_ContainsFunc_2_ok k) AllOk.nil))) Tryd.func72 (by kernel_rfl) (by kernel_rfl) (by kernel_rfl) (UpTo.all UpTo.zero (by kernel_rfl) (by kernel_rfl)) names_Long_eq K
def g_shape_kids_3 : Sig := { fid := 70, Γ := [.tree], args := [(.var 0), (.slc [(.fn 48 [] [])] 1 true)], sto := [], nk := 0, nr := 0, Δ := [.bool], res := (.var 0), sto' := [], nk' := 0, f := fun k x => shape_kids_3 k x }
def g_shape_cons : Sig := { fid := 80, Γ := [.tree], args := [(.var 0)], sto := [], nk := 0, nr := 0, Δ := [.bool], res := (.var 0), sto' := [], nk' := 0, f := fun k x => shape_cons k x }
def g_shape_kids_2 : Sig := { fid := 70, Γ := [.tree], args := [(.var 0), (.slc [(.fn 48 [] []), (.fn 48 [] [])] 2 true)], sto := [], nk := 0, nr := 0, Δ := [.bool], res := (.var 0), sto' := [], nk' := 0, f := fun k x => shape_kids_2 k x }
def g_shape_isType : Sig := { fid := 48, Γ := [.tree], args := [(.var 0)], sto := [], nk := 0, nr := 0, Δ := [.bool], res := (.var 0), sto' := [], nk' := 0, f := fun k x => shape_isType k x }
def h_shape_kids_3 : Hints (Bool) := { keep := [], ord := [], loops := [], unr := [(4, 13)], adr := [], cuts := [] }
def e_shape_kids_3 : List Sig := [g_shape_isType]
set_option maxRecDepth 100000 in
theorem shape_kids_3_eq (k : Nat) (x : Tr) : shape_kids_3 (k + 1) x = fx xt e_shape_kids_3 g_shape_kids_3 Tryd.f70 h_shape_kids_3 (bodyOf Tryd.f70) k x := (shape_kids_3.eq_def (k + 1) x).trans (by kernel_rfl)
def l_shape_cons_0 : LH (Bool) := { Γ := [.tree, (.list false .tree), (.int .i64), (.list false (.pair .str .bool))], live := [(0, (.var 0)), (3, (.mp 0)), (10, (.var 1)), (11, (.len 1)), (12, (.var 2))], sto := [(0, (.map 3))], nk := 1, ad := [], F := fun k x => shape_cons_l0 k x.1 x.2.1 x.2.2.1 x.2.2.2 }
def h_shape_cons : Hints (Bool) := { keep := [], ord := [], loops := [(3, l_shape_cons_0)], unr := [], adr := [], cuts := [] }
def e_shape_cons : List Sig := [g_shape_bare, g_names_Check, g_shape_kids_3]
set_option maxRecDepth 100000 in
theorem shape_cons_eq (k : Nat) (x : Tr) : shape_cons (k + 1) x = fx xt e_shape_cons g_shape_cons Tryd.f80 h_shape_cons (bodyOf Tryd.f80) k x := (shape_cons.eq_def (k + 1) x).trans (by kernel_rfl)
set_option maxRecDepth 100000 in
theorem shape_cons_l0_eq (k : Nat) (x : Tr × (List Tr) × Int × (List ((List UInt8) × Bool))) : shape_cons_l0 (k + 1) x.1 x.2.1 x.2.2.1 x.2.2.2 = lrhs xt e_shape_cons 60 0 h_shape_cons (bodyOf Tryd.f80) (retK xt.T Tryd.f80.results g_shape_cons) 0 l_shape_cons_0 k x := (shape_cons_l0.eq_def (k + 1) x.1 x.2.1 x.2.2.1 x.2.2.2).trans (by kernel_rfl)
def h_shape_kids_2 : Hints (Bool) := { keep := [], ord := [], loops := [], unr := [(4, 13)], adr := [], cuts := [] }
def e_shape_kids_2 : List Sig := [g_shape_isType]
set_option maxRecDepth 100000 in
theorem shape_kids_2_eq (k : Nat) (x : Tr) : shape_kids_2 (k + 1) x = fx xt e_shape_kids_2 g_shape_kids_2 Tryd.f70 h_shape_kids_2 (bodyOf Tryd.f70) k x := (shape_kids_2.eq_def (k + 1) x).trans (by kernel_rfl)
def h_shape_isType : Hints (Bool) := { keep := [], ord := [], loops := [], unr := [], adr := [], cuts := [] }
def e_shape_isType : List Sig := [g_shape_bare, g_shape_kids, g_names_Long, g_shape_kids_2, g_names_Check, g_shape_cons]
set_option maxRecDepth 100000 in
theorem shape_isType_eq (k : Nat) (x : Tr) : shape_isType (k + 1) x = fx xt e_shape_isType g_shape_isType Tryd.f48 h_shape_isType (bodyOf Tryd.f48) k x := (shape_isType.eq_def (k + 1) x).trans (by kernel_rfl)
theorem shape_kids_3_all (K : Nat) : SigOk Tryd.prog g_shape_kids_3 K ∧ SigOk Tryd.prog g_shape_cons K ∧ SigOk Tryd.prog g_shape_kids_2 K ∧ SigOk Tryd.prog g_shape_isType K := by
  induction K using Nat.strongRecOn with
  | ind K ih => exact ⟨sig_rec (X := xt) (g := g_shape_kids_3) (H := h_shape_kids_3) (env := e_shape_kids_3) (c := bodyOf Tryd.f70) xt_ok mixed (fun k hk => (AllOk.cons (ih k hk).2.2.2 AllOk.nil)) Tryd.func70 (by kernel_rfl) (by kernel_rfl) (by kernel_rfl) (UpTo.all UpTo.zero (by kernel_rfl) (by kernel_rfl)) (fun _ => rfl) shape_kids_3_eq, sig_rec (X := xt) (g := g_shape_cons) (H := h_shape_cons) (env := e_shape_cons) (c := bodyOf Tryd.f80) xt_ok mixed (fun k hk => (AllOk.cons (shape_bare_ok k) (AllOk.cons (names_Check_ok k) (AllOk.cons (ih k hk).1 AllOk.nil)))) Tryd.func80 (by kernel_rfl) (by kernel_rfl) (by kernel_rfl) (UpTo.all (UpTo.zero.succ l_shape_cons_0 (by kernel_rfl) (fun _ => rfl) shape_cons_l0_eq) (by kernel_rfl) (by kernel_rfl)) (fun _ => rfl) shape_cons_eq, sig_rec (X := xt) (g := g_shape_kids_2) (H := h_shape_kids_2) (env := e_shape_kids_2) (c := bodyOf Tryd.f70) xt_ok mixed (fun k hk => (AllOk.cons (ih k hk).2.2.2 AllOk.nil)) Tryd.func70 (by kernel_rfl) (by kernel_rfl) (by kernel_rfl) (UpTo.all UpTo.zero (by kernel_rfl) (by kernel_rfl)) (fun _ => rfl) shape_kids_2_eq, sig_rec (X := xt) (g := g_shape_isType) (H := h_shape_isType) (env := e_shape_isType) (c := bodyOf Tryd.f48) xt_ok mixed (fun k hk => (AllOk.cons (shape_bare_ok k) (AllOk.cons (shape_kids_ok k) (AllOk.cons (names_Long_ok k) (AllOk.cons (ih k hk).2.2.1 (AllOk.cons (names_Check_ok k) (AllOk.cons (ih k hk).2.1 AllOk.nil))))))) Tryd.func48 (by kernel_rfl) (by kernel_rfl) (by kernel_rfl) (UpTo.all UpTo.zero (by kernel_rfl) (by kernel_rfl)) (fun _ => rfl) shape_isType_eq⟩
theorem shape_kids_3_ok (K : Nat) : SigOk Tryd.prog g_shape_kids_3 K := (shape_kids_3_all K).1
theorem shape_cons_ok (K : Nat) : SigOk Tryd.prog g_shape_cons K := (shape_kids_3_all K).2.1
theorem shape_kids_2_ok (K : Nat) : SigOk Tryd.prog g_shape_kids_2 K := (shape_kids_3_all K).2.2.1
theorem shape_isType_ok (K : Nat) : SigOk Tryd.prog g_shape_isType K := (shape_kids_3_all K).2.2.2
def g_shape_check : Sig := { fid := 39, Γ := [.tree], args := [(.var 0), (.fn 48 [] [])], sto := [], nk := 0, nr := 0, Δ := [(.int .i64)], res := (.var 0), sto' := [], nk' := 0, f := fun k x => shape_check k x }
def h_shape_check : Hints (Int) := { keep := [], ord := [], loops := [], unr := [], adr := [], cuts := [] }
def e_shape_check : List Sig := [g_arena_Pack, g_arena_Deep, g_shape_isType]
set_option maxRecDepth 100000 in
theorem shape_check_eq (k : Nat) (x : Tr) : shape_check k x = fx xt e_shape_check g_shape_check Tryd.f39 h_shape_check (bodyOf Tryd.f39) k x := by kernel_rfl
theorem shape_check_ok (K : Nat) : SigOk Tryd.prog g_shape_check K := sig_fun (X := xt) (g := g_shape_check) (H := h_shape_check) (env := e_shape_check) (c := bodyOf Tryd.f39) xt_ok mixed (fun k => (AllOk.cons (arena_Pack_ok k) (AllOk.cons (arena_Deep_ok k) (AllOk.cons (shape_isType_ok k) AllOk.nil)))) Tryd.func39 (by kernel_rfl) (by kernel_rfl) (by kernel_rfl) (UpTo.all UpTo.zero (by kernel_rfl) (by kernel_rfl)) shape_check_eq K
def g_shape_Type : Sig := { fid := 26, Γ := [.tree], args := [(.var 0)], sto := [], nk := 0, nr := 0, Δ := [(.int .i64)], res := (.var 0), sto' := [], nk' := 0, f := fun k x => shape_Type k x }
def h_shape_Type : Hints (Int) := { keep := [], ord := [], loops := [], unr := [], adr := [], cuts := [] }
def e_shape_Type : List Sig := [g_shape_check]
set_option maxRecDepth 100000 in
theorem shape_Type_eq (k : Nat) (x : Tr) : shape_Type k x = fx xt e_shape_Type g_shape_Type Tryd.f26 h_shape_Type (bodyOf Tryd.f26) k x := by kernel_rfl
theorem shape_Type_ok (K : Nat) : SigOk Tryd.prog g_shape_Type K := sig_fun (X := xt) (g := g_shape_Type) (H := h_shape_Type) (env := e_shape_Type) (c := bodyOf Tryd.f26) xt_ok mixed (fun k => (AllOk.cons (shape_check_ok k) AllOk.nil)) Tryd.func26 (by kernel_rfl) (by kernel_rfl) (by kernel_rfl) (UpTo.all UpTo.zero (by kernel_rfl) (by kernel_rfl)) shape_Type_eq K
def g_shape_kids_6 : Sig := { fid := 70, Γ := [.tree], args := [(.var 0), (.slc [(.fn 40 [] [])] 1 true)], sto := [], nk := 0, nr := 0, Δ := [.bool], res := (.var 0), sto' := [], nk' := 0, f := fun k x => shape_kids_6 k x }
def g_shape_arms_1 : Sig := { fid := 101, Γ := [.tree], args := [(.var 0)], sto := [], nk := 0, nr := 0, Δ := [.bool], res := (.var 0), sto' := [], nk' := 0, f := fun k x => shape_arms_1 k x }
def g_shape_each_2 : Sig := { fid := 75, Γ := [.tree, (.int .i64)], args := [(.var 0), (.var 1), (.fn 101 [] [])], sto := [], nk := 0, nr := 0, Δ := [.bool], res := (.var 0), sto' := [], nk' := 0, f := fun k x => shape_each_2 k x.1 x.2 }
def g_shape_arms : Sig := { fid := 74, Γ := [.tree, (.int .i64)], args := [(.var 0), (.var 1)], sto := [], nk := 0, nr := 0, Δ := [.bool], res := (.var 0), sto' := [], nk' := 0, f := fun k x => shape_arms k x.1 x.2 }
def g_shape_kids_5 : Sig := { fid := 70, Γ := [.tree], args := [(.var 0), (.slc [(.fn 40 [] []), (.fn 40 [] [])] 2 true)], sto := [], nk := 0, nr := 0, Δ := [.bool], res := (.var 0), sto' := [], nk' := 0, f := fun k x => shape_kids_5 k x }
def g_shape_kids_4 : Sig := { fid := 70, Γ := [.tree], args := [(.var 0), (.slc [(.fn 48 [] []), (.fn 40 [] [])] 2 true)], sto := [], nk := 0, nr := 0, Δ := [.bool], res := (.var 0), sto' := [], nk' := 0, f := fun k x => shape_kids_4 k x }
def g_shape_each : Sig := { fid := 75, Γ := [.tree, (.int .i64)], args := [(.var 0), (.var 1), (.fn 40 [] [])], sto := [], nk := 0, nr := 0, Δ := [.bool], res := (.var 0), sto' := [], nk' := 0, f := fun k x => shape_each k x.1 x.2 }
def g_shape_simple : Sig := { fid := 71, Γ := [.tree, (.int .i64)], args := [(.var 0), (.var 1)], sto := [], nk := 0, nr := 0, Δ := [.bool], res := (.var 0), sto' := [], nk' := 0, f := fun k x => shape_simple k x.1 x.2 }
def g_shape_isExpr : Sig := { fid := 40, Γ := [.tree], args := [(.var 0)], sto := [], nk := 0, nr := 0, Δ := [.bool], res := (.var 0), sto' := [], nk' := 0, f := fun k x => shape_isExpr k x }
def h_shape_kids_6 : Hints (Bool) := { keep := [], ord := [], loops := [], unr := [(4, 13)], adr := [], cuts := [] }
def e_shape_kids_6 : List Sig := [g_shape_isExpr]
set_option maxRecDepth 100000 in
theorem shape_kids_6_eq (k : Nat) (x : Tr) : shape_kids_6 (k + 1) x = fx xt e_shape_kids_6 g_shape_kids_6 Tryd.f70 h_shape_kids_6 (bodyOf Tryd.f70) k x := (shape_kids_6.eq_def (k + 1) x).trans (by kernel_rfl)
def h_shape_arms_1 : Hints (Bool) := { keep := [], ord := [], loops := [], unr := [], adr := [], cuts := [] }
def e_shape_arms_1 : List Sig := [g_shape_bare, g_names_Check, g_shape_kids_6]
set_option maxRecDepth 100000 in
theorem shape_arms_1_eq (k : Nat) (x : Tr) : shape_arms_1 (k + 1) x = fx xt e_shape_arms_1 g_shape_arms_1 Tryd.f101 h_shape_arms_1 (bodyOf Tryd.f101) k x := (shape_arms_1.eq_def (k + 1) x).trans (by kernel_rfl)
def l_shape_each_2_0 : LH (Bool) := { Γ := [(.list false .tree), (.int .i64)], live := [(2, (.fn 101 [] [])), (14, (.var 0)), (15, (.len 0)), (16, (.var 1))], sto := [], nk := 0, ad := [], F := fun k x => shape_each_2_l0 k x.1 x.2 }
def h_shape_each_2 : Hints (Bool) := { keep := [], ord := [], loops := [(2, l_shape_each_2_0)], unr := [], adr := [], cuts := [] }
def e_shape_each_2 : List Sig := [g_shape_arms_1]
set_option maxRecDepth 100000 in
theorem shape_each_2_eq (k : Nat) (x : Tr × Int) : shape_each_2 (k + 1) x.1 x.2 = fx xt e_shape_each_2 g_shape_each_2 Tryd.f75 h_shape_each_2 (bodyOf Tryd.f75) k x := (shape_each_2.eq_def (k + 1) x.1 x.2).trans (by kernel_rfl)
set_option maxRecDepth 100000 in
theorem shape_each_2_l0_eq (k : Nat) (x : (List Tr) × Int) : shape_each_2_l0 (k + 1) x.1 x.2 = lrhs xt e_shape_each_2 25 0 h_shape_each_2 (bodyOf Tryd.f75) (retK xt.T Tryd.f75.results g_shape_each_2) 0 l_shape_each_2_0 k x := (shape_each_2_l0.eq_def (k + 1) x.1 x.2).trans (by kernel_rfl)
def h_shape_arms : Hints (Bool) := { keep := [], ord := [], loops := [], unr := [], adr := [], cuts := [] }
def e_shape_arms : List Sig := [g_shape_each_2]
set_option maxRecDepth 100000 in
theorem shape_arms_eq (k : Nat) (x : Tr × Int) : shape_arms (k + 1) x.1 x.2 = fx xt e_shape_arms g_shape_arms Tryd.f74 h_shape_arms (bodyOf Tryd.f74) k x := (shape_arms.eq_def (k + 1) x.1 x.2).trans (by kernel_rfl)
def h_shape_kids_5 : Hints (Bool) := { keep := [], ord := [], loops := [], unr := [(4, 13)], adr := [], cuts := [] }
def e_shape_kids_5 : List Sig := [g_shape_isExpr]
set_option maxRecDepth 100000 in
theorem shape_kids_5_eq (k : Nat) (x : Tr) : shape_kids_5 (k + 1) x = fx xt e_shape_kids_5 g_shape_kids_5 Tryd.f70 h_shape_kids_5 (bodyOf Tryd.f70) k x := (shape_kids_5.eq_def (k + 1) x).trans (by kernel_rfl)
def h_shape_kids_4 : Hints (Bool) := { keep := [], ord := [], loops := [], unr := [(4, 13)], adr := [], cuts := [] }
def e_shape_kids_4 : List Sig := [g_shape_isType, g_shape_isExpr]
set_option maxRecDepth 100000 in
theorem shape_kids_4_eq (k : Nat) (x : Tr) : shape_kids_4 (k + 1) x = fx xt e_shape_kids_4 g_shape_kids_4 Tryd.f70 h_shape_kids_4 (bodyOf Tryd.f70) k x := (shape_kids_4.eq_def (k + 1) x).trans (by kernel_rfl)
def l_shape_each_0 : LH (Bool) := { Γ := [(.list false .tree), (.int .i64)], live := [(2, (.fn 40 [] [])), (14, (.var 0)), (15, (.len 0)), (16, (.var 1))], sto := [], nk := 0, ad := [], F := fun k x => shape_each_l0 k x.1 x.2 }
def h_shape_each : Hints (Bool) := { keep := [], ord := [], loops := [(2, l_shape_each_0)], unr := [], adr := [], cuts := [] }
def e_shape_each : List Sig := [g_shape_isExpr]
set_option maxRecDepth 100000 in
theorem shape_each_eq (k : Nat) (x : Tr × Int) : shape_each (k + 1) x.1 x.2 = fx xt e_shape_each g_shape_each Tryd.f75 h_shape_each (bodyOf Tryd.f75) k x := (shape_each.eq_def (k + 1) x.1 x.2).trans (by kernel_rfl)
set_option maxRecDepth 100000 in
theorem shape_each_l0_eq (k : Nat) (x : (List Tr) × Int) : shape_each_l0 (k + 1) x.1 x.2 = lrhs xt e_shape_each 25 0 h_shape_each (bodyOf Tryd.f75) (retK xt.T Tryd.f75.results g_shape_each) 0 l_shape_each_0 k x := (shape_each_l0.eq_def (k + 1) x.1 x.2).trans (by kernel_rfl)
def h_shape_simple : Hints (Bool) := { keep := [], ord := [], loops := [], unr := [], adr := [], cuts := [] }
def e_shape_simple : List Sig := [g_shape_bare, g_shape_each]
set_option maxRecDepth 100000 in
theorem shape_simple_eq (k : Nat) (x : Tr × Int) : shape_simple (k + 1) x.1 x.2 = fx xt e_shape_simple g_shape_simple Tryd.f71 h_shape_simple (bodyOf Tryd.f71) k x := (shape_simple.eq_def (k + 1) x.1 x.2).trans (by kernel_rfl)
def h_shape_isExpr : Hints (Bool) := { keep := [], ord := [], loops := [], unr := [], adr := [], cuts := [] }
def e_shape_isExpr : List Sig := [g_shape_bare, g_shape_kids, g_shape_simple, g_names_Long, g_names_Check, g_shape_kids_4, g_shape_kids_5, g_shape_arms, g_shape_isExpr, g_shape_isType]
set_option maxRecDepth 100000 in
theorem shape_isExpr_eq (k : Nat) (x : Tr) : shape_isExpr (k + 1) x = fx xt e_shape_isExpr g_shape_isExpr Tryd.f40 h_shape_isExpr (bodyOf Tryd.f40) k x := (shape_isExpr.eq_def (k + 1) x).trans (by kernel_rfl)
theorem shape_kids_6_all (K : Nat) : SigOk Tryd.prog g_shape_kids_6 K ∧ SigOk Tryd.prog g_shape_arms_1 K ∧ SigOk Tryd.prog g_shape_each_2 K ∧ SigOk Tryd.prog g_shape_arms K ∧ SigOk Tryd.prog g_shape_kids_5 K ∧ SigOk Tryd.prog g_shape_kids_4 K ∧ SigOk Tryd.prog g_shape_each K ∧ SigOk Tryd.prog g_shape_simple K ∧ SigOk Tryd.prog g_shape_isExpr K := by
  induction K using Nat.strongRecOn with
  | ind K ih => exact ⟨sig_rec (X := xt) (g := g_shape_kids_6) (H := h_shape_kids_6) (env := e_shape_kids_6) (c := bodyOf Tryd.f70) xt_ok mixed (fun k hk => (AllOk.cons (ih k hk).2.2.2.2.2.2.2.2 AllOk.nil)) Tryd.func70 (by kernel_rfl) (by kernel_rfl) (by kernel_rfl) (UpTo.all UpTo.zero (by kernel_rfl) (by kernel_rfl)) (fun _ => rfl) shape_kids_6_eq, sig_rec (X := xt) (g := g_shape_arms_1) (H := h_shape_arms_1) (env := e_shape_arms_1) (c := bodyOf Tryd.f101) xt_ok mixed (fun k hk => (AllOk.cons (shape_bare_ok k) (AllOk.cons (names_Check_ok k) (AllOk.cons (ih k hk).1 AllOk.nil)))) Tryd.func101 (by kernel_rfl) (by kernel_rfl) (by kernel_rfl) (UpTo.all UpTo.zero (by kernel_rfl) (by kernel_rfl)) (fun _ => rfl) shape_arms_1_eq, sig_rec (X := xt) (g := g_shape_each_2) (H := h_shape_each_2) (env := e_shape_each_2) (c := bodyOf Tryd.f75) xt_ok mixed (fun k hk => (AllOk.cons (ih k hk).2.1 AllOk.nil)) Tryd.func75 (by kernel_rfl) (by kernel_rfl) (by kernel_rfl) (UpTo.all (UpTo.zero.succ l_shape_each_2_0 (by kernel_rfl) (fun _ => rfl) shape_each_2_l0_eq) (by kernel_rfl) (by kernel_rfl)) (fun _ => rfl) shape_each_2_eq, sig_rec (X := xt) (g := g_shape_arms) (H := h_shape_arms) (env := e_shape_arms) (c := bodyOf Tryd.f74) xt_ok mixed (fun k hk => (AllOk.cons (ih k hk).2.2.1 AllOk.nil)) Tryd.func74 (by kernel_rfl) (by kernel_rfl) (by kernel_rfl) (UpTo.all UpTo.zero (by kernel_rfl) (by kernel_rfl)) (fun _ => rfl) shape_arms_eq, sig_rec (X := xt) (g := g_shape_kids_5) (H := h_shape_kids_5) (env := e_shape_kids_5) (c := bodyOf Tryd.f70) xt_ok mixed (fun k hk => (AllOk.cons (ih k hk).2.2.2.2.2.2.2.2 AllOk.nil)) Tryd.func70 (by kernel_rfl) (by kernel_rfl) (by kernel_rfl) (UpTo.all UpTo.zero (by kernel_rfl) (by kernel_rfl)) (fun _ => rfl) shape_kids_5_eq, sig_rec (X := xt) (g := g_shape_kids_4) (H := h_shape_kids_4) (env := e_shape_kids_4) (c := bodyOf Tryd.f70) xt_ok mixed (fun k hk => (AllOk.cons (shape_isType_ok k) (AllOk.cons (ih k hk).2.2.2.2.2.2.2.2 AllOk.nil))) Tryd.func70 (by kernel_rfl) (by kernel_rfl) (by kernel_rfl) (UpTo.all UpTo.zero (by kernel_rfl) (by kernel_rfl)) (fun _ => rfl) shape_kids_4_eq, sig_rec (X := xt) (g := g_shape_each) (H := h_shape_each) (env := e_shape_each) (c := bodyOf Tryd.f75) xt_ok mixed (fun k hk => (AllOk.cons (ih k hk).2.2.2.2.2.2.2.2 AllOk.nil)) Tryd.func75 (by kernel_rfl) (by kernel_rfl) (by kernel_rfl) (UpTo.all (UpTo.zero.succ l_shape_each_0 (by kernel_rfl) (fun _ => rfl) shape_each_l0_eq) (by kernel_rfl) (by kernel_rfl)) (fun _ => rfl) shape_each_eq, sig_rec (X := xt) (g := g_shape_simple) (H := h_shape_simple) (env := e_shape_simple) (c := bodyOf Tryd.f71) xt_ok mixed (fun k hk => (AllOk.cons (shape_bare_ok k) (AllOk.cons (ih k hk).2.2.2.2.2.2.1 AllOk.nil))) Tryd.func71 (by kernel_rfl) (by kernel_rfl) (by kernel_rfl) (UpTo.all UpTo.zero (by kernel_rfl) (by kernel_rfl)) (fun _ => rfl) shape_simple_eq, sig_rec (X := xt) (g := g_shape_isExpr) (H := h_shape_isExpr) (env := e_shape_isExpr) (c := bodyOf Tryd.f40) xt_ok mixed (fun k hk => (AllOk.cons (shape_bare_ok k) (AllOk.cons (shape_kids_ok k) (AllOk.cons (ih k hk).2.2.2.2.2.2.2.1 (AllOk.cons (names_Long_ok k) (AllOk.cons (names_Check_ok k) (AllOk.cons (ih k hk).2.2.2.2.2.1 (AllOk.cons (ih k hk).2.2.2.2.1 (AllOk.cons (ih k hk).2.2.2.1 (AllOk.cons (ih k hk).2.2.2.2.2.2.2.2 (AllOk.cons (shape_isType_ok k) AllOk.nil))))))))))) Tryd.func40 (by kernel_rfl) (by kernel_rfl) (by kernel_rfl) (UpTo.all UpTo.zero (by kernel_rfl) (by kernel_rfl)) (fun _ => rfl) shape_isExpr_eq⟩
theorem shape_kids_6_ok (K : Nat) : SigOk Tryd.prog g_shape_kids_6 K := (shape_kids_6_all K).1
theorem shape_arms_1_ok (K : Nat) : SigOk Tryd.prog g_shape_arms_1 K := (shape_kids_6_all K).2.1
theorem shape_each_2_ok (K : Nat) : SigOk Tryd.prog g_shape_each_2 K := (shape_kids_6_all K).2.2.1
theorem shape_arms_ok (K : Nat) : SigOk Tryd.prog g_shape_arms K := (shape_kids_6_all K).2.2.2.1
theorem shape_kids_5_ok (K : Nat) : SigOk Tryd.prog g_shape_kids_5 K := (shape_kids_6_all K).2.2.2.2.1
theorem shape_kids_4_ok (K : Nat) : SigOk Tryd.prog g_shape_kids_4 K := (shape_kids_6_all K).2.2.2.2.2.1
theorem shape_each_ok (K : Nat) : SigOk Tryd.prog g_shape_each K := (shape_kids_6_all K).2.2.2.2.2.2.1
theorem shape_simple_ok (K : Nat) : SigOk Tryd.prog g_shape_simple K := (shape_kids_6_all K).2.2.2.2.2.2.2.1
theorem shape_isExpr_ok (K : Nat) : SigOk Tryd.prog g_shape_isExpr K := (shape_kids_6_all K).2.2.2.2.2.2.2.2
def g_shape_check_2 : Sig := { fid := 39, Γ := [.tree], args := [(.var 0), (.fn 40 [] [])], sto := [], nk := 0, nr := 0, Δ := [(.int .i64)], res := (.var 0), sto' := [], nk' := 0, f := fun k x => shape_check_2 k x }
def h_shape_check_2 : Hints (Int) := { keep := [], ord := [], loops := [], unr := [], adr := [], cuts := [] }
def e_shape_check_2 : List Sig := [g_arena_Pack, g_arena_Deep, g_shape_isExpr]
set_option maxRecDepth 100000 in
theorem shape_check_2_eq (k : Nat) (x : Tr) : shape_check_2 k x = fx xt e_shape_check_2 g_shape_check_2 Tryd.f39 h_shape_check_2 (bodyOf Tryd.f39) k x := by kernel_rfl
theorem shape_check_2_ok (K : Nat) : SigOk Tryd.prog g_shape_check_2 K := sig_fun (X := xt) (g := g_shape_check_2) (H := h_shape_check_2) (env := e_shape_check_2) (c := bodyOf Tryd.f39) xt_ok mixed (fun k => (AllOk.cons (arena_Pack_ok k) (AllOk.cons (arena_Deep_ok k) (AllOk.cons (shape_isExpr_ok k) AllOk.nil)))) Tryd.func39 (by kernel_rfl) (by kernel_rfl) (by kernel_rfl) (UpTo.all UpTo.zero (by kernel_rfl) (by kernel_rfl)) shape_check_2_eq K
def g_shape_Expr : Sig := { fid := 16, Γ := [.tree], args := [(.var 0)], sto := [], nk := 0, nr := 0, Δ := [(.int .i64)], res := (.var 0), sto' := [], nk' := 0, f := fun k x => shape_Expr k x }
def h_shape_Expr : Hints (Int) := { keep := [], ord := [], loops := [], unr := [], adr := [], cuts := [] }
def e_shape_Expr : List Sig := [g_shape_check_2]
set_option maxRecDepth 100000 in
theorem shape_Expr_eq (k : Nat) (x : Tr) : shape_Expr k x = fx xt e_shape_Expr g_shape_Expr Tryd.f16 h_shape_Expr (bodyOf Tryd.f16) k x := by kernel_rfl
theorem shape_Expr_ok (K : Nat) : SigOk Tryd.prog g_shape_Expr K := sig_fun (X := xt) (g := g_shape_Expr) (H := h_shape_Expr) (env := e_shape_Expr) (c := bodyOf Tryd.f16) xt_ok mixed (fun k => (AllOk.cons (shape_check_2_ok k) AllOk.nil)) Tryd.func16 (by kernel_rfl) (by kernel_rfl) (by kernel_rfl) (UpTo.all UpTo.zero (by kernel_rfl) (by kernel_rfl)) shape_Expr_eq K
def g_shape_kids_10 : Sig := { fid := 70, Γ := [.tree], args := [(.var 0), (.slc [(.fn 59 [] []), (.fn 48 [] [])] 2 true)], sto := [], nk := 0, nr := 0, Δ := [.bool], res := (.var 0), sto' := [], nk' := 0, f := fun k x => shape_kids_10 k x }
def g_shape_kids_9 : Sig := { fid := 70, Γ := [.tree], args := [(.var 0), (.slc [(.fn 59 [] [])] 1 true)], sto := [], nk := 0, nr := 0, Δ := [.bool], res := (.var 0), sto' := [], nk' := 0, f := fun k x => shape_kids_9 k x }
def g_shape_isSpec : Sig := { fid := 60, Γ := [.tree], args := [(.var 0)], sto := [], nk := 0, nr := 0, Δ := [.bool], res := (.var 0), sto' := [], nk' := 0, f := fun k x => shape_isSpec k x }
def g_shape_each_4 : Sig := { fid := 75, Γ := [.tree, (.int .i64)], args := [(.var 0), (.var 1), (.fn 60 [] [])], sto := [], nk := 0, nr := 0, Δ := [.bool], res := (.var 0), sto' := [], nk' := 0, f := fun k x => shape_each_4 k x.1 x.2 }
def g_shape_isSig : Sig := { fid := 59, Γ := [.tree], args := [(.var 0)], sto := [], nk := 0, nr := 0, Δ := [.bool], res := (.var 0), sto' := [], nk' := 0, f := fun k x => shape_isSig k x }
def h_shape_kids_10 : Hints (Bool) := { keep := [], ord := [], loops := [], unr := [(4, 13)], adr := [], cuts := [] }
def e_shape_kids_10 : List Sig := [g_shape_isSig, g_shape_isType]
set_option maxRecDepth 100000 in
theorem shape_kids_10_eq (k : Nat) (x : Tr) : shape_kids_10 (k + 1) x = fx xt e_shape_kids_10 g_shape_kids_10 Tryd.f70 h_shape_kids_10 (bodyOf Tryd.f70) k x := (shape_kids_10.eq_def (k + 1) x).trans (by kernel_rfl)
def h_shape_kids_9 : Hints (Bool) := { keep := [], ord := [], loops := [], unr := [(4, 13)], adr := [], cuts := [] }
def e_shape_kids_9 : List Sig := [g_shape_isSig]
set_option maxRecDepth 100000 in
theorem shape_kids_9_eq (k : Nat) (x : Tr) : shape_kids_9 (k + 1) x = fx xt e_shape_kids_9 g_shape_kids_9 Tryd.f70 h_shape_kids_9 (bodyOf Tryd.f70) k x := (shape_kids_9.eq_def (k + 1) x).trans (by kernel_rfl)
def h_shape_isSpec : Hints (Bool) := { keep := [], ord := [], loops := [], unr := [], adr := [], cuts := [] }
def e_shape_isSpec : List Sig := [g_shape_bare, g_shape_kids_9, g_names_Long, g_shape_kids, g_names_Check, g_shape_kids_3, g_shape_cons]
set_option maxRecDepth 100000 in
theorem shape_isSpec_eq (k : Nat) (x : Tr) : shape_isSpec (k + 1) x = fx xt e_shape_isSpec g_shape_isSpec Tryd.f60 h_shape_isSpec (bodyOf Tryd.f60) k x := (shape_isSpec.eq_def (k + 1) x).trans (by kernel_rfl)
def l_shape_each_4_0 : LH (Bool) := { Γ := [(.list false .tree), (.int .i64)], live := [(2, (.fn 60 [] [])), (14, (.var 0)), (15, (.len 0)), (16, (.var 1))], sto := [], nk := 0, ad := [], F := fun k x => shape_each_4_l0 k x.1 x.2 }
def h_shape_each_4 : Hints (Bool) := { keep := [], ord := [], loops := [(2, l_shape_each_4_0)], unr := [], adr := [], cuts := [] }
def e_shape_each_4 : List Sig := [g_shape_isSpec]
set_option maxRecDepth 100000 in
theorem shape_each_4_eq (k : Nat) (x : Tr × Int) : shape_each_4 (k + 1) x.1 x.2 = fx xt e_shape_each_4 g_shape_each_4 Tryd.f75 h_shape_each_4 (bodyOf Tryd.f75) k x := (shape_each_4.eq_def (k + 1) x.1 x.2).trans (by kernel_rfl)
set_option maxRecDepth 100000 in
theorem shape_each_4_l0_eq (k : Nat) (x : (List Tr) × Int) : shape_each_4_l0 (k + 1) x.1 x.2 = lrhs xt e_shape_each_4 25 0 h_shape_each_4 (bodyOf Tryd.f75) (retK xt.T Tryd.f75.results g_shape_each_4) 0 l_shape_each_4_0 k x := (shape_each_4_l0.eq_def (k + 1) x.1 x.2).trans (by kernel_rfl)
def h_shape_isSig : Hints (Bool) := { keep := [], ord := [], loops := [], unr := [], adr := [], cuts := [] }
def e_shape_isSig : List Sig := [g_shape_bare, g_shape_each_4, g_names_Check, g_shape_kids, g_names_Long, g_shape_kids_10]
set_option maxRecDepth 100000 in
theorem shape_isSig_eq (k : Nat) (x : Tr) : shape_isSig (k + 1) x = fx xt e_shape_isSig g_shape_isSig Tryd.f59 h_shape_isSig (bodyOf Tryd.f59) k x := (shape_isSig.eq_def (k + 1) x).trans (by kernel_rfl)
theorem shape_kids_10_all (K : Nat) : SigOk Tryd.prog g_shape_kids_10 K ∧ SigOk Tryd.prog g_shape_kids_9 K ∧ SigOk Tryd.prog g_shape_isSpec K ∧ SigOk Tryd.prog g_shape_each_4 K ∧ SigOk Tryd.prog g_shape_isSig K := by
  induction K using Nat.strongRecOn with
  | ind K ih => exact ⟨sig_rec (X := xt) (g := g_shape_kids_10) (H := h_shape_kids_10) (env := e_shape_kids_10) (c := bodyOf Tryd.f70) xt_ok mixed (fun k hk => (AllOk.cons (ih k hk).2.2.2.2 (AllOk.cons (shape_isType_ok k) AllOk.nil))) Tryd.func70 (by kernel_rfl) (by kernel_rfl) (by kernel_rfl) (UpTo.all UpTo.zero (by kernel_rfl) (by kernel_rfl)) (fun _ => rfl) shape_kids_10_eq, sig_rec (X := xt) (g := g_shape_kids_9) (H := h_shape_kids_9) (env := e_shape_kids_9) (c := bodyOf Tryd.f70) xt_ok mixed (fun k hk => (AllOk.cons (ih k hk).2.2.2.2 AllOk.nil)) Tryd.func70 (by kernel_rfl) (by kernel_rfl) (by kernel_rfl) (UpTo.all UpTo.zero (by kernel_rfl) (by kernel_rfl)) (fun _ => rfl) shape_kids_9_eq, sig_rec (X := xt) (g := g_shape_isSpec) (H := h_shape_isSpec) (env := e_shape_isSpec) (c := bodyOf Tryd.f60) xt_ok mixed (fun k hk => (AllOk.cons (shape_bare_ok k) (AllOk.cons (ih k hk).2.1 (AllOk.cons (names_Long_ok k) (AllOk.cons (shape_kids_ok k) (AllOk.cons (names_Check_ok k) (AllOk.cons (shape_kids_3_ok k) (AllOk.cons (shape_cons_ok k) AllOk.nil)))))))) Tryd.func60 (by kernel_rfl) (by kernel_rfl) (by kernel_rfl) (UpTo.all UpTo.zero (by kernel_rfl) (by kernel_rfl)) (fun _ => rfl) shape_isSpec_eq, sig_rec (X := xt) (g := g_shape_each_4) (H := h_shape_each_4) (env := e_shape_each_4) (c := bodyOf Tryd.f75) xt_ok mixed (fun k hk => (AllOk.cons (ih k hk).2.2.1 AllOk.nil)) Tryd.func75 (by kernel_rfl) (by kernel_rfl) (by kernel_rfl) (UpTo.all (UpTo.zero.succ l_shape_each_4_0 (by kernel_rfl) (fun _ => rfl) shape_each_4_l0_eq) (by kernel_rfl) (by kernel_rfl)) (fun _ => rfl) shape_each_4_eq, sig_rec (X := xt) (g := g_shape_isSig) (H := h_shape_isSig) (env := e_shape_isSig) (c := bodyOf Tryd.f59) xt_ok mixed (fun k hk => (AllOk.cons (shape_bare_ok k) (AllOk.cons (ih k hk).2.2.2.1 (AllOk.cons (names_Check_ok k) (AllOk.cons (shape_kids_ok k) (AllOk.cons (names_Long_ok k) (AllOk.cons (ih k hk).1 AllOk.nil))))))) Tryd.func59 (by kernel_rfl) (by kernel_rfl) (by kernel_rfl) (UpTo.all UpTo.zero (by kernel_rfl) (by kernel_rfl)) (fun _ => rfl) shape_isSig_eq⟩
theorem shape_kids_10_ok (K : Nat) : SigOk Tryd.prog g_shape_kids_10 K := (shape_kids_10_all K).1
theorem shape_kids_9_ok (K : Nat) : SigOk Tryd.prog g_shape_kids_9 K := (shape_kids_10_all K).2.1
theorem shape_isSpec_ok (K : Nat) : SigOk Tryd.prog g_shape_isSpec K := (shape_kids_10_all K).2.2.1
theorem shape_each_4_ok (K : Nat) : SigOk Tryd.prog g_shape_each_4 K := (shape_kids_10_all K).2.2.2.1
theorem shape_isSig_ok (K : Nat) : SigOk Tryd.prog g_shape_isSig K := (shape_kids_10_all K).2.2.2.2
def g_shape_kids_8 : Sig := { fid := 70, Γ := [.tree], args := [(.var 0), (.slc [(.fn 58 [] []), (.fn 59 [] [])] 2 true)], sto := [], nk := 0, nr := 0, Δ := [.bool], res := (.var 0), sto' := [], nk' := 0, f := fun k x => shape_kids_8 k x }
def g_shape_kids_7 : Sig := { fid := 70, Γ := [.tree], args := [(.var 0), (.slc [(.fn 58 [] [])] 1 true)], sto := [], nk := 0, nr := 0, Δ := [.bool], res := (.var 0), sto' := [], nk' := 0, f := fun k x => shape_kids_7 k x }
def g_shape_isInner : Sig := { fid := 89, Γ := [.tree], args := [(.var 0)], sto := [], nk := 0, nr := 0, Δ := [.bool], res := (.var 0), sto' := [], nk' := 0, f := fun k x => shape_isInner k x }
def g_shape_each_3 : Sig := { fid := 75, Γ := [.tree, (.int .i64)], args := [(.var 0), (.var 1), (.fn 89 [] [])], sto := [], nk := 0, nr := 0, Δ := [.bool], res := (.var 0), sto' := [], nk' := 0, f := fun k x => shape_each_3 k x.1 x.2 }
def g_shape_isMod : Sig := { fid := 58, Γ := [.tree], args := [(.var 0)], sto := [], nk := 0, nr := 0, Δ := [.bool], res := (.var 0), sto' := [], nk' := 0, f := fun k x => shape_isMod k x }
def h_shape_kids_8 : Hints (Bool) := { keep := [], ord := [], loops := [], unr := [(4, 13)], adr := [], cuts := [] }
def e_shape_kids_8 : List Sig := [g_shape_isMod, g_shape_isSig]
set_option maxRecDepth 100000 in
theorem shape_kids_8_eq (k : Nat) (x : Tr) : shape_kids_8 (k + 1) x = fx xt e_shape_kids_8 g_shape_kids_8 Tryd.f70 h_shape_kids_8 (bodyOf Tryd.f70) k x := (shape_kids_8.eq_def (k + 1) x).trans (by kernel_rfl)
def h_shape_kids_7 : Hints (Bool) := { keep := [], ord := [], loops := [], unr := [(4, 13)], adr := [], cuts := [] }
def e_shape_kids_7 : List Sig := [g_shape_isMod]
set_option maxRecDepth 100000 in
theorem shape_kids_7_eq (k : Nat) (x : Tr) : shape_kids_7 (k + 1) x = fx xt e_shape_kids_7 g_shape_kids_7 Tryd.f70 h_shape_kids_7 (bodyOf Tryd.f70) k x := (shape_kids_7.eq_def (k + 1) x).trans (by kernel_rfl)
def c_shape_isInner_0 : LH (Bool) := { Γ := [.tree], live := [(0, (.var 0))], sto := [], nk := 0, ad := [], F := fun k x => shape_isInner_c0 k x }
def h_shape_isInner : Hints (Bool) := { keep := [], ord := [], loops := [], unr := [], adr := [], cuts := [(7, c_shape_isInner_0)] }
def e_shape_isInner : List Sig := [g_shape_bare, g_names_Long, g_shape_kids, g_names_Check, g_shape_kids_6, g_shape_kids_4, g_shape_kids_3, g_shape_cons, g_shape_kids_7]
set_option maxRecDepth 100000 in
theorem shape_isInner_eq (k : Nat) (x : Tr) : shape_isInner (k + 1) x = fx xt e_shape_isInner g_shape_isInner Tryd.f89 h_shape_isInner (bodyOf Tryd.f89) k x := (shape_isInner.eq_def (k + 1) x).trans (by kernel_rfl)
set_option maxRecDepth 100000 in
theorem shape_isInner_c0_eq (k : Nat) (x : Tr) : shape_isInner_c0 (k + 1) x = lrhs xt e_shape_isInner 56 0 h_shape_isInner (bodyOf Tryd.f89) (retK xt.T Tryd.f89.results g_shape_isInner) 0 c_shape_isInner_0 k x := (shape_isInner_c0.eq_def (k + 1) x).trans (by kernel_rfl)
def l_shape_each_3_0 : LH (Bool) := { Γ := [(.list false .tree), (.int .i64)], live := [(2, (.fn 89 [] [])), (14, (.var 0)), (15, (.len 0)), (16, (.var 1))], sto := [], nk := 0, ad := [], F := fun k x => shape_each_3_l0 k x.1 x.2 }
def h_shape_each_3 : Hints (Bool) := { keep := [], ord := [], loops := [(2, l_shape_each_3_0)], unr := [], adr := [], cuts := [] }
def e_shape_each_3 : List Sig := [g_shape_isInner]
set_option maxRecDepth 100000 in
theorem shape_each_3_eq (k : Nat) (x : Tr × Int) : shape_each_3 (k + 1) x.1 x.2 = fx xt e_shape_each_3 g_shape_each_3 Tryd.f75 h_shape_each_3 (bodyOf Tryd.f75) k x := (shape_each_3.eq_def (k + 1) x.1 x.2).trans (by kernel_rfl)
set_option maxRecDepth 100000 in
theorem shape_each_3_l0_eq (k : Nat) (x : (List Tr) × Int) : shape_each_3_l0 (k + 1) x.1 x.2 = lrhs xt e_shape_each_3 25 0 h_shape_each_3 (bodyOf Tryd.f75) (retK xt.T Tryd.f75.results g_shape_each_3) 0 l_shape_each_3_0 k x := (shape_each_3_l0.eq_def (k + 1) x.1 x.2).trans (by kernel_rfl)
def h_shape_isMod : Hints (Bool) := { keep := [], ord := [], loops := [], unr := [], adr := [], cuts := [] }
def e_shape_isMod : List Sig := [g_shape_bare, g_shape_each_3, g_names_Long, g_shape_kids, g_names_Check, g_shape_kids_7, g_shape_kids_8]
set_option maxRecDepth 100000 in
theorem shape_isMod_eq (k : Nat) (x : Tr) : shape_isMod (k + 1) x = fx xt e_shape_isMod g_shape_isMod Tryd.f58 h_shape_isMod (bodyOf Tryd.f58) k x := (shape_isMod.eq_def (k + 1) x).trans (by kernel_rfl)
theorem shape_kids_8_all (K : Nat) : SigOk Tryd.prog g_shape_kids_8 K ∧ SigOk Tryd.prog g_shape_kids_7 K ∧ SigOk Tryd.prog g_shape_isInner K ∧ SigOk Tryd.prog g_shape_each_3 K ∧ SigOk Tryd.prog g_shape_isMod K := by
  induction K using Nat.strongRecOn with
  | ind K ih => exact ⟨sig_rec (X := xt) (g := g_shape_kids_8) (H := h_shape_kids_8) (env := e_shape_kids_8) (c := bodyOf Tryd.f70) xt_ok mixed (fun k hk => (AllOk.cons (ih k hk).2.2.2.2 (AllOk.cons (shape_isSig_ok k) AllOk.nil))) Tryd.func70 (by kernel_rfl) (by kernel_rfl) (by kernel_rfl) (UpTo.all UpTo.zero (by kernel_rfl) (by kernel_rfl)) (fun _ => rfl) shape_kids_8_eq, sig_rec (X := xt) (g := g_shape_kids_7) (H := h_shape_kids_7) (env := e_shape_kids_7) (c := bodyOf Tryd.f70) xt_ok mixed (fun k hk => (AllOk.cons (ih k hk).2.2.2.2 AllOk.nil)) Tryd.func70 (by kernel_rfl) (by kernel_rfl) (by kernel_rfl) (UpTo.all UpTo.zero (by kernel_rfl) (by kernel_rfl)) (fun _ => rfl) shape_kids_7_eq, sig_rec (X := xt) (g := g_shape_isInner) (H := h_shape_isInner) (env := e_shape_isInner) (c := bodyOf Tryd.f89) xt_ok mixed (fun k hk => (AllOk.cons (shape_bare_ok k) (AllOk.cons (names_Long_ok k) (AllOk.cons (shape_kids_ok k) (AllOk.cons (names_Check_ok k) (AllOk.cons (shape_kids_6_ok k) (AllOk.cons (shape_kids_4_ok k) (AllOk.cons (shape_kids_3_ok k) (AllOk.cons (shape_cons_ok k) (AllOk.cons (ih k hk).2.1 AllOk.nil)))))))))) Tryd.func89 (by kernel_rfl) (by kernel_rfl) (by kernel_rfl) (UpTo.all (UpTo.zero.succ c_shape_isInner_0 (by kernel_rfl) (fun _ => rfl) shape_isInner_c0_eq) (by kernel_rfl) (by kernel_rfl)) (fun _ => rfl) shape_isInner_eq, sig_rec (X := xt) (g := g_shape_each_3) (H := h_shape_each_3) (env := e_shape_each_3) (c := bodyOf Tryd.f75) xt_ok mixed (fun k hk => (AllOk.cons (ih k hk).2.2.1 AllOk.nil)) Tryd.func75 (by kernel_rfl) (by kernel_rfl) (by kernel_rfl) (UpTo.all (UpTo.zero.succ l_shape_each_3_0 (by kernel_rfl) (fun _ => rfl) shape_each_3_l0_eq) (by kernel_rfl) (by kernel_rfl)) (fun _ => rfl) shape_each_3_eq, sig_rec (X := xt) (g := g_shape_isMod) (H := h_shape_isMod) (env := e_shape_isMod) (c := bodyOf Tryd.f58) xt_ok mixed (fun k hk => (AllOk.cons (shape_bare_ok k) (AllOk.cons (ih k hk).2.2.2.1 (AllOk.cons (names_Long_ok k) (AllOk.cons (shape_kids_ok k) (AllOk.cons (names_Check_ok k) (AllOk.cons (ih k hk).2.1 (AllOk.cons (ih k hk).1 AllOk.nil)))))))) Tryd.func58 (by kernel_rfl) (by kernel_rfl) (by kernel_rfl) (UpTo.all UpTo.zero (by kernel_rfl) (by kernel_rfl)) (fun _ => rfl) shape_isMod_eq⟩
theorem shape_kids_8_ok (K : Nat) : SigOk Tryd.prog g_shape_kids_8 K := (shape_kids_8_all K).1
theorem shape_kids_7_ok (K : Nat) : SigOk Tryd.prog g_shape_kids_7 K := (shape_kids_8_all K).2.1
theorem shape_isInner_ok (K : Nat) : SigOk Tryd.prog g_shape_isInner K := (shape_kids_8_all K).2.2.1
theorem shape_each_3_ok (K : Nat) : SigOk Tryd.prog g_shape_each_3 K := (shape_kids_8_all K).2.2.2.1
theorem shape_isMod_ok (K : Nat) : SigOk Tryd.prog g_shape_isMod K := (shape_kids_8_all K).2.2.2.2
def g_shape_check_3 : Sig := { fid := 39, Γ := [.tree], args := [(.var 0), (.fn 58 [] [])], sto := [], nk := 0, nr := 0, Δ := [(.int .i64)], res := (.var 0), sto' := [], nk' := 0, f := fun k x => shape_check_3 k x }
def h_shape_check_3 : Hints (Int) := { keep := [], ord := [], loops := [], unr := [], adr := [], cuts := [] }
def e_shape_check_3 : List Sig := [g_arena_Pack, g_arena_Deep, g_shape_isMod]
set_option maxRecDepth 100000 in
theorem shape_check_3_eq (k : Nat) (x : Tr) : shape_check_3 k x = fx xt e_shape_check_3 g_shape_check_3 Tryd.f39 h_shape_check_3 (bodyOf Tryd.f39) k x := by kernel_rfl
theorem shape_check_3_ok (K : Nat) : SigOk Tryd.prog g_shape_check_3 K := sig_fun (X := xt) (g := g_shape_check_3) (H := h_shape_check_3) (env := e_shape_check_3) (c := bodyOf Tryd.f39) xt_ok mixed (fun k => (AllOk.cons (arena_Pack_ok k) (AllOk.cons (arena_Deep_ok k) (AllOk.cons (shape_isMod_ok k) AllOk.nil)))) Tryd.func39 (by kernel_rfl) (by kernel_rfl) (by kernel_rfl) (UpTo.all UpTo.zero (by kernel_rfl) (by kernel_rfl)) shape_check_3_eq K
def g_shape_Mod : Sig := { fid := 32, Γ := [.tree], args := [(.var 0)], sto := [], nk := 0, nr := 0, Δ := [(.int .i64)], res := (.var 0), sto' := [], nk' := 0, f := fun k x => shape_Mod k x }
def h_shape_Mod : Hints (Int) := { keep := [], ord := [], loops := [], unr := [], adr := [], cuts := [] }
def e_shape_Mod : List Sig := [g_shape_check_3]
set_option maxRecDepth 100000 in
theorem shape_Mod_eq (k : Nat) (x : Tr) : shape_Mod k x = fx xt e_shape_Mod g_shape_Mod Tryd.f32 h_shape_Mod (bodyOf Tryd.f32) k x := by kernel_rfl
theorem shape_Mod_ok (K : Nat) : SigOk Tryd.prog g_shape_Mod K := sig_fun (X := xt) (g := g_shape_Mod) (H := h_shape_Mod) (env := e_shape_Mod) (c := bodyOf Tryd.f32) xt_ok mixed (fun k => (AllOk.cons (shape_check_3_ok k) AllOk.nil)) Tryd.func32 (by kernel_rfl) (by kernel_rfl) (by kernel_rfl) (UpTo.all UpTo.zero (by kernel_rfl) (by kernel_rfl)) shape_Mod_eq K
def g_shape_check_4 : Sig := { fid := 39, Γ := [.tree], args := [(.var 0), (.fn 59 [] [])], sto := [], nk := 0, nr := 0, Δ := [(.int .i64)], res := (.var 0), sto' := [], nk' := 0, f := fun k x => shape_check_4 k x }
def h_shape_check_4 : Hints (Int) := { keep := [], ord := [], loops := [], unr := [], adr := [], cuts := [] }
def e_shape_check_4 : List Sig := [g_arena_Pack, g_arena_Deep, g_shape_isSig]
set_option maxRecDepth 100000 in
theorem shape_check_4_eq (k : Nat) (x : Tr) : shape_check_4 k x = fx xt e_shape_check_4 g_shape_check_4 Tryd.f39 h_shape_check_4 (bodyOf Tryd.f39) k x := by kernel_rfl
theorem shape_check_4_ok (K : Nat) : SigOk Tryd.prog g_shape_check_4 K := sig_fun (X := xt) (g := g_shape_check_4) (H := h_shape_check_4) (env := e_shape_check_4) (c := bodyOf Tryd.f39) xt_ok mixed (fun k => (AllOk.cons (arena_Pack_ok k) (AllOk.cons (arena_Deep_ok k) (AllOk.cons (shape_isSig_ok k) AllOk.nil)))) Tryd.func39 (by kernel_rfl) (by kernel_rfl) (by kernel_rfl) (UpTo.all UpTo.zero (by kernel_rfl) (by kernel_rfl)) shape_check_4_eq K
def g_shape_Sig : Sig := { fid := 33, Γ := [.tree], args := [(.var 0)], sto := [], nk := 0, nr := 0, Δ := [(.int .i64)], res := (.var 0), sto' := [], nk' := 0, f := fun k x => shape_Sig k x }
def h_shape_Sig : Hints (Int) := { keep := [], ord := [], loops := [], unr := [], adr := [], cuts := [] }
def e_shape_Sig : List Sig := [g_shape_check_4]
set_option maxRecDepth 100000 in
theorem shape_Sig_eq (k : Nat) (x : Tr) : shape_Sig k x = fx xt e_shape_Sig g_shape_Sig Tryd.f33 h_shape_Sig (bodyOf Tryd.f33) k x := by kernel_rfl
theorem shape_Sig_ok (K : Nat) : SigOk Tryd.prog g_shape_Sig K := sig_fun (X := xt) (g := g_shape_Sig) (H := h_shape_Sig) (env := e_shape_Sig) (c := bodyOf Tryd.f33) xt_ok mixed (fun k => (AllOk.cons (shape_check_4_ok k) AllOk.nil)) Tryd.func33 (by kernel_rfl) (by kernel_rfl) (by kernel_rfl) (UpTo.all UpTo.zero (by kernel_rfl) (by kernel_rfl)) shape_Sig_eq K
def g_shape_check_5 : Sig := { fid := 39, Γ := [.tree], args := [(.var 0), (.fn 60 [] [])], sto := [], nk := 0, nr := 0, Δ := [(.int .i64)], res := (.var 0), sto' := [], nk' := 0, f := fun k x => shape_check_5 k x }
def h_shape_check_5 : Hints (Int) := { keep := [], ord := [], loops := [], unr := [], adr := [], cuts := [] }
def e_shape_check_5 : List Sig := [g_arena_Pack, g_arena_Deep, g_shape_isSpec]
set_option maxRecDepth 100000 in
theorem shape_check_5_eq (k : Nat) (x : Tr) : shape_check_5 k x = fx xt e_shape_check_5 g_shape_check_5 Tryd.f39 h_shape_check_5 (bodyOf Tryd.f39) k x := by kernel_rfl
theorem shape_check_5_ok (K : Nat) : SigOk Tryd.prog g_shape_check_5 K := sig_fun (X := xt) (g := g_shape_check_5) (H := h_shape_check_5) (env := e_shape_check_5) (c := bodyOf Tryd.f39) xt_ok mixed (fun k => (AllOk.cons (arena_Pack_ok k) (AllOk.cons (arena_Deep_ok k) (AllOk.cons (shape_isSpec_ok k) AllOk.nil)))) Tryd.func39 (by kernel_rfl) (by kernel_rfl) (by kernel_rfl) (UpTo.all UpTo.zero (by kernel_rfl) (by kernel_rfl)) shape_check_5_eq K
def g_shape_Spec : Sig := { fid := 34, Γ := [.tree], args := [(.var 0)], sto := [], nk := 0, nr := 0, Δ := [(.int .i64)], res := (.var 0), sto' := [], nk' := 0, f := fun k x => shape_Spec k x }
def h_shape_Spec : Hints (Int) := { keep := [], ord := [], loops := [], unr := [], adr := [], cuts := [] }
def e_shape_Spec : List Sig := [g_shape_check_5]
set_option maxRecDepth 100000 in
theorem shape_Spec_eq (k : Nat) (x : Tr) : shape_Spec k x = fx xt e_shape_Spec g_shape_Spec Tryd.f34 h_shape_Spec (bodyOf Tryd.f34) k x := by kernel_rfl
theorem shape_Spec_ok (K : Nat) : SigOk Tryd.prog g_shape_Spec K := sig_fun (X := xt) (g := g_shape_Spec) (H := h_shape_Spec) (env := e_shape_Spec) (c := bodyOf Tryd.f34) xt_ok mixed (fun k => (AllOk.cons (shape_check_5_ok k) AllOk.nil)) Tryd.func34 (by kernel_rfl) (by kernel_rfl) (by kernel_rfl) (UpTo.all UpTo.zero (by kernel_rfl) (by kernel_rfl)) shape_Spec_eq K
def g_shape_kids_11 : Sig := { fid := 70, Γ := [.tree], args := [(.var 0), (.slc [(.fn 59 [] []), (.fn 58 [] [])] 2 true)], sto := [], nk := 0, nr := 0, Δ := [.bool], res := (.var 0), sto' := [], nk' := 0, f := fun k x => shape_kids_11 k x }
def h_shape_kids_11 : Hints (Bool) := { keep := [], ord := [], loops := [], unr := [(4, 13)], adr := [], cuts := [] }
def e_shape_kids_11 : List Sig := [g_shape_isSig, g_shape_isMod]
set_option maxRecDepth 100000 in
theorem shape_kids_11_eq (k : Nat) (x : Tr) : shape_kids_11 k x = fx xt e_shape_kids_11 g_shape_kids_11 Tryd.f70 h_shape_kids_11 (bodyOf Tryd.f70) k x := by kernel_rfl
theorem shape_kids_11_ok (K : Nat) : SigOk Tryd.prog g_shape_kids_11 K := sig_fun (X := xt) (g := g_shape_kids_11) (H := h_shape_kids_11) (env := e_shape_kids_11) (c := bodyOf Tryd.f70) xt_ok mixed (fun k => (AllOk.cons (shape_isSig_ok k) (AllOk.cons (shape_isMod_ok k) AllOk.nil))) Tryd.func70 (by kernel_rfl) (by kernel_rfl) (by kernel_rfl) (UpTo.all UpTo.zero (by kernel_rfl) (by kernel_rfl)) shape_kids_11_eq K
def g_shape_isDecl : Sig := { fid := 61, Γ := [.tree], args := [(.var 0)], sto := [], nk := 0, nr := 0, Δ := [.bool], res := (.var 0), sto' := [], nk' := 0, f := fun k x => shape_isDecl k x }
def h_shape_isDecl : Hints (Bool) := { keep := [], ord := [], loops := [], unr := [], adr := [], cuts := [] }
def e_shape_isDecl : List Sig := [g_shape_bare, g_names_Check, g_shape_kids_9, g_shape_kids_11, g_shape_isInner]
set_option maxRecDepth 100000 in
theorem shape_isDecl_eq (k : Nat) (x : Tr) : shape_isDecl k x = fx xt e_shape_isDecl g_shape_isDecl Tryd.f61 h_shape_isDecl (bodyOf Tryd.f61) k x := by kernel_rfl
theorem shape_isDecl_ok (K : Nat) : SigOk Tryd.prog g_shape_isDecl K := sig_fun (X := xt) (g := g_shape_isDecl) (H := h_shape_isDecl) (env := e_shape_isDecl) (c := bodyOf Tryd.f61) xt_ok mixed (fun k => (AllOk.cons (shape_bare_ok k) (AllOk.cons (names_Check_ok k) (AllOk.cons (shape_kids_9_ok k) (AllOk.cons (shape_kids_11_ok k) (AllOk.cons (shape_isInner_ok k) AllOk.nil)))))) Tryd.func61 (by kernel_rfl) (by kernel_rfl) (by kernel_rfl) (UpTo.all UpTo.zero (by kernel_rfl) (by kernel_rfl)) shape_isDecl_eq K
def g_shape_check_6 : Sig := { fid := 39, Γ := [.tree], args := [(.var 0), (.fn 61 [] [])], sto := [], nk := 0, nr := 0, Δ := [(.int .i64)], res := (.var 0), sto' := [], nk' := 0, f := fun k x => shape_check_6 k x }
def h_shape_check_6 : Hints (Int) := { keep := [], ord := [], loops := [], unr := [], adr := [], cuts := [] }
def e_shape_check_6 : List Sig := [g_arena_Pack, g_arena_Deep, g_shape_isDecl]
set_option maxRecDepth 100000 in
theorem shape_check_6_eq (k : Nat) (x : Tr) : shape_check_6 k x = fx xt e_shape_check_6 g_shape_check_6 Tryd.f39 h_shape_check_6 (bodyOf Tryd.f39) k x := by kernel_rfl
theorem shape_check_6_ok (K : Nat) : SigOk Tryd.prog g_shape_check_6 K := sig_fun (X := xt) (g := g_shape_check_6) (H := h_shape_check_6) (env := e_shape_check_6) (c := bodyOf Tryd.f39) xt_ok mixed (fun k => (AllOk.cons (arena_Pack_ok k) (AllOk.cons (arena_Deep_ok k) (AllOk.cons (shape_isDecl_ok k) AllOk.nil)))) Tryd.func39 (by kernel_rfl) (by kernel_rfl) (by kernel_rfl) (UpTo.all UpTo.zero (by kernel_rfl) (by kernel_rfl)) shape_check_6_eq K
def g_shape_Decl : Sig := { fid := 35, Γ := [.tree], args := [(.var 0)], sto := [], nk := 0, nr := 0, Δ := [(.int .i64)], res := (.var 0), sto' := [], nk' := 0, f := fun k x => shape_Decl k x }
def h_shape_Decl : Hints (Int) := { keep := [], ord := [], loops := [], unr := [], adr := [], cuts := [] }
def e_shape_Decl : List Sig := [g_shape_check_6]
set_option maxRecDepth 100000 in
theorem shape_Decl_eq (k : Nat) (x : Tr) : shape_Decl k x = fx xt e_shape_Decl g_shape_Decl Tryd.f35 h_shape_Decl (bodyOf Tryd.f35) k x := by kernel_rfl
theorem shape_Decl_ok (K : Nat) : SigOk Tryd.prog g_shape_Decl K := sig_fun (X := xt) (g := g_shape_Decl) (H := h_shape_Decl) (env := e_shape_Decl) (c := bodyOf Tryd.f35) xt_ok mixed (fun k => (AllOk.cons (shape_check_6_ok k) AllOk.nil)) Tryd.func35 (by kernel_rfl) (by kernel_rfl) (by kernel_rfl) (UpTo.all UpTo.zero (by kernel_rfl) (by kernel_rfl)) shape_Decl_eq K
def g_shape_each_5 : Sig := { fid := 75, Γ := [.tree, (.int .i64)], args := [(.var 0), (.var 1), (.fn 61 [] [])], sto := [], nk := 0, nr := 0, Δ := [.bool], res := (.var 0), sto' := [], nk' := 0, f := fun k x => shape_each_5 k x.1 x.2 }
def l_shape_each_5_0 : LH (Bool) := { Γ := [(.list false .tree), (.int .i64)], live := [(2, (.fn 61 [] [])), (14, (.var 0)), (15, (.len 0)), (16, (.var 1))], sto := [], nk := 0, ad := [], F := fun k x => shape_each_5_l0 k x.1 x.2 }
def h_shape_each_5 : Hints (Bool) := { keep := [], ord := [], loops := [(2, l_shape_each_5_0)], unr := [], adr := [], cuts := [] }
def e_shape_each_5 : List Sig := [g_shape_isDecl]
set_option maxRecDepth 100000 in
theorem shape_each_5_eq (k : Nat) (x : Tr × Int) : shape_each_5 k x.1 x.2 = fx xt e_shape_each_5 g_shape_each_5 Tryd.f75 h_shape_each_5 (bodyOf Tryd.f75) k x := by kernel_rfl
set_option maxRecDepth 100000 in
theorem shape_each_5_l0_eq (k : Nat) (x : (List Tr) × Int) : shape_each_5_l0 (k + 1) x.1 x.2 = lrhs xt e_shape_each_5 25 0 h_shape_each_5 (bodyOf Tryd.f75) (retK xt.T Tryd.f75.results g_shape_each_5) 0 l_shape_each_5_0 k x := (shape_each_5_l0.eq_def (k + 1) x.1 x.2).trans (by kernel_rfl)
theorem shape_each_5_ok (K : Nat) : SigOk Tryd.prog g_shape_each_5 K := sig_fun (X := xt) (g := g_shape_each_5) (H := h_shape_each_5) (env := e_shape_each_5) (c := bodyOf Tryd.f75) xt_ok mixed (fun k => (AllOk.cons (shape_isDecl_ok k) AllOk.nil)) Tryd.func75 (by kernel_rfl) (by kernel_rfl) (by kernel_rfl) (UpTo.all (UpTo.zero.succ l_shape_each_5_0 (by kernel_rfl) (fun _ => rfl) shape_each_5_l0_eq) (by kernel_rfl) (by kernel_rfl)) shape_each_5_eq K
def g_shape_isProg : Sig := { fid := 41, Γ := [.tree], args := [(.var 0)], sto := [], nk := 0, nr := 0, Δ := [.bool], res := (.var 0), sto' := [], nk' := 0, f := fun k x => shape_isProg k x }
def h_shape_isProg : Hints (Bool) := { keep := [], ord := [], loops := [], unr := [], adr := [], cuts := [] }
def e_shape_isProg : List Sig := [g_shape_bare, g_shape_each_5]
set_option maxRecDepth 100000 in
theorem shape_isProg_eq (k : Nat) (x : Tr) : shape_isProg k x = fx xt e_shape_isProg g_shape_isProg Tryd.f41 h_shape_isProg (bodyOf Tryd.f41) k x := by kernel_rfl
theorem shape_isProg_ok (K : Nat) : SigOk Tryd.prog g_shape_isProg K := sig_fun (X := xt) (g := g_shape_isProg) (H := h_shape_isProg) (env := e_shape_isProg) (c := bodyOf Tryd.f41) xt_ok mixed (fun k => (AllOk.cons (shape_bare_ok k) (AllOk.cons (shape_each_5_ok k) AllOk.nil))) Tryd.func41 (by kernel_rfl) (by kernel_rfl) (by kernel_rfl) (UpTo.all UpTo.zero (by kernel_rfl) (by kernel_rfl)) shape_isProg_eq K
def g_shape_check_7 : Sig := { fid := 39, Γ := [.tree], args := [(.var 0), (.fn 41 [] [])], sto := [], nk := 0, nr := 0, Δ := [(.int .i64)], res := (.var 0), sto' := [], nk' := 0, f := fun k x => shape_check_7 k x }
def h_shape_check_7 : Hints (Int) := { keep := [], ord := [], loops := [], unr := [], adr := [], cuts := [] }
def e_shape_check_7 : List Sig := [g_arena_Pack, g_arena_Deep, g_shape_isProg]
set_option maxRecDepth 100000 in
theorem shape_check_7_eq (k : Nat) (x : Tr) : shape_check_7 k x = fx xt e_shape_check_7 g_shape_check_7 Tryd.f39 h_shape_check_7 (bodyOf Tryd.f39) k x := by kernel_rfl
theorem shape_check_7_ok (K : Nat) : SigOk Tryd.prog g_shape_check_7 K := sig_fun (X := xt) (g := g_shape_check_7) (H := h_shape_check_7) (env := e_shape_check_7) (c := bodyOf Tryd.f39) xt_ok mixed (fun k => (AllOk.cons (arena_Pack_ok k) (AllOk.cons (arena_Deep_ok k) (AllOk.cons (shape_isProg_ok k) AllOk.nil)))) Tryd.func39 (by kernel_rfl) (by kernel_rfl) (by kernel_rfl) (UpTo.all UpTo.zero (by kernel_rfl) (by kernel_rfl)) shape_check_7_eq K
def g_shape_Prog : Sig := { fid := 17, Γ := [.tree], args := [(.var 0)], sto := [], nk := 0, nr := 0, Δ := [(.int .i64)], res := (.var 0), sto' := [], nk' := 0, f := fun k x => shape_Prog k x }
def h_shape_Prog : Hints (Int) := { keep := [], ord := [], loops := [], unr := [], adr := [], cuts := [] }
def e_shape_Prog : List Sig := [g_shape_check_7]
set_option maxRecDepth 100000 in
theorem shape_Prog_eq (k : Nat) (x : Tr) : shape_Prog k x = fx xt e_shape_Prog g_shape_Prog Tryd.f17 h_shape_Prog (bodyOf Tryd.f17) k x := by kernel_rfl
theorem shape_Prog_ok (K : Nat) : SigOk Tryd.prog g_shape_Prog K := sig_fun (X := xt) (g := g_shape_Prog) (H := h_shape_Prog) (env := e_shape_Prog) (c := bodyOf Tryd.f17) xt_ok mixed (fun k => (AllOk.cons (shape_check_7_ok k) AllOk.nil)) Tryd.func17 (by kernel_rfl) (by kernel_rfl) (by kernel_rfl) (UpTo.all UpTo.zero (by kernel_rfl) (by kernel_rfl)) shape_Prog_eq K
def g_law05_all : Sig := { fid := 13, Γ := [.tree], args := [(.var 0)], sto := [], nk := 0, nr := 0, Δ := [(.list false (.int .i64))], res := (.var 0), sto' := [], nk' := 0, f := fun k x => law05_all k x }
def h_law05_all : Hints ((List Int)) := { keep := [], ord := [], loops := [], unr := [], adr := [], cuts := [] }
def e_law05_all : List Sig := [g_shape_Type, g_shape_Expr, g_shape_Mod, g_shape_Sig, g_shape_Spec, g_shape_Decl, g_shape_Prog]
set_option maxRecDepth 100000 in
theorem law05_all_eq (k : Nat) (x : Tr) : law05_all k x = fx xt e_law05_all g_law05_all Tryd.f13 h_law05_all (bodyOf Tryd.f13) k x := by kernel_rfl
theorem law05_all_ok (K : Nat) : SigOk Tryd.prog g_law05_all K := sig_fun (X := xt) (g := g_law05_all) (H := h_law05_all) (env := e_law05_all) (c := bodyOf Tryd.f13) xt_ok mixed (fun k => (AllOk.cons (shape_Type_ok k) (AllOk.cons (shape_Expr_ok k) (AllOk.cons (shape_Mod_ok k) (AllOk.cons (shape_Sig_ok k) (AllOk.cons (shape_Spec_ok k) (AllOk.cons (shape_Decl_ok k) (AllOk.cons (shape_Prog_ok k) AllOk.nil)))))))) Tryd.func13 (by kernel_rfl) (by kernel_rfl) (by kernel_rfl) (UpTo.all UpTo.zero (by kernel_rfl) (by kernel_rfl)) law05_all_eq K
def g_ref04_hole : Sig := { fid := 62, Γ := [.tree], args := [(.var 0)], sto := [], nk := 0, nr := 0, Δ := [.bool], res := (.var 0), sto' := [], nk' := 0, f := fun k x => ref04_hole k x }
def l_ref04_hole_0 : LH (Bool) := { Γ := [.tree, (.int .i64)], live := [(0, (.var 0)), (3, (.var 1))], sto := [], nk := 0, ad := [], F := fun k x => ref04_hole_l0 k x.1 x.2 }
def h_ref04_hole : Hints (Bool) := { keep := [], ord := [], loops := [(4, l_ref04_hole_0)], unr := [], adr := [], cuts := [] }
def e_ref04_hole : List Sig := [g_ref04_hole]
set_option maxRecDepth 100000 in
theorem ref04_hole_eq (k : Nat) (x : Tr) : ref04_hole (k + 1) x = fx xt e_ref04_hole g_ref04_hole Tryd.f62 h_ref04_hole (bodyOf Tryd.f62) k x := (ref04_hole.eq_def (k + 1) x).trans (by kernel_rfl)
set_option maxRecDepth 100000 in
theorem ref04_hole_l0_eq (k : Nat) (x : Tr × Int) : ref04_hole_l0 (k + 1) x.1 x.2 = lrhs xt e_ref04_hole 23 0 h_ref04_hole (bodyOf Tryd.f62) (retK xt.T Tryd.f62.results g_ref04_hole) 0 l_ref04_hole_0 k x := (ref04_hole_l0.eq_def (k + 1) x.1 x.2).trans (by kernel_rfl)
theorem ref04_hole_all (K : Nat) : SigOk Tryd.prog g_ref04_hole K := by
  induction K using Nat.strongRecOn with
  | ind K ih => exact sig_rec (X := xt) (g := g_ref04_hole) (H := h_ref04_hole) (env := e_ref04_hole) (c := bodyOf Tryd.f62) xt_ok mixed (fun k hk => (AllOk.cons (ih k hk) AllOk.nil)) Tryd.func62 (by kernel_rfl) (by kernel_rfl) (by kernel_rfl) (UpTo.all (UpTo.zero.succ l_ref04_hole_0 (by kernel_rfl) (fun _ => rfl) ref04_hole_l0_eq) (by kernel_rfl) (by kernel_rfl)) (fun _ => rfl) ref04_hole_eq
theorem ref04_hole_ok (K : Nat) : SigOk Tryd.prog g_ref04_hole K := (ref04_hole_all K)
def g_ref04_Size : Sig := { fid := 63, Γ := [.tree], args := [(.var 0)], sto := [], nk := 0, nr := 0, Δ := [(.int .i64)], res := (.var 0), sto' := [], nk' := 0, f := fun k x => ref04_Size k x }
def l_ref04_Size_0 : LH (Int) := { Γ := [.tree, (.int .i64), (.int .i64)], live := [(0, (.var 0)), (3, (.var 1)), (4, (.var 2))], sto := [], nk := 0, ad := [], F := fun k x => ref04_Size_l0 k x.1 x.2.1 x.2.2 }
def h_ref04_Size : Hints (Int) := { keep := [], ord := [], loops := [(5, l_ref04_Size_0)], unr := [], adr := [], cuts := [] }
def e_ref04_Size : List Sig := [g_ref04_Size]
set_option maxRecDepth 100000 in
theorem ref04_Size_eq (k : Nat) (x : Tr) : ref04_Size (k + 1) x = fx xt e_ref04_Size g_ref04_Size Tryd.f63 h_ref04_Size (bodyOf Tryd.f63) k x := (ref04_Size.eq_def (k + 1) x).trans (by kernel_rfl)
set_option maxRecDepth 100000 in
theorem ref04_Size_l0_eq (k : Nat) (x : Tr × Int × Int) : ref04_Size_l0 (k + 1) x.1 x.2.1 x.2.2 = lrhs xt e_ref04_Size 27 0 h_ref04_Size (bodyOf Tryd.f63) (retK xt.T Tryd.f63.results g_ref04_Size) 0 l_ref04_Size_0 k x := (ref04_Size_l0.eq_def (k + 1) x.1 x.2.1 x.2.2).trans (by kernel_rfl)
theorem ref04_Size_all (K : Nat) : SigOk Tryd.prog g_ref04_Size K := by
  induction K using Nat.strongRecOn with
  | ind K ih => exact sig_rec (X := xt) (g := g_ref04_Size) (H := h_ref04_Size) (env := e_ref04_Size) (c := bodyOf Tryd.f63) xt_ok mixed (fun k hk => (AllOk.cons (ih k hk) AllOk.nil)) Tryd.func63 (by kernel_rfl) (by kernel_rfl) (by kernel_rfl) (UpTo.all (UpTo.zero.succ l_ref04_Size_0 (by kernel_rfl) (fun _ => rfl) ref04_Size_l0_eq) (by kernel_rfl) (by kernel_rfl)) (fun _ => rfl) ref04_Size_eq
theorem ref04_Size_ok (K : Nat) : SigOk Tryd.prog g_ref04_Size K := (ref04_Size_all K)
def g_ref04_cells : Sig := { fid := 64, Γ := [.tree, (.int .i64)], args := [(.var 0), (.var 1)], sto := [], nk := 0, nr := 0, Δ := [(.list false (.pair (.int .i64) (.pair (.int .i64) (.pair .str (.pair .str (.list false (.int .i64)))))))], res := (.var 0), sto' := [], nk' := 0, f := fun k x => ref04_cells k x.1 x.2 }
def l_ref04_cells_0 : LH ((List (Int × Int × (List UInt8) × (List UInt8) × (List Int)))) := { Γ := [.tree, (.int .i64), (.list false (.pair (.int .i64) (.pair (.int .i64) (.pair .str (.pair .str (.list false (.int .i64))))))), (.int .i64), (.int .i64), (.int .i64), .str, .str, (.list false (.int .i64))], live := [(0, (.var 0)), (1, (.var 1)), (5, (.row 1 2)), (6, (.ref 0 0)), (7, (.var 3))], sto := [(0, (.cells 61 5 [(.var 4), (.var 5), (.var 6), (.var 7), (.row 2 8)] false)), (1, (.list 61 2 none)), (2, (.list 3 8 none))], nk := 3, ad := [.t 5 61 (.pair (.int .i64) (.pair (.int .i64) (.pair .str (.pair .str (.list false (.int .i64)))))), .c 6 4 3 (.int .i64)], F := fun k x => ref04_cells_l0 k x.1 x.2.1 x.2.2.1 x.2.2.2.1 x.2.2.2.2.1 x.2.2.2.2.2.1 x.2.2.2.2.2.2.1 x.2.2.2.2.2.2.2.1 x.2.2.2.2.2.2.2.2 }
def h_ref04_cells : Hints ((List (Int × Int × (List UInt8) × (List UInt8) × (List Int)))) := { keep := [], ord := [(2, [.l 0, .l 1, .l 2, .l 3, .l 4, .l 5, .l 6, .l 7, .l 8, .l 9, .l 10, .l 11, .l 12, .l 13, .l 14, .l 15, .l 16, .h 17, .h 18])], loops := [(4, l_ref04_cells_0)], unr := [], adr := [], cuts := [] }
def e_ref04_cells : List Sig := [g_ref04_cells]
set_option maxRecDepth 100000 in
theorem ref04_cells_eq (k : Nat) (x : Tr × Int) : ref04_cells (k + 1) x.1 x.2 = fx xt e_ref04_cells g_ref04_cells Tryd.f64 h_ref04_cells (bodyOf Tryd.f64) k x := (ref04_cells.eq_def (k + 1) x.1 x.2).trans (by kernel_rfl)
set_option maxRecDepth 100000 in
theorem ref04_cells_l0_eq (k : Nat) (x : Tr × Int × (List (Int × Int × (List UInt8) × (List UInt8) × (List Int))) × Int × Int × Int × (List UInt8) × (List UInt8) × (List Int)) : ref04_cells_l0 (k + 1) x.1 x.2.1 x.2.2.1 x.2.2.2.1 x.2.2.2.2.1 x.2.2.2.2.2.1 x.2.2.2.2.2.2.1 x.2.2.2.2.2.2.2.1 x.2.2.2.2.2.2.2.2 = lrhs xt e_ref04_cells 62 0 h_ref04_cells (bodyOf Tryd.f64) (retK xt.T Tryd.f64.results g_ref04_cells) 0 l_ref04_cells_0 k x := (ref04_cells_l0.eq_def (k + 1) x.1 x.2.1 x.2.2.1 x.2.2.2.1 x.2.2.2.2.1 x.2.2.2.2.2.1 x.2.2.2.2.2.2.1 x.2.2.2.2.2.2.2.1 x.2.2.2.2.2.2.2.2).trans (by kernel_rfl)
theorem ref04_cells_all (K : Nat) : SigOk Tryd.prog g_ref04_cells K := by
  induction K using Nat.strongRecOn with
  | ind K ih => exact sig_rec (X := xt) (g := g_ref04_cells) (H := h_ref04_cells) (env := e_ref04_cells) (c := bodyOf Tryd.f64) xt_ok mixed (fun k hk => (AllOk.cons (ih k hk) AllOk.nil)) Tryd.func64 (by kernel_rfl) (by kernel_rfl) (by kernel_rfl) (UpTo.all (UpTo.zero.succ l_ref04_cells_0 (by kernel_rfl) (fun _ => rfl) ref04_cells_l0_eq) (by kernel_rfl) (by kernel_rfl)) (fun _ => rfl) ref04_cells_eq
theorem ref04_cells_ok (K : Nat) : SigOk Tryd.prog g_ref04_cells K := (ref04_cells_all K)
def g_ref04_Pack : Sig := { fid := 36, Γ := [.tree], args := [(.var 0)], sto := [], nk := 0, nr := 0, Δ := [(.list false (.pair (.int .i64) (.pair (.int .i64) (.pair .str (.pair .str (.list false (.int .i64))))))), (.int .i64)], res := (.tup [(.agg [(.var 0)]), (.var 1)]), sto' := [], nk' := 0, f := fun k x => ref04_Pack k x }
def h_ref04_Pack : Hints ((List (Int × Int × (List UInt8) × (List UInt8) × (List Int))) × Int) := { keep := [], ord := [], loops := [], unr := [], adr := [], cuts := [] }
def e_ref04_Pack : List Sig := [g_ref04_hole, g_ref04_Size, g_ref04_cells]
set_option maxRecDepth 100000 in
theorem ref04_Pack_eq (k : Nat) (x : Tr) : ref04_Pack k x = fx xt e_ref04_Pack g_ref04_Pack Tryd.f36 h_ref04_Pack (bodyOf Tryd.f36) k x := by kernel_rfl
theorem ref04_Pack_ok (K : Nat) : SigOk Tryd.prog g_ref04_Pack K := sig_fun (X := xt) (g := g_ref04_Pack) (H := h_ref04_Pack) (env := e_ref04_Pack) (c := bodyOf Tryd.f36) xt_ok mixed (fun k => (AllOk.cons (ref04_hole_ok k) (AllOk.cons (ref04_Size_ok k) (AllOk.cons (ref04_cells_ok k) AllOk.nil)))) Tryd.func36 (by kernel_rfl) (by kernel_rfl) (by kernel_rfl) (UpTo.all UpTo.zero (by kernel_rfl) (by kernel_rfl)) ref04_Pack_eq K
def g_ref04_Deep : Sig := { fid := 37, Γ := [.tree], args := [(.var 0)], sto := [], nk := 0, nr := 0, Δ := [(.int .i64)], res := (.var 0), sto' := [], nk' := 0, f := fun k x => ref04_Deep k x }
def l_ref04_Deep_0 : LH (Int) := { Γ := [.tree, (.int .i64), (.int .i64)], live := [(0, (.var 0)), (3, (.var 1)), (4, (.var 2))], sto := [], nk := 0, ad := [], F := fun k x => ref04_Deep_l0 k x.1 x.2.1 x.2.2 }
def h_ref04_Deep : Hints (Int) := { keep := [], ord := [], loops := [(5, l_ref04_Deep_0)], unr := [], adr := [], cuts := [] }
def e_ref04_Deep : List Sig := [g_ref04_Deep]
set_option maxRecDepth 100000 in
theorem ref04_Deep_eq (k : Nat) (x : Tr) : ref04_Deep (k + 1) x = fx xt e_ref04_Deep g_ref04_Deep Tryd.f37 h_ref04_Deep (bodyOf Tryd.f37) k x := (ref04_Deep.eq_def (k + 1) x).trans (by kernel_rfl)
set_option maxRecDepth 100000 in
theorem ref04_Deep_l0_eq (k : Nat) (x : Tr × Int × Int) : ref04_Deep_l0 (k + 1) x.1 x.2.1 x.2.2 = lrhs xt e_ref04_Deep 31 0 h_ref04_Deep (bodyOf Tryd.f37) (retK xt.T Tryd.f37.results g_ref04_Deep) 0 l_ref04_Deep_0 k x := (ref04_Deep_l0.eq_def (k + 1) x.1 x.2.1 x.2.2).trans (by kernel_rfl)
theorem ref04_Deep_all (K : Nat) : SigOk Tryd.prog g_ref04_Deep K := by
  induction K using Nat.strongRecOn with
  | ind K ih => exact sig_rec (X := xt) (g := g_ref04_Deep) (H := h_ref04_Deep) (env := e_ref04_Deep) (c := bodyOf Tryd.f37) xt_ok mixed (fun k hk => (AllOk.cons (ih k hk) AllOk.nil)) Tryd.func37 (by kernel_rfl) (by kernel_rfl) (by kernel_rfl) (UpTo.all (UpTo.zero.succ l_ref04_Deep_0 (by kernel_rfl) (fun _ => rfl) ref04_Deep_l0_eq) (by kernel_rfl) (by kernel_rfl)) (fun _ => rfl) ref04_Deep_eq
theorem ref04_Deep_ok (K : Nat) : SigOk Tryd.prog g_ref04_Deep K := (ref04_Deep_all K)
def g_ref05_rows : Sig := { fid := 65, Γ := [], args := [], sto := [], nk := 0, nr := 0, Δ := [(.list false (.pair (.int .i64) (.pair (.int .i64) (.pair .str (.pair .str (.pair (.int .i64) (.pair (.int .i64) .str)))))))], res := (.var 0), sto' := [], nk' := 0, f := fun k _ => ref05_rows k }
def h_ref05_rows : Hints ((List (Int × Int × (List UInt8) × (List UInt8) × Int × Int × (List UInt8)))) := { keep := [], ord := [], loops := [], unr := [], adr := [], cuts := [] }
def e_ref05_rows : List Sig := []
set_option maxRecDepth 100000 in
theorem ref05_rows_eq (k : Nat) (x : Unit) : ref05_rows k = fx xt e_ref05_rows g_ref05_rows Tryd.f65 h_ref05_rows (bodyOf Tryd.f65) k x := by kernel_rfl
theorem ref05_rows_ok (K : Nat) : SigOk Tryd.prog g_ref05_rows K := sig_fun (X := xt) (g := g_ref05_rows) (H := h_ref05_rows) (env := e_ref05_rows) (c := bodyOf Tryd.f65) xt_ok mixed (fun k => AllOk.nil) Tryd.func65 (by kernel_rfl) (by kernel_rfl) (by kernel_rfl) (UpTo.all UpTo.zero (by kernel_rfl) (by kernel_rfl)) ref05_rows_eq K
def g_ref01_next : Sig := { fid := 143, Γ := [.str, (.int .i64)], args := [(.var 0), (.var 1)], sto := [], nk := 0, nr := 0, Δ := [(.int .i32), (.int .i64)], res := (.tup [(.var 0), (.var 1)]), sto' := [], nk' := 0, f := fun k x => ref01_next k x.1 x.2 }
def c_ref01_next_0 : LH (Int × Int) := { Γ := [.str, (.int .i64), (.int .i64), (.int .i64), (.int .i64)], live := [(0, (.var 0)), (1, (.var 1)), (7, (.var 2)), (8, (.var 3)), (9, (.var 4))], sto := [], nk := 0, ad := [], F := fun k x => ref01_next_c0 k x.1 x.2.1 x.2.2.1 x.2.2.2.1 x.2.2.2.2 }
def l_ref01_next_0 : LH (Int × Int) := { Γ := [.str, (.int .i64), (.int .i64), (.int .i64), (.int .i64), (.int .i64)], live := [(0, (.var 0)), (1, (.var 1)), (7, (.var 2)), (8, (.var 3)), (9, (.var 4)), (10, (.var 5))], sto := [], nk := 0, ad := [], F := fun k x => ref01_next_l0 k x.1 x.2.1 x.2.2.1 x.2.2.2.1 x.2.2.2.2.1 x.2.2.2.2.2 }
def h_ref01_next : Hints (Int × Int) := { keep := [], ord := [], loops := [(22, l_ref01_next_0)], unr := [], adr := [], cuts := [(19, c_ref01_next_0)] }
def e_ref01_next : List Sig := []
set_option maxRecDepth 100000 in
theorem ref01_next_eq (k : Nat) (x : (List UInt8) × Int) : ref01_next k x.1 x.2 = fx xt e_ref01_next g_ref01_next Tryd.f143 h_ref01_next (bodyOf Tryd.f143) k x := by kernel_rfl
set_option maxRecDepth 100000 in
theorem ref01_next_c0_eq (k : Nat) (x : (List UInt8) × Int × Int × Int × Int) : ref01_next_c0 (k + 1) x.1 x.2.1 x.2.2.1 x.2.2.2.1 x.2.2.2.2 = lrhs xt e_ref01_next 94 0 h_ref01_next (bodyOf Tryd.f143) (retK xt.T Tryd.f143.results g_ref01_next) 0 c_ref01_next_0 k x := (ref01_next_c0.eq_def (k + 1) x.1 x.2.1 x.2.2.1 x.2.2.2.1 x.2.2.2.2).trans (by kernel_rfl)
set_option maxRecDepth 100000 in
theorem ref01_next_l0_eq (k : Nat) (x : (List UInt8) × Int × Int × Int × Int × Int) : ref01_next_l0 (k + 1) x.1 x.2.1 x.2.2.1 x.2.2.2.1 x.2.2.2.2.1 x.2.2.2.2.2 = lrhs xt e_ref01_next 94 0 h_ref01_next (bodyOf Tryd.f143) (retK xt.T Tryd.f143.results g_ref01_next) 1 l_ref01_next_0 k x := (ref01_next_l0.eq_def (k + 1) x.1 x.2.1 x.2.2.1 x.2.2.2.1 x.2.2.2.2.1 x.2.2.2.2.2).trans (by kernel_rfl)
theorem ref01_next_ok (K : Nat) : SigOk Tryd.prog g_ref01_next K := sig_fun (X := xt) (g := g_ref01_next) (H := h_ref01_next) (env := e_ref01_next) (c := bodyOf Tryd.f143) xt_ok mixed (fun k => AllOk.nil) Tryd.func143 (by kernel_rfl) (by kernel_rfl) (by kernel_rfl) (UpTo.all ((UpTo.zero.succ c_ref01_next_0 (by kernel_rfl) (fun _ => rfl) ref01_next_c0_eq).succ l_ref01_next_0 (by kernel_rfl) (fun _ => rfl) ref01_next_l0_eq) (by kernel_rfl) (by kernel_rfl)) ref01_next_eq K
def g_ref01_Decode : Sig := { fid := 130, Γ := [.str], args := [(.var 0)], sto := [], nk := 0, nr := 0, Δ := [(.list false (.int .i32)), (.int .i64)], res := (.tup [(.var 0), (.var 1)]), sto' := [], nk' := 0, f := fun k x => ref01_Decode k x }
def l_ref01_Decode_0 : LH ((List Int) × Int) := { Γ := [.str, (.list false (.int .i32)), (.int .i64)], live := [(0, (.var 0)), (4, (.row 0 1)), (5, (.var 2))], sto := [(0, (.list 21 1 none))], nk := 1, ad := [.t 4 21 (.int .i32)], F := fun k x => ref01_Decode_l0 k x.1 x.2.1 x.2.2 }
def h_ref01_Decode : Hints ((List Int) × Int) := { keep := [], ord := [], loops := [(3, l_ref01_Decode_0)], unr := [], adr := [], cuts := [] }
def e_ref01_Decode : List Sig := [g_ref01_next]
set_option maxRecDepth 100000 in
theorem ref01_Decode_eq (k : Nat) (x : (List UInt8)) : ref01_Decode k x = fx xt e_ref01_Decode g_ref01_Decode Tryd.f130 h_ref01_Decode (bodyOf Tryd.f130) k x := by kernel_rfl
set_option maxRecDepth 100000 in
theorem ref01_Decode_l0_eq (k : Nat) (x : (List UInt8) × (List Int) × Int) : ref01_Decode_l0 (k + 1) x.1 x.2.1 x.2.2 = lrhs xt e_ref01_Decode 28 0 h_ref01_Decode (bodyOf Tryd.f130) (retK xt.T Tryd.f130.results g_ref01_Decode) 0 l_ref01_Decode_0 k x := (ref01_Decode_l0.eq_def (k + 1) x.1 x.2.1 x.2.2).trans (by kernel_rfl)
theorem ref01_Decode_ok (K : Nat) : SigOk Tryd.prog g_ref01_Decode K := sig_fun (X := xt) (g := g_ref01_Decode) (H := h_ref01_Decode) (env := e_ref01_Decode) (c := bodyOf Tryd.f130) xt_ok mixed (fun k => (AllOk.cons (ref01_next_ok k) AllOk.nil)) Tryd.func130 (by kernel_rfl) (by kernel_rfl) (by kernel_rfl) (UpTo.all (UpTo.zero.succ l_ref01_Decode_0 (by kernel_rfl) (fun _ => rfl) ref01_Decode_l0_eq) (by kernel_rfl) (by kernel_rfl)) ref01_Decode_eq K
def g_ref01_Class : Sig := { fid := 131, Γ := [(.int .i32)], args := [(.var 0)], sto := [], nk := 0, nr := 0, Δ := [(.int .i64)], res := (.var 0), sto' := [], nk' := 0, f := fun k x => ref01_Class k x }
def h_ref01_Class : Hints (Int) := { keep := [], ord := [], loops := [], unr := [], adr := [], cuts := [] }
def e_ref01_Class : List Sig := []
set_option maxRecDepth 100000 in
theorem ref01_Class_eq (k : Nat) (x : Int) : ref01_Class k x = fx xt e_ref01_Class g_ref01_Class Tryd.f131 h_ref01_Class (bodyOf Tryd.f131) k x := by kernel_rfl
theorem ref01_Class_ok (K : Nat) : SigOk Tryd.prog g_ref01_Class K := sig_fun (X := xt) (g := g_ref01_Class) (H := h_ref01_Class) (env := e_ref01_Class) (c := bodyOf Tryd.f131) xt_ok mixed (fun k => AllOk.nil) Tryd.func131 (by kernel_rfl) (by kernel_rfl) (by kernel_rfl) (UpTo.all UpTo.zero (by kernel_rfl) (by kernel_rfl)) ref01_Class_eq K
def g_ref01_Name : Sig := { fid := 111, Γ := [.str], args := [(.var 0)], sto := [], nk := 0, nr := 0, Δ := [.bool], res := (.var 0), sto' := [], nk' := 0, f := fun k x => ref01_Name k x }
def l_ref01_Name_0 : LH (Bool) := { Γ := [(.list false (.int .i32)), (.int .i64)], live := [(3, (.var 0)), (5, (.var 1))], sto := [], nk := 0, ad := [], F := fun k x => ref01_Name_l0 k x.1 x.2 }
def h_ref01_Name : Hints (Bool) := { keep := [], ord := [], loops := [(5, l_ref01_Name_0)], unr := [], adr := [], cuts := [] }
def e_ref01_Name : List Sig := [g_ref01_Decode, g_ref01_Class]
set_option maxRecDepth 100000 in
theorem ref01_Name_eq (k : Nat) (x : (List UInt8)) : ref01_Name k x = fx xt e_ref01_Name g_ref01_Name Tryd.f111 h_ref01_Name (bodyOf Tryd.f111) k x := by kernel_rfl
set_option maxRecDepth 100000 in
theorem ref01_Name_l0_eq (k : Nat) (x : (List Int) × Int) : ref01_Name_l0 (k + 1) x.1 x.2 = lrhs xt e_ref01_Name 52 0 h_ref01_Name (bodyOf Tryd.f111) (retK xt.T Tryd.f111.results g_ref01_Name) 0 l_ref01_Name_0 k x := (ref01_Name_l0.eq_def (k + 1) x.1 x.2).trans (by kernel_rfl)
theorem ref01_Name_ok (K : Nat) : SigOk Tryd.prog g_ref01_Name K := sig_fun (X := xt) (g := g_ref01_Name) (H := h_ref01_Name) (env := e_ref01_Name) (c := bodyOf Tryd.f111) xt_ok mixed (fun k => (AllOk.cons (ref01_Decode_ok k) (AllOk.cons (ref01_Class_ok k) AllOk.nil))) Tryd.func111 (by kernel_rfl) (by kernel_rfl) (by kernel_rfl) (UpTo.all (UpTo.zero.succ l_ref01_Name_0 (by kernel_rfl) (fun _ => rfl) ref01_Name_l0_eq) (by kernel_rfl) (by kernel_rfl)) ref01_Name_eq K
def g_ref02_Words : Sig := { fid := 132, Γ := [], args := [], sto := [], nk := 0, nr := 0, Δ := [(.list false .str)], res := (.var 0), sto' := [], nk' := 0, f := fun k _ => ref02_Words k }
def h_ref02_Words : Hints ((List (List UInt8))) := { keep := [], ord := [], loops := [], unr := [], adr := [], cuts := [] }
def e_ref02_Words : List Sig := []
set_option maxRecDepth 100000 in
theorem ref02_Words_eq (k : Nat) (x : Unit) : ref02_Words k = fx xt e_ref02_Words g_ref02_Words Tryd.f132 h_ref02_Words (bodyOf Tryd.f132) k x := by kernel_rfl
theorem ref02_Words_ok (K : Nat) : SigOk Tryd.prog g_ref02_Words K := sig_fun (X := xt) (g := g_ref02_Words) (H := h_ref02_Words) (env := e_ref02_Words) (c := bodyOf Tryd.f132) xt_ok mixed (fun k => AllOk.nil) Tryd.func132 (by kernel_rfl) (by kernel_rfl) (by kernel_rfl) (UpTo.all UpTo.zero (by kernel_rfl) (by kernel_rfl)) ref02_Words_eq K
def g_ref02_Word : Sig := { fid := 112, Γ := [.str], args := [(.var 0)], sto := [], nk := 0, nr := 0, Δ := [.bool], res := (.var 0), sto' := [], nk' := 0, f := fun k x => ref02_Word k x }
def l_ref02_Word_0 : LH (Bool) := { Γ := [.str, (.list false .str), (.int .i64)], live := [(0, (.var 0)), (3, (.var 1)), (4, (.var 2))], sto := [], nk := 0, ad := [], F := fun k x => ref02_Word_l0 k x.1 x.2.1 x.2.2 }
def h_ref02_Word : Hints (Bool) := { keep := [], ord := [], loops := [(3, l_ref02_Word_0)], unr := [], adr := [], cuts := [] }
def e_ref02_Word : List Sig := [g_ref02_Words]
set_option maxRecDepth 100000 in
theorem ref02_Word_eq (k : Nat) (x : (List UInt8)) : ref02_Word k x = fx xt e_ref02_Word g_ref02_Word Tryd.f112 h_ref02_Word (bodyOf Tryd.f112) k x := by kernel_rfl
set_option maxRecDepth 100000 in
theorem ref02_Word_l0_eq (k : Nat) (x : (List UInt8) × (List (List UInt8)) × Int) : ref02_Word_l0 (k + 1) x.1 x.2.1 x.2.2 = lrhs xt e_ref02_Word 18 0 h_ref02_Word (bodyOf Tryd.f112) (retK xt.T Tryd.f112.results g_ref02_Word) 0 l_ref02_Word_0 k x := (ref02_Word_l0.eq_def (k + 1) x.1 x.2.1 x.2.2).trans (by kernel_rfl)
theorem ref02_Word_ok (K : Nat) : SigOk Tryd.prog g_ref02_Word K := sig_fun (X := xt) (g := g_ref02_Word) (H := h_ref02_Word) (env := e_ref02_Word) (c := bodyOf Tryd.f112) xt_ok mixed (fun k => (AllOk.cons (ref02_Words_ok k) AllOk.nil)) Tryd.func112 (by kernel_rfl) (by kernel_rfl) (by kernel_rfl) (UpTo.all (UpTo.zero.succ l_ref02_Word_0 (by kernel_rfl) (fun _ => rfl) ref02_Word_l0_eq) (by kernel_rfl) (by kernel_rfl)) ref02_Word_eq K
def g_ref03_Check : Sig := { fid := 90, Γ := [.str], args := [(.var 0)], sto := [], nk := 0, nr := 0, Δ := [.bool], res := (.var 0), sto' := [], nk' := 0, f := fun k x => ref03_Check k x }
def h_ref03_Check : Hints (Bool) := { keep := [], ord := [], loops := [], unr := [], adr := [], cuts := [] }
def e_ref03_Check : List Sig := [g_ref01_Name, g_ref02_Word]
set_option maxRecDepth 100000 in
theorem ref03_Check_eq (k : Nat) (x : (List UInt8)) : ref03_Check k x = fx xt e_ref03_Check g_ref03_Check Tryd.f90 h_ref03_Check (bodyOf Tryd.f90) k x := by kernel_rfl
theorem ref03_Check_ok (K : Nat) : SigOk Tryd.prog g_ref03_Check K := sig_fun (X := xt) (g := g_ref03_Check) (H := h_ref03_Check) (env := e_ref03_Check) (c := bodyOf Tryd.f90) xt_ok mixed (fun k => (AllOk.cons (ref01_Name_ok k) (AllOk.cons (ref02_Word_ok k) AllOk.nil))) Tryd.func90 (by kernel_rfl) (by kernel_rfl) (by kernel_rfl) (UpTo.all UpTo.zero (by kernel_rfl) (by kernel_rfl)) ref03_Check_eq K
def g_ref03_pieces : Sig := { fid := 113, Γ := [.str], args := [(.var 0)], sto := [], nk := 0, nr := 0, Δ := [(.list false .str)], res := (.var 0), sto' := [], nk' := 0, f := fun k x => ref03_pieces k x }
def l_ref03_pieces_0 : LH ((List (List UInt8))) := { Γ := [.str, (.list false .str), (.int .i64), (.int .i64)], live := [(0, (.var 0)), (3, (.row 0 1)), (4, (.var 2)), (5, (.var 3))], sto := [(0, (.list 9 1 none))], nk := 1, ad := [.t 3 9 .str], F := fun k x => ref03_pieces_l0 k x.1 x.2.1 x.2.2.1 x.2.2.2 }
def h_ref03_pieces : Hints ((List (List UInt8))) := { keep := [], ord := [], loops := [(4, l_ref03_pieces_0)], unr := [], adr := [], cuts := [] }
def e_ref03_pieces : List Sig := []
set_option maxRecDepth 100000 in
theorem ref03_pieces_eq (k : Nat) (x : (List UInt8)) : ref03_pieces k x = fx xt e_ref03_pieces g_ref03_pieces Tryd.f113 h_ref03_pieces (bodyOf Tryd.f113) k x := by kernel_rfl
set_option maxRecDepth 100000 in
theorem ref03_pieces_l0_eq (k : Nat) (x : (List UInt8) × (List (List UInt8)) × Int × Int) : ref03_pieces_l0 (k + 1) x.1 x.2.1 x.2.2.1 x.2.2.2 = lrhs xt e_ref03_pieces 31 0 h_ref03_pieces (bodyOf Tryd.f113) (retK xt.T Tryd.f113.results g_ref03_pieces) 0 l_ref03_pieces_0 k x := (ref03_pieces_l0.eq_def (k + 1) x.1 x.2.1 x.2.2.1 x.2.2.2).trans (by kernel_rfl)
theorem ref03_pieces_ok (K : Nat) : SigOk Tryd.prog g_ref03_pieces K := sig_fun (X := xt) (g := g_ref03_pieces) (H := h_ref03_pieces) (env := e_ref03_pieces) (c := bodyOf Tryd.f113) xt_ok mixed (fun k => AllOk.nil) Tryd.func113 (by kernel_rfl) (by kernel_rfl) (by kernel_rfl) (UpTo.all (UpTo.zero.succ l_ref03_pieces_0 (by kernel_rfl) (fun _ => rfl) ref03_pieces_l0_eq) (by kernel_rfl) (by kernel_rfl)) ref03_pieces_eq K
def g_ref03_Long : Sig := { fid := 91, Γ := [.str], args := [(.var 0)], sto := [], nk := 0, nr := 0, Δ := [.bool], res := (.var 0), sto' := [], nk' := 0, f := fun k x => ref03_Long k x }
def l_ref03_Long_0 : LH (Bool) := { Γ := [(.list false .str), (.int .i64)], live := [(3, (.var 0)), (4, (.var 1))], sto := [], nk := 0, ad := [], F := fun k x => ref03_Long_l0 k x.1 x.2 }
def h_ref03_Long : Hints (Bool) := { keep := [], ord := [], loops := [(5, l_ref03_Long_0)], unr := [], adr := [], cuts := [] }
def e_ref03_Long : List Sig := [g_ref03_pieces, g_ref03_Check]
set_option maxRecDepth 100000 in
theorem ref03_Long_eq (k : Nat) (x : (List UInt8)) : ref03_Long k x = fx xt e_ref03_Long g_ref03_Long Tryd.f91 h_ref03_Long (bodyOf Tryd.f91) k x := by kernel_rfl
set_option maxRecDepth 100000 in
theorem ref03_Long_l0_eq (k : Nat) (x : (List (List UInt8)) × Int) : ref03_Long_l0 (k + 1) x.1 x.2 = lrhs xt e_ref03_Long 22 0 h_ref03_Long (bodyOf Tryd.f91) (retK xt.T Tryd.f91.results g_ref03_Long) 0 l_ref03_Long_0 k x := (ref03_Long_l0.eq_def (k + 1) x.1 x.2).trans (by kernel_rfl)
theorem ref03_Long_ok (K : Nat) : SigOk Tryd.prog g_ref03_Long K := sig_fun (X := xt) (g := g_ref03_Long) (H := h_ref03_Long) (env := e_ref03_Long) (c := bodyOf Tryd.f91) xt_ok mixed (fun k => (AllOk.cons (ref03_pieces_ok k) (AllOk.cons (ref03_Check_ok k) AllOk.nil))) Tryd.func91 (by kernel_rfl) (by kernel_rfl) (by kernel_rfl) (UpTo.all (UpTo.zero.succ l_ref03_Long_0 (by kernel_rfl) (fun _ => rfl) ref03_Long_l0_eq) (by kernel_rfl) (by kernel_rfl)) ref03_Long_eq K
def g_ref05_word : Sig := { fid := 66, Γ := [.str, .str], args := [(.var 0), (.var 1)], sto := [], nk := 0, nr := 0, Δ := [.bool], res := (.var 0), sto' := [], nk' := 0, f := fun k x => ref05_word k x.1 x.2 }
def h_ref05_word : Hints (Bool) := { keep := [], ord := [], loops := [], unr := [], adr := [], cuts := [] }
def e_ref05_word : List Sig := [g_ref03_Check, g_ref03_Long]
set_option maxRecDepth 100000 in
theorem ref05_word_eq (k : Nat) (x : (List UInt8) × (List UInt8)) : ref05_word k x.1 x.2 = fx xt e_ref05_word g_ref05_word Tryd.f66 h_ref05_word (bodyOf Tryd.f66) k x := by kernel_rfl
theorem ref05_word_ok (K : Nat) : SigOk Tryd.prog g_ref05_word K := sig_fun (X := xt) (g := g_ref05_word) (H := h_ref05_word) (env := e_ref05_word) (c := bodyOf Tryd.f66) xt_ok mixed (fun k => (AllOk.cons (ref03_Check_ok k) (AllOk.cons (ref03_Long_ok k) AllOk.nil))) Tryd.func66 (by kernel_rfl) (by kernel_rfl) (by kernel_rfl) (UpTo.all UpTo.zero (by kernel_rfl) (by kernel_rfl)) ref05_word_eq K
def g_ref05_cat : Sig := { fid := 92, Γ := [(.int .u8)], args := [(.var 0)], sto := [], nk := 0, nr := 0, Δ := [(.int .i64)], res := (.var 0), sto' := [], nk' := 0, f := fun k x => ref05_cat k x }
def l_ref05_cat_0 : LH (Int) := { Γ := [(.int .u8), (.int .i64)], live := [(0, (.var 0)), (3, (.str [116, 101, 109, 115, 112, 100])), (4, (.var 1))], sto := [], nk := 0, ad := [], F := fun k x => ref05_cat_l0 k x.1 x.2 }
def h_ref05_cat : Hints (Int) := { keep := [], ord := [], loops := [(3, l_ref05_cat_0)], unr := [], adr := [], cuts := [] }
def e_ref05_cat : List Sig := []
set_option maxRecDepth 100000 in
theorem ref05_cat_eq (k : Nat) (x : Int) : ref05_cat k x = fx xt e_ref05_cat g_ref05_cat Tryd.f92 h_ref05_cat (bodyOf Tryd.f92) k x := by kernel_rfl
set_option maxRecDepth 100000 in
theorem ref05_cat_l0_eq (k : Nat) (x : Int × Int) : ref05_cat_l0 (k + 1) x.1 x.2 = lrhs xt e_ref05_cat 18 0 h_ref05_cat (bodyOf Tryd.f92) (retK xt.T Tryd.f92.results g_ref05_cat) 0 l_ref05_cat_0 k x := (ref05_cat_l0.eq_def (k + 1) x.1 x.2).trans (by kernel_rfl)
theorem ref05_cat_ok (K : Nat) : SigOk Tryd.prog g_ref05_cat K := sig_fun (X := xt) (g := g_ref05_cat) (H := h_ref05_cat) (env := e_ref05_cat) (c := bodyOf Tryd.f92) xt_ok mixed (fun k => AllOk.nil) Tryd.func92 (by kernel_rfl) (by kernel_rfl) (by kernel_rfl) (UpTo.all (UpTo.zero.succ l_ref05_cat_0 (by kernel_rfl) (fun _ => rfl) ref05_cat_l0_eq) (by kernel_rfl) (by kernel_rfl)) ref05_cat_eq K
def g_ref05_kids : Sig := { fid := 67, Γ := [(.list false .tree), .str], args := [(.var 0), (.var 1)], sto := [], nk := 0, nr := 0, Δ := [.bool], res := (.var 0), sto' := [], nk' := 0, f := fun k x => ref05_kids k x.1 x.2 }
def g_ref05_Is : Sig := { fid := 38, Γ := [.tree, (.int .i64)], args := [(.var 0), (.var 1)], sto := [], nk := 0, nr := 0, Δ := [.bool], res := (.var 0), sto' := [], nk' := 0, f := fun k x => ref05_Is k x.1 x.2 }
def l_ref05_kids_0 : LH (Bool) := { Γ := [(.list false .tree), .str, (.int .i64)], live := [(0, (.var 0)), (1, (.var 1)), (5, (.var 2))], sto := [], nk := 0, ad := [], F := fun k x => ref05_kids_l0 k x.1 x.2.1 x.2.2 }
def l_ref05_kids_1 : LH (Bool) := { Γ := [(.list false .tree), .str, (.int .i64)], live := [(0, (.var 0)), (1, (.var 1)), (6, (.var 2))], sto := [], nk := 0, ad := [], F := fun k x => ref05_kids_l1 k x.1 x.2.1 x.2.2 }
def l_ref05_kids_2 : LH (Bool) := { Γ := [(.list false .tree), .str, (.int .i64), (.int .i64)], live := [(0, (.var 0)), (1, (.var 1)), (6, (.var 2)), (7, (.var 3))], sto := [], nk := 0, ad := [], F := fun k x => ref05_kids_l2 k x.1 x.2.1 x.2.2.1 x.2.2.2 }
def h_ref05_kids : Hints (Bool) := { keep := [], ord := [(7, [.l 0, .l 1, .l 2, .l 3, .l 4, .l 5, .h 6, .h 7, .l 8, .l 9, .l 10, .l 11, .l 12, .l 13, .l 14, .l 15, .l 16, .l 17, .l 18, .l 19, .l 20, .l 21, .l 22, .l 23, .l 24, .l 25, .l 26, .l 27, .l 28, .l 29, .l 30, .l 31, .l 32, .l 33]), (19, [.l 0, .l 1, .l 2, .l 3, .l 4, .l 5, .l 6, .l 7, .l 8, .l 9, .l 10, .l 11, .l 12, .l 13, .l 14]), (22, [.l 0, .l 1, .l 2, .l 3, .l 4, .l 5, .l 6, .l 7, .l 8, .h 9, .h 10, .l 11, .l 12, .l 13, .l 14, .l 15, .l 16, .h 17, .l 18, .l 19])], loops := [(5, l_ref05_kids_0), (12, l_ref05_kids_1), (17, l_ref05_kids_2)], unr := [], adr := [], cuts := [] }
def e_ref05_kids : List Sig := [g_ref05_cat, g_ref05_Is, g_ref05_kids]
set_option maxRecDepth 100000 in
theorem ref05_kids_eq (k : Nat) (x : (List Tr) × (List UInt8)) : ref05_kids (k + 1) x.1 x.2 = fx xt e_ref05_kids g_ref05_kids Tryd.f67 h_ref05_kids (bodyOf Tryd.f67) k x := (ref05_kids.eq_def (k + 1) x.1 x.2).trans (by kernel_rfl)
set_option maxRecDepth 100000 in
theorem ref05_kids_l0_eq (k : Nat) (x : (List Tr) × (List UInt8) × Int) : ref05_kids_l0 (k + 1) x.1 x.2.1 x.2.2 = lrhs xt e_ref05_kids 141 0 h_ref05_kids (bodyOf Tryd.f67) (retK xt.T Tryd.f67.results g_ref05_kids) 0 l_ref05_kids_0 k x := (ref05_kids_l0.eq_def (k + 1) x.1 x.2.1 x.2.2).trans (by kernel_rfl)
set_option maxRecDepth 100000 in
theorem ref05_kids_l1_eq (k : Nat) (x : (List Tr) × (List UInt8) × Int) : ref05_kids_l1 (k + 1) x.1 x.2.1 x.2.2 = lrhs xt e_ref05_kids 141 0 h_ref05_kids (bodyOf Tryd.f67) (retK xt.T Tryd.f67.results g_ref05_kids) 1 l_ref05_kids_1 k x := (ref05_kids_l1.eq_def (k + 1) x.1 x.2.1 x.2.2).trans (by kernel_rfl)
set_option maxRecDepth 100000 in
theorem ref05_kids_l2_eq (k : Nat) (x : (List Tr) × (List UInt8) × Int × Int) : ref05_kids_l2 (k + 1) x.1 x.2.1 x.2.2.1 x.2.2.2 = lrhs xt e_ref05_kids 141 0 h_ref05_kids (bodyOf Tryd.f67) (retK xt.T Tryd.f67.results g_ref05_kids) 2 l_ref05_kids_2 k x := (ref05_kids_l2.eq_def (k + 1) x.1 x.2.1 x.2.2.1 x.2.2.2).trans (by kernel_rfl)
def l_ref05_Is_0 : LH (Bool) := { Γ := [.tree, (.int .i64), (.list false (.pair (.int .i64) (.pair (.int .i64) (.pair .str (.pair .str (.pair (.int .i64) (.pair (.int .i64) .str))))))), (.int .i64)], live := [(0, (.var 0)), (1, (.var 1)), (5, (.var 2)), (6, (.var 3))], sto := [], nk := 0, ad := [], F := fun k x => ref05_Is_l0 k x.1 x.2.1 x.2.2.1 x.2.2.2 }
def h_ref05_Is : Hints (Bool) := { keep := [], ord := [(6, [.l 0, .l 1, .l 2, .l 3, .l 4, .l 5, .l 6, .l 7, .l 8, .l 9, .l 10, .l 11, .l 12, .l 13, .l 14, .l 15, .l 16, .l 17, .l 18, .l 19, .h 20, .l 21, .l 22, .l 23, .l 24, .l 25, .l 26, .l 27, .l 28, .h 29, .l 30, .l 31, .l 32, .l 33, .l 34, .l 35, .l 36, .l 37, .l 38, .l 39, .l 40, .l 41, .l 42, .l 43, .l 44, .l 45, .l 46, .l 47, .l 48, .l 49, .l 50, .l 51, .l 52, .l 53, .l 54, .l 55, .h 56, .l 57])], loops := [(3, l_ref05_Is_0)], unr := [], adr := [], cuts := [] }
def e_ref05_Is : List Sig := [g_ref05_rows, g_ref05_word, g_ref05_kids]
set_option maxRecDepth 100000 in
theorem ref05_Is_eq (k : Nat) (x : Tr × Int) : ref05_Is (k + 1) x.1 x.2 = fx xt e_ref05_Is g_ref05_Is Tryd.f38 h_ref05_Is (bodyOf Tryd.f38) k x := (ref05_Is.eq_def (k + 1) x.1 x.2).trans (by kernel_rfl)
set_option maxRecDepth 100000 in
theorem ref05_Is_l0_eq (k : Nat) (x : Tr × Int × (List (Int × Int × (List UInt8) × (List UInt8) × Int × Int × (List UInt8))) × Int) : ref05_Is_l0 (k + 1) x.1 x.2.1 x.2.2.1 x.2.2.2 = lrhs xt e_ref05_Is 77 0 h_ref05_Is (bodyOf Tryd.f38) (retK xt.T Tryd.f38.results g_ref05_Is) 0 l_ref05_Is_0 k x := (ref05_Is_l0.eq_def (k + 1) x.1 x.2.1 x.2.2.1 x.2.2.2).trans (by kernel_rfl)
theorem ref05_kids_all (K : Nat) : SigOk Tryd.prog g_ref05_kids K ∧ SigOk Tryd.prog g_ref05_Is K := by
  induction K using Nat.strongRecOn with
  | ind K ih => exact ⟨sig_rec (X := xt) (g := g_ref05_kids) (H := h_ref05_kids) (env := e_ref05_kids) (c := bodyOf Tryd.f67) xt_ok mixed (fun k hk => (AllOk.cons (ref05_cat_ok k) (AllOk.cons (ih k hk).2 (AllOk.cons (ih k hk).1 AllOk.nil)))) Tryd.func67 (by kernel_rfl) (by kernel_rfl) (by kernel_rfl) (UpTo.all (((UpTo.zero.succ l_ref05_kids_0 (by kernel_rfl) (fun _ => rfl) ref05_kids_l0_eq).succ l_ref05_kids_1 (by kernel_rfl) (fun _ => rfl) ref05_kids_l1_eq).succ l_ref05_kids_2 (by kernel_rfl) (fun _ => rfl) ref05_kids_l2_eq) (by kernel_rfl) (by kernel_rfl)) (fun _ => rfl) ref05_kids_eq, sig_rec (X := xt) (g := g_ref05_Is) (H := h_ref05_Is) (env := e_ref05_Is) (c := bodyOf Tryd.f38) xt_ok mixed (fun k hk => (AllOk.cons (ref05_rows_ok k) (AllOk.cons (ref05_word_ok k) (AllOk.cons (ih k hk).1 AllOk.nil)))) Tryd.func38 (by kernel_rfl) (by kernel_rfl) (by kernel_rfl) (UpTo.all (UpTo.zero.succ l_ref05_Is_0 (by kernel_rfl) (fun _ => rfl) ref05_Is_l0_eq) (by kernel_rfl) (by kernel_rfl)) (fun _ => rfl) ref05_Is_eq⟩
theorem ref05_kids_ok (K : Nat) : SigOk Tryd.prog g_ref05_kids K := (ref05_kids_all K).1
theorem ref05_Is_ok (K : Nat) : SigOk Tryd.prog g_ref05_Is K := (ref05_kids_all K).2
def g_ref05_Check : Sig := { fid := 14, Γ := [.tree, (.int .i64)], args := [(.var 0), (.var 1)], sto := [], nk := 0, nr := 0, Δ := [(.int .i64)], res := (.var 0), sto' := [], nk' := 0, f := fun k x => ref05_Check k x.1 x.2 }
def h_ref05_Check : Hints (Int) := { keep := [], ord := [], loops := [], unr := [], adr := [], cuts := [] }
def e_ref05_Check : List Sig := [g_ref04_Pack, g_ref04_Deep, g_ref05_Is]
set_option maxRecDepth 100000 in
theorem ref05_Check_eq (k : Nat) (x : Tr × Int) : ref05_Check k x.1 x.2 = fx xt e_ref05_Check g_ref05_Check Tryd.f14 h_ref05_Check (bodyOf Tryd.f14) k x := by kernel_rfl
theorem ref05_Check_ok (K : Nat) : SigOk Tryd.prog g_ref05_Check K := sig_fun (X := xt) (g := g_ref05_Check) (H := h_ref05_Check) (env := e_ref05_Check) (c := bodyOf Tryd.f14) xt_ok mixed (fun k => (AllOk.cons (ref04_Pack_ok k) (AllOk.cons (ref04_Deep_ok k) (AllOk.cons (ref05_Is_ok k) AllOk.nil)))) Tryd.func14 (by kernel_rfl) (by kernel_rfl) (by kernel_rfl) (UpTo.all UpTo.zero (by kernel_rfl) (by kernel_rfl)) ref05_Check_eq K
def g_law05_works : Sig := { fid := 15, Γ := [], args := [], sto := [], nk := 0, nr := 0, Δ := [.bool], res := (.var 0), sto' := [], nk' := 0, f := fun k _ => law05_works k }
def h_law05_works : Hints (Bool) := { keep := [], ord := [], loops := [], unr := [], adr := [], cuts := [] }
def e_law05_works : List Sig := [g_shape_Type, g_shape_Decl, g_shape_Expr]
set_option maxRecDepth 100000 in
theorem law05_works_eq (k : Nat) (x : Unit) : law05_works k = fx xt e_law05_works g_law05_works Tryd.f15 h_law05_works (bodyOf Tryd.f15) k x := by kernel_rfl
theorem law05_works_ok (K : Nat) : SigOk Tryd.prog g_law05_works K := sig_fun (X := xt) (g := g_law05_works) (H := h_law05_works) (env := e_law05_works) (c := bodyOf Tryd.f15) xt_ok mixed (fun k => (AllOk.cons (shape_Type_ok k) (AllOk.cons (shape_Decl_ok k) (AllOk.cons (shape_Expr_ok k) AllOk.nil)))) Tryd.func15 (by kernel_rfl) (by kernel_rfl) (by kernel_rfl) (UpTo.all UpTo.zero (by kernel_rfl) (by kernel_rfl)) law05_works_eq K
def g_law05_ShapeTells : Sig := { fid := 3, Γ := [(.list false (.pair (.int .i64) (.pair (.int .i64) (.pair .str (.pair .str (.list false (.int .i64)))))))], args := [(.agg [(.var 0)])], sto := [], nk := 0, nr := 0, Δ := [.bool], res := (.var 0), sto' := [], nk' := 0, f := fun k x => law05_ShapeTells k x }
def l_law05_ShapeTells_0 : LH (Bool) := { Γ := [.tree, (.list false (.int .i64)), (.int .i64)], live := [(3, (.var 0)), (14, (.var 1)), (15, (.len 1)), (16, (.var 2))], sto := [], nk := 0, ad := [], F := fun k x => law05_ShapeTells_l0 k x.1 x.2.1 x.2.2 }
def h_law05_ShapeTells : Hints (Bool) := { keep := [], ord := [], loops := [(3, l_law05_ShapeTells_0)], unr := [], adr := [], cuts := [] }
def e_law05_ShapeTells : List Sig := [g_law05_few, g_ref04_Open, g_law05_all, g_ref05_Check, g_law05_works]
set_option maxRecDepth 100000 in
theorem law05_ShapeTells_eq (k : Nat) (x : (List (Int × Int × (List UInt8) × (List UInt8) × (List Int)))) : law05_ShapeTells k x = fx xt e_law05_ShapeTells g_law05_ShapeTells Tryd.f3 h_law05_ShapeTells (bodyOf Tryd.f3) k x := by kernel_rfl
set_option maxRecDepth 100000 in
theorem law05_ShapeTells_l0_eq (k : Nat) (x : Tr × (List Int) × Int) : law05_ShapeTells_l0 (k + 1) x.1 x.2.1 x.2.2 = lrhs xt e_law05_ShapeTells 29 0 h_law05_ShapeTells (bodyOf Tryd.f3) (retK xt.T Tryd.f3.results g_law05_ShapeTells) 0 l_law05_ShapeTells_0 k x := (law05_ShapeTells_l0.eq_def (k + 1) x.1 x.2.1 x.2.2).trans (by kernel_rfl)
theorem law05_ShapeTells_ok (K : Nat) : SigOk Tryd.prog g_law05_ShapeTells K := sig_fun (X := xt) (g := g_law05_ShapeTells) (H := h_law05_ShapeTells) (env := e_law05_ShapeTells) (c := bodyOf Tryd.f3) xt_ok mixed (fun k => (AllOk.cons (law05_few_ok k) (AllOk.cons (ref04_Open_ok k) (AllOk.cons (law05_all_ok k) (AllOk.cons (ref05_Check_ok k) (AllOk.cons (law05_works_ok k) AllOk.nil)))))) Tryd.func3 (by kernel_rfl) (by kernel_rfl) (by kernel_rfl) (UpTo.all (UpTo.zero.succ l_law05_ShapeTells_0 (by kernel_rfl) (fun _ => rfl) law05_ShapeTells_l0_eq) (by kernel_rfl) (by kernel_rfl)) law05_ShapeTells_eq K
def g_law05_ShapeNil : Sig := { fid := 4, Γ := [(.int .i64), (.int .i64)], args := [(.var 0), (.var 1)], sto := [], nk := 0, nr := 0, Δ := [.bool], res := (.var 0), sto' := [], nk' := 0, f := fun k x => law05_ShapeNil k x.1 x.2 }
def l_law05_ShapeNil_0 : LH (Bool) := { Γ := [(.int .i64), (.int .i64), .tree, (.int .i64), (.int .i64)], live := [(0, (.var 0)), (1, (.var 1)), (5, (.var 2)), (24, (.var 3)), (25, (.var 4))], sto := [], nk := 1, ad := [], F := fun k x => law05_ShapeNil_l0 k x.1 x.2.1 x.2.2.1 x.2.2.2.1 x.2.2.2.2 }
def l_law05_ShapeNil_1 : LH (Bool) := { Γ := [(.int .i64), (.int .i64), .tree, (.int .i64), (.int .i64), (.list false .tree)], live := [(0, (.var 0)), (1, (.var 1)), (5, (.var 2)), (6, (.ref 0 0)), (35, (.var 3)), (36, (.var 4))], sto := [(0, (.cells 37 5 [(.int .i64 80), (.int .i64 0), (.str []), (.str []), (.row 1 5)] false)), (1, (.list 25 5 none))], nk := 2, ad := [.c 6 4 25 .tree], F := fun k x => law05_ShapeNil_l1 k x.1 x.2.1 x.2.2.1 x.2.2.2.1 x.2.2.2.2.1 x.2.2.2.2.2 }
def c_law05_ShapeNil_0 : LH (Bool) := { Γ := [(.int .i64), .tree, (.int .i64), (.list false .tree)], live := [(1, (.var 0)), (5, (.var 1)), (6, (.ref 0 0)), (7, (.var 2)), (8, (.int .i64 0))], sto := [(0, (.cells 37 5 [(.int .i64 80), (.int .i64 0), (.str []), (.str []), (.row 1 3)] false)), (1, (.list 25 3 none))], nk := 2, ad := [], F := fun k x => law05_ShapeNil_c0 k x.1 x.2.1 x.2.2.1 x.2.2.2 }
def c_law05_ShapeNil_1 : LH (Bool) := { Γ := [.tree, (.int .i64), (.int .i64), (.list false .tree)], live := [(5, (.var 0)), (6, (.ref 0 0)), (7, (.var 1)), (8, (.var 2))], sto := [(0, (.cells 37 5 [(.int .i64 80), (.int .i64 0), (.str []), (.str []), (.row 1 3)] false)), (1, (.list 25 3 none))], nk := 2, ad := [], F := fun k x => law05_ShapeNil_c1 k x.1 x.2.1 x.2.2.1 x.2.2.2 }
def l_law05_ShapeNil_2 : LH (Bool) := { Γ := [.tree, (.int .i64), (.int .i64), (.list false (.int .i64)), (.int .i64), (.list false .tree)], live := [(5, (.var 0)), (6, (.ref 0 0)), (7, (.var 1)), (8, (.var 2)), (54, (.var 3)), (55, (.len 3)), (56, (.var 4))], sto := [(0, (.cells 37 5 [(.int .i64 80), (.int .i64 0), (.str []), (.str []), (.row 1 5)] false)), (1, (.list 25 5 none))], nk := 2, ad := [], F := fun k x => law05_ShapeNil_l2 k x.1 x.2.1 x.2.2.1 x.2.2.2.1 x.2.2.2.2.1 x.2.2.2.2.2 }
def h_law05_ShapeNil : Hints (Bool) := { keep := [], ord := [], loops := [(4, l_law05_ShapeNil_0), (9, l_law05_ShapeNil_1), (18, l_law05_ShapeNil_2)], unr := [], adr := [], cuts := [(15, c_law05_ShapeNil_0), (17, c_law05_ShapeNil_1)] }
def e_law05_ShapeNil : List Sig := [g_law05_all, g_shape_Expr, g_shape_Prog, g_law05_works]
def x_law05_ShapeNil : XT := { xt with objs := [37] ++ xt.objs }
set_option maxRecDepth 100000 in
theorem law05_ShapeNil_eq (k : Nat) (x : Int × Int) : law05_ShapeNil k x.1 x.2 = fx x_law05_ShapeNil e_law05_ShapeNil g_law05_ShapeNil Tryd.f4 h_law05_ShapeNil (bodyOf Tryd.f4) k x := by kernel_rfl
set_option maxRecDepth 100000 in
theorem law05_ShapeNil_l0_eq (k : Nat) (x : Int × Int × Tr × Int × Int) : law05_ShapeNil_l0 (k + 1) x.1 x.2.1 x.2.2.1 x.2.2.2.1 x.2.2.2.2 = lrhs x_law05_ShapeNil e_law05_ShapeNil 87 0 h_law05_ShapeNil (bodyOf Tryd.f4) (retK xt.T Tryd.f4.results g_law05_ShapeNil) 0 l_law05_ShapeNil_0 k x := (law05_ShapeNil_l0.eq_def (k + 1) x.1 x.2.1 x.2.2.1 x.2.2.2.1 x.2.2.2.2).trans (by kernel_rfl)
set_option maxRecDepth 100000 in
theorem law05_ShapeNil_l1_eq (k : Nat) (x : Int × Int × Tr × Int × Int × (List Tr)) : law05_ShapeNil_l1 (k + 1) x.1 x.2.1 x.2.2.1 x.2.2.2.1 x.2.2.2.2.1 x.2.2.2.2.2 = lrhs x_law05_ShapeNil e_law05_ShapeNil 87 0 h_law05_ShapeNil (bodyOf Tryd.f4) (retK xt.T Tryd.f4.results g_law05_ShapeNil) 1 l_law05_ShapeNil_1 k x := (law05_ShapeNil_l1.eq_def (k + 1) x.1 x.2.1 x.2.2.1 x.2.2.2.1 x.2.2.2.2.1 x.2.2.2.2.2).trans (by kernel_rfl)
set_option maxRecDepth 100000 in
theorem law05_ShapeNil_c0_eq (k : Nat) (x : Int × Tr × Int × (List Tr)) : law05_ShapeNil_c0 (k + 1) x.1 x.2.1 x.2.2.1 x.2.2.2 = lrhs x_law05_ShapeNil e_law05_ShapeNil 87 0 h_law05_ShapeNil (bodyOf Tryd.f4) (retK xt.T Tryd.f4.results g_law05_ShapeNil) 2 c_law05_ShapeNil_0 k x := (law05_ShapeNil_c0.eq_def (k + 1) x.1 x.2.1 x.2.2.1 x.2.2.2).trans (by kernel_rfl)
set_option maxRecDepth 100000 in
theorem law05_ShapeNil_c1_eq (k : Nat) (x : Tr × Int × Int × (List Tr)) : law05_ShapeNil_c1 (k + 1) x.1 x.2.1 x.2.2.1 x.2.2.2 = lrhs x_law05_ShapeNil e_law05_ShapeNil 87 0 h_law05_ShapeNil (bodyOf Tryd.f4) (retK xt.T Tryd.f4.results g_law05_ShapeNil) 3 c_law05_ShapeNil_1 k x := (law05_ShapeNil_c1.eq_def (k + 1) x.1 x.2.1 x.2.2.1 x.2.2.2).trans (by kernel_rfl)
set_option maxRecDepth 100000 in
theorem law05_ShapeNil_l2_eq (k : Nat) (x : Tr × Int × Int × (List Int) × Int × (List Tr)) : law05_ShapeNil_l2 (k + 1) x.1 x.2.1 x.2.2.1 x.2.2.2.1 x.2.2.2.2.1 x.2.2.2.2.2 = lrhs x_law05_ShapeNil e_law05_ShapeNil 87 0 h_law05_ShapeNil (bodyOf Tryd.f4) (retK xt.T Tryd.f4.results g_law05_ShapeNil) 4 l_law05_ShapeNil_2 k x := (law05_ShapeNil_l2.eq_def (k + 1) x.1 x.2.1 x.2.2.1 x.2.2.2.1 x.2.2.2.2.1 x.2.2.2.2.2).trans (by kernel_rfl)
theorem law05_ShapeNil_ok (K : Nat) : SigOk Tryd.prog g_law05_ShapeNil K := sig_fun (X := x_law05_ShapeNil) (g := g_law05_ShapeNil) (H := h_law05_ShapeNil) (env := e_law05_ShapeNil) (c := bodyOf Tryd.f4) (show XOk Tryd.prog x_law05_ShapeNil from ⟨tt_ok, xt_ok.tab⟩) mixed (fun k => (AllOk.cons (law05_all_ok k) (AllOk.cons (shape_Expr_ok k) (AllOk.cons (shape_Prog_ok k) (AllOk.cons (law05_works_ok k) AllOk.nil))))) Tryd.func4 (by kernel_rfl) (by kernel_rfl) (by kernel_rfl) (UpTo.all (((((UpTo.zero.succ l_law05_ShapeNil_0 (by kernel_rfl) (fun _ => rfl) law05_ShapeNil_l0_eq).succ l_law05_ShapeNil_1 (by kernel_rfl) (fun _ => rfl) law05_ShapeNil_l1_eq).succ c_law05_ShapeNil_0 (by kernel_rfl) (fun _ => rfl) law05_ShapeNil_c0_eq).succ c_law05_ShapeNil_1 (by kernel_rfl) (fun _ => rfl) law05_ShapeNil_c1_eq).succ l_law05_ShapeNil_2 (by kernel_rfl) (fun _ => rfl) law05_ShapeNil_l2_eq) (by kernel_rfl) (by kernel_rfl)) law05_ShapeNil_eq K
def g_slices_Index_2 : Sig := { fid := 76, Γ := [(.list false .bool), .bool], args := [(.var 0), (.var 1)], sto := [], nk := 0, nr := 0, Δ := [(.int .i64)], res := (.var 0), sto' := [], nk' := 0, f := fun k x => slices_Index_2 k x.1 x.2 }
def l_slices_Index_2_0 : LH (Int) := { Γ := [(.list false .bool), .bool, (.int .i64)], live := [(0, (.var 0)), (1, (.var 1)), (7, (.len 0)), (8, (.var 2))], sto := [], nk := 0, ad := [], F := fun k x => slices_Index_2_l0 k x.1 x.2.1 x.2.2 }
def h_slices_Index_2 : Hints (Int) := { keep := [], ord := [], loops := [(2, l_slices_Index_2_0)], unr := [], adr := [], cuts := [] }
def e_slices_Index_2 : List Sig := []
set_option maxRecDepth 100000 in
theorem slices_Index_2_eq (k : Nat) (x : (List Bool) × Bool) : slices_Index_2 k x.1 x.2 = fx xt e_slices_Index_2 g_slices_Index_2 Tryd.f76 h_slices_Index_2 (bodyOf Tryd.f76) k x := by kernel_rfl
set_option maxRecDepth 100000 in
theorem slices_Index_2_l0_eq (k : Nat) (x : (List Bool) × Bool × Int) : slices_Index_2_l0 (k + 1) x.1 x.2.1 x.2.2 = lrhs xt e_slices_Index_2 19 0 h_slices_Index_2 (bodyOf Tryd.f76) (retK xt.T Tryd.f76.results g_slices_Index_2) 0 l_slices_Index_2_0 k x := (slices_Index_2_l0.eq_def (k + 1) x.1 x.2.1 x.2.2).trans (by kernel_rfl)
theorem slices_Index_2_ok (K : Nat) : SigOk Tryd.prog g_slices_Index_2 K := sig_fun (X := xt) (g := g_slices_Index_2) (H := h_slices_Index_2) (env := e_slices_Index_2) (c := bodyOf Tryd.f76) xt_ok mixed (fun k => AllOk.nil) Tryd.func76 (by kernel_rfl) (by kernel_rfl) (by kernel_rfl) (UpTo.all (UpTo.zero.succ l_slices_Index_2_0 (by kernel_rfl) (fun _ => rfl) slices_Index_2_l0_eq) (by kernel_rfl) (by kernel_rfl)) slices_Index_2_eq K
def g_slices_Contains_2 : Sig := { fid := 42, Γ := [(.list false .bool), .bool], args := [(.var 0), (.var 1)], sto := [], nk := 0, nr := 0, Δ := [.bool], res := (.var 0), sto' := [], nk' := 0, f := fun k x => slices_Contains_2 k x.1 x.2 }
def h_slices_Contains_2 : Hints (Bool) := { keep := [], ord := [], loops := [], unr := [], adr := [], cuts := [] }
def e_slices_Contains_2 : List Sig := [g_slices_Index_2]
set_option maxRecDepth 100000 in
theorem slices_Contains_2_eq (k : Nat) (x : (List Bool) × Bool) : slices_Contains_2 k x.1 x.2 = fx xt e_slices_Contains_2 g_slices_Contains_2 Tryd.f42 h_slices_Contains_2 (bodyOf Tryd.f42) k x := by kernel_rfl
theorem slices_Contains_2_ok (K : Nat) : SigOk Tryd.prog g_slices_Contains_2 K := sig_fun (X := xt) (g := g_slices_Contains_2) (H := h_slices_Contains_2) (env := e_slices_Contains_2) (c := bodyOf Tryd.f42) xt_ok mixed (fun k => (AllOk.cons (slices_Index_2_ok k) AllOk.nil)) Tryd.func42 (by kernel_rfl) (by kernel_rfl) (by kernel_rfl) (UpTo.all UpTo.zero (by kernel_rfl) (by kernel_rfl)) slices_Contains_2_eq K
def g_arena_Open : Sig := { fid := 18, Γ := [(.list false (.pair (.int .i64) (.pair (.int .i64) (.pair .str (.pair .str (.list false (.int .i64)))))))], args := [(.agg [(.var 0)])], sto := [], nk := 0, nr := 0, Δ := [.tree, (.int .i64)], res := (.tup [(.var 0), (.var 1)]), sto' := [], nk' := 0, f := fun k x => arena_Open k x }
def l_arena_Open_0 : LH (Tr × Int) := { Γ := [(.list false (.pair (.int .i64) (.pair (.int .i64) (.pair .str (.pair .str (.list false (.int .i64))))))), (.list false .tree), (.list false .bool), (.int .i64)], live := [(4, (.var 0)), (5, (.row 0 1)), (6, (.row 1 2)), (29, (.var 0)), (30, (.len 0)), (31, (.var 3))], sto := [(0, (.list 25 1 none)), (1, (.list 4 2 none))], nk := 2, ad := [], F := fun k x => arena_Open_l0 k x.1 x.2.1 x.2.2.1 x.2.2.2 }
def l_arena_Open_1 : LH (Tr × Int) := { Γ := [(.list false (.pair (.int .i64) (.pair (.int .i64) (.pair .str (.pair .str (.list false (.int .i64))))))), (.list false .tree), (.list false .bool), (.int .i64), (.int .i64), (.list false (.int .i64)), (.int .i64), (.int .i64), (.int .i64), .str, .str, (.list false .tree)], live := [(4, (.var 0)), (5, (.row 0 1)), (6, (.row 1 2)), (7, (.var 3)), (9, (.ref 2 0)), (29, (.var 0)), (30, (.len 0)), (31, (.var 4)), (47, (.var 5)), (48, (.len 5)), (49, (.var 6))], sto := [(0, (.list 25 1 none)), (1, (.list 4 2 none)), (2, (.cells 37 5 [(.var 7), (.var 8), (.var 9), (.var 10), (.row 3 11)] false)), (3, (.list 25 11 none))], nk := 4, ad := [.c 9 4 25 .tree], F := fun k x => arena_Open_l1 k x.1 x.2.1 x.2.2.1 x.2.2.2.1 x.2.2.2.2.1 x.2.2.2.2.2.1 x.2.2.2.2.2.2.1 x.2.2.2.2.2.2.2.1 x.2.2.2.2.2.2.2.2.1 x.2.2.2.2.2.2.2.2.2.1 x.2.2.2.2.2.2.2.2.2.2.1 x.2.2.2.2.2.2.2.2.2.2.2 }
def h_arena_Open : Hints (Tr × Int) := { keep := [], ord := [(18, [.l 0, .l 1, .l 2, .l 3, .l 4, .l 5, .l 6, .l 7, .l 8, .l 9, .h 10, .l 11, .l 12, .h 13])], loops := [(9, l_arena_Open_0), (13, l_arena_Open_1)], unr := [], adr := [(23, [.f 6])], cuts := [] }
def e_arena_Open : List Sig := [g_slices_Contains_2]
def x_arena_Open : XT := { xt with objs := [24, 37] ++ xt.objs }
set_option maxRecDepth 100000 in
theorem arena_Open_eq (k : Nat) (x : (List (Int × Int × (List UInt8) × (List UInt8) × (List Int)))) : arena_Open k x = fx x_arena_Open e_arena_Open g_arena_Open Tryd.f18 h_arena_Open (bodyOf Tryd.f18) k x := by kernel_rfl
set_option maxRecDepth 100000 in
theorem arena_Open_l0_eq (k : Nat) (x : (List (Int × Int × (List UInt8) × (List UInt8) × (List Int))) × (List Tr) × (List Bool) × Int) : arena_Open_l0 (k + 1) x.1 x.2.1 x.2.2.1 x.2.2.2 = lrhs x_arena_Open e_arena_Open 99 0 h_arena_Open (bodyOf Tryd.f18) (retK xt.T Tryd.f18.results g_arena_Open) 0 l_arena_Open_0 k x := (arena_Open_l0.eq_def (k + 1) x.1 x.2.1 x.2.2.1 x.2.2.2).trans (by kernel_rfl)
set_option maxRecDepth 100000 in
theorem arena_Open_l1_eq (k : Nat) (x : (List (Int × Int × (List UInt8) × (List UInt8) × (List Int))) × (List Tr) × (List Bool) × Int × Int × (List Int) × Int × Int × Int × (List UInt8) × (List UInt8) × (List Tr)) : arena_Open_l1 (k + 1) x.1 x.2.1 x.2.2.1 x.2.2.2.1 x.2.2.2.2.1 x.2.2.2.2.2.1 x.2.2.2.2.2.2.1 x.2.2.2.2.2.2.2.1 x.2.2.2.2.2.2.2.2.1 x.2.2.2.2.2.2.2.2.2.1 x.2.2.2.2.2.2.2.2.2.2.1 x.2.2.2.2.2.2.2.2.2.2.2 = lrhs x_arena_Open e_arena_Open 99 0 h_arena_Open (bodyOf Tryd.f18) (retK xt.T Tryd.f18.results g_arena_Open) 1 l_arena_Open_1 k x := (arena_Open_l1.eq_def (k + 1) x.1 x.2.1 x.2.2.1 x.2.2.2.1 x.2.2.2.2.1 x.2.2.2.2.2.1 x.2.2.2.2.2.2.1 x.2.2.2.2.2.2.2.1 x.2.2.2.2.2.2.2.2.1 x.2.2.2.2.2.2.2.2.2.1 x.2.2.2.2.2.2.2.2.2.2.1 x.2.2.2.2.2.2.2.2.2.2.2).trans (by kernel_rfl)
theorem arena_Open_ok (K : Nat) : SigOk Tryd.prog g_arena_Open K := sig_fun (X := x_arena_Open) (g := g_arena_Open) (H := h_arena_Open) (env := e_arena_Open) (c := bodyOf Tryd.f18) (show XOk Tryd.prog x_arena_Open from ⟨tt_ok, xt_ok.tab⟩) mixed (fun k => (AllOk.cons (slices_Contains_2_ok k) AllOk.nil)) Tryd.func18 (by kernel_rfl) (by kernel_rfl) (by kernel_rfl) (UpTo.all ((UpTo.zero.succ l_arena_Open_0 (by kernel_rfl) (fun _ => rfl) arena_Open_l0_eq).succ l_arena_Open_1 (by kernel_rfl) (fun _ => rfl) arena_Open_l1_eq) (by kernel_rfl) (by kernel_rfl)) arena_Open_eq K
def g_law05_ShapeOne : Sig := { fid := 5, Γ := [(.list false (.pair (.int .i64) (.pair (.int .i64) (.pair .str (.pair .str (.list false (.int .i64)))))))], args := [(.agg [(.var 0)])], sto := [], nk := 0, nr := 0, Δ := [.bool], res := (.var 0), sto' := [], nk' := 0, f := fun k x => law05_ShapeOne k x }
def l_law05_ShapeOne_0 : LH (Bool) := { Γ := [(.int .i64), (.list false (.int .i64)), (.int .i64)], live := [(5, (.var 0)), (18, (.var 1)), (19, (.len 1)), (20, (.var 2))], sto := [], nk := 0, ad := [], F := fun k x => law05_ShapeOne_l0 k x.1 x.2.1 x.2.2 }
def h_law05_ShapeOne : Hints (Bool) := { keep := [], ord := [], loops := [(6, l_law05_ShapeOne_0)], unr := [], adr := [], cuts := [] }
def e_law05_ShapeOne : List Sig := [g_law05_few, g_arena_Open, g_law05_works, g_law05_all]
set_option maxRecDepth 100000 in
theorem law05_ShapeOne_eq (k : Nat) (x : (List (Int × Int × (List UInt8) × (List UInt8) × (List Int)))) : law05_ShapeOne k x = fx xt e_law05_ShapeOne g_law05_ShapeOne Tryd.f5 h_law05_ShapeOne (bodyOf Tryd.f5) k x := by kernel_rfl
set_option maxRecDepth 100000 in
theorem law05_ShapeOne_l0_eq (k : Nat) (x : Int × (List Int) × Int) : law05_ShapeOne_l0 (k + 1) x.1 x.2.1 x.2.2 = lrhs xt e_law05_ShapeOne 34 0 h_law05_ShapeOne (bodyOf Tryd.f5) (retK xt.T Tryd.f5.results g_law05_ShapeOne) 0 l_law05_ShapeOne_0 k x := (law05_ShapeOne_l0.eq_def (k + 1) x.1 x.2.1 x.2.2).trans (by kernel_rfl)
theorem law05_ShapeOne_ok (K : Nat) : SigOk Tryd.prog g_law05_ShapeOne K := sig_fun (X := xt) (g := g_law05_ShapeOne) (H := h_law05_ShapeOne) (env := e_law05_ShapeOne) (c := bodyOf Tryd.f5) xt_ok mixed (fun k => (AllOk.cons (law05_few_ok k) (AllOk.cons (arena_Open_ok k) (AllOk.cons (law05_works_ok k) (AllOk.cons (law05_all_ok k) AllOk.nil))))) Tryd.func5 (by kernel_rfl) (by kernel_rfl) (by kernel_rfl) (UpTo.all (UpTo.zero.succ l_law05_ShapeOne_0 (by kernel_rfl) (fun _ => rfl) law05_ShapeOne_l0_eq) (by kernel_rfl) (by kernel_rfl)) law05_ShapeOne_eq K
def g_slices_Clone : Sig := { fid := 44, Γ := [(.list false (.int .i64))], args := [(.var 0)], sto := [], nk := 0, nr := 0, Δ := [(.list false (.int .i64))], res := (.row 0 0), sto' := [(0, (.list 3 0 none))], nk' := 1, f := fun k x => slices_Clone k x }
set_option maxRecDepth 100000 in
theorem slices_Clone_ok (K : Nat) : SigOk Tryd.prog g_slices_Clone K := by
  refine ⟨⟨_, Tryd.func44, by kernel_rfl, by kernel_rfl⟩, ?_⟩
  show ∀ (ids : Ids) (p0 r : List Int), appL 8 [] p0 = some r → ACalls Tryd.prog 44 [(.slc (p0.flatMap (Ty.cells (.int .i64))) p0.length false)] [] (fun av s => ∃ ids' : Ids, (∀ k, k < 0 → ids' k = ids k) ∧ av = .row (ids' 0) r.length ∧ s = [(ids' 0, .row 3 1 (r.flatMap (Ty.cells (.int .i64))) 0)])
  intro ids p0 r h
  refine acalls_enter Tryd.func44 rfl rfl ?_
  refine aw_seq ?_
  refine aw_normal [(0, (.slc (p0.flatMap (Ty.cells (.int .i64))) p0.length false))] (s' := []) (by kernel_rfl) rfl ?_
  refine aw_reg ?_
  refine at_run tt_ok 1 [(0, (.slc (p0.flatMap (Ty.cells (.int .i64))) p0.length false))] rfl (by kernel_rfl) ?_
  refine at_end rfl ?_
  refine aw_seq ?_
  refine aw_seq ?_
  refine aw_slcCases 0 rfl (fun hn _ => ?_) ?_
  · obtain rfl : p0 = [] := List.length_eq_zero_iff.1 hn
    have h : (some ([] : List Int)) = some r := by first | exact h | simpa [appL] using h
    refine aw_reg ?_
    refine at_run tt_ok 2 [(0, (.lit (.slice none 0 0))), (4, (.b true))] rfl (by kernel_rfl) ?_
    refine at_end rfl ?_
    refine aw_cond true rfl (fun _ => ?_) (fun h => by cases h)
    refine aw_seq ?_
    refine aw_reg ?_
    refine at_run tt_ok 1 [(2, (.lit (.slice none 0 0)))] rfl (by kernel_rfl) ?_
    refine at_end rfl ?_
    refine aw_adopt 2 3 1 rfl (fun o => ?_)
    refine aw_ret ?_
    obtain rfl := Option.some.inj h
    exact ⟨(.row o 0), (.row o 0), _, (res_tmps (by kernel_rfl)), (View.refl _), ⟨_, perm_sel _ [0], List.take_sublist 1 _⟩, fun _ => o, (fun _ h => absurd h (Nat.not_lt_zero _)), rfl, rfl⟩
  · refine aw_reg ?_
    refine at_run tt_ok 2 [(0, (.nslc (p0.flatMap (Ty.cells (.int .i64))) p0.length false)), (4, (.b false))] rfl (by kernel_rfl) ?_
    refine at_end rfl ?_
    refine aw_shift (Shift.weak 0 rfl (Weak.nslc _ _ _)) ?_
    refine aw_normal [(0, (.slc (p0.flatMap (Ty.cells (.int .i64))) p0.length false)), (4, (.b false))] (s' := []) (by kernel_rfl) rfl ?_
    refine aw_cond false rfl (fun h => by cases h) (fun _ => ?_)
    refine aw_skip ?_
    refine aw_seq ?_
    refine aw_reg ?_
    refine at_op rfl rfl rfl (aop_buildRow (cs := []) (ds := (([] : List Int).flatMap (Ty.cells (.int .i64)))) tt_ok rfl rfl rfl rfl rfl (by kernel_rfl) rfl WL.nil) ?_
    rintro _ _ ⟨o1, rfl, rfl⟩
    refine at_run tt_ok 2 [(5, (.row o1 (([] : List Int)).length)), (6, (.slc (p0.flatMap (Ty.cells (.int .i64))) p0.length false))] rfl (by kernel_rfl) ?_
    refine at_op rfl rfl rfl (aop_appN (sz := 1) (by' := 8) (g := Ty.cells (.int .i64)) (l := ([] : List Int)) (d := p0) (v := r) (f := false) (id := o1) (j := 0) tt_ok (fun x => Ty.cells_len _ x) h rfl rfl rfl rfl rfl rfl rfl rfl rfl rfl) ?_
    rintro _ _ ⟨o2, rfl, rfl⟩
    refine at_run tt_ok 4 [(2, (.row o2 r.length))] rfl (by kernel_rfl) ?_
    refine at_end rfl ?_
    refine aw_ret ?_
    exact ⟨(.row o2 r.length), (.row o2 r.length), _, (res_tmps (by kernel_rfl)), (View.refl _), ⟨_, perm_sel _ [0], List.take_sublist 1 _⟩, fun _ => o2, (fun _ h => absurd h (Nat.not_lt_zero _)), rfl, rfl⟩
def g_arena_Paths_1 : Sig := { fid := 43, Γ := [.tree, (.list false (.int .i64)), (.int .i64), (.list false (.list false (.int .i64))), (.int .i64)], args := [(.var 0), (.var 1), (.ptr [(.var 2)]), (.ref 0 0), (.ref 1 0)], sto := [(0, (.cells 42 1 [(.row 2 3)] false)), (1, (.cells 70 1 [(.fn 43 [] [(.ptr [(.var 4)]), (.ref 0 0), (.ref 1 0)])] false)), (2, (.list 44 3 none))], nk := 2, nr := 1, Δ := [(.list false (.list false (.int .i64))), (.int .i64)], res := (.tup []), sto' := [(0, (.cells 42 1 [(.row 2 0)] false)), (1, (.cells 70 1 [(.fn 43 [] [(.ptr [(.var 1)]), (.ref 0 0), (.ref 1 0)])] false)), (2, (.list 44 0 none))], nk' := 3, f := fun k x => arena_Paths_1 k x.1 x.2.1 x.2.2.1 x.2.2.2.1 x.2.2.2.2 }
def c_arena_Paths_1_0 : LH ((List (List Int)) × Int) := { Γ := [.tree, (.list false (.int .i64)), (.int .i64), (.list false (.list false (.int .i64)))], live := [(0, (.var 0)), (1, (.var 1)), (4, (.ref 1 0))], sto := [(1, (.cells 70 1 [(.fn 43 [] [(.ptr [(.var 2)]), (.ref 0 0), (.ref 1 0)])] false)), (0, (.cells 42 1 [(.row 2 3)] false)), (2, (.list 44 3 none))], nk := 3, ad := [], F := fun k x => arena_Paths_1_c0 k x.1 x.2.1 x.2.2.1 x.2.2.2 }
def l_arena_Paths_1_0 : LH ((List (List Int)) × Int) := { Γ := [(.list false (.int .i64)), (.list false .tree), (.int .i64), (.int .i64), (.list false (.list false (.int .i64)))], live := [(1, (.var 0)), (4, (.ref 1 0)), (29, (.var 1)), (30, (.len 1)), (31, (.var 2))], sto := [(1, (.cells 70 1 [(.fn 43 [] [(.ptr [(.var 3)]), (.ref 0 0), (.ref 1 0)])] false)), (0, (.cells 42 1 [(.row 2 4)] false)), (2, (.list 44 4 none))], nk := 3, ad := [], F := fun k x => arena_Paths_1_l0 k x.1 x.2.1 x.2.2.1 x.2.2.2.1 x.2.2.2.2 }
def h_arena_Paths_1 : Hints ((List (List Int)) × Int) := { keep := [], ord := [(1, [.l 0, .l 1, .l 2, .l 3, .l 4, .l 5, .l 6, .l 7, .l 8, .l 9]), (2, [.l 0, .l 1, .h 2, .l 3, .h 4, .h 5]), (6, [.l 0, .l 1, .l 2, .l 3, .l 4, .l 5, .l 6, .l 7, .l 8, .l 9, .h 10, .h 11])], loops := [(4, l_arena_Paths_1_0)], unr := [], adr := [], cuts := [(3, c_arena_Paths_1_0)] }
def e_arena_Paths_1 : List Sig := [g_slices_Clone, g_arena_Paths_1]
set_option maxRecDepth 100000 in
theorem arena_Paths_1_eq (k : Nat) (x : Tr × (List Int) × Int × (List (List Int)) × Int) : arena_Paths_1 (k + 1) x.1 x.2.1 x.2.2.1 x.2.2.2.1 x.2.2.2.2 = fx xt e_arena_Paths_1 g_arena_Paths_1 Tryd.f43 h_arena_Paths_1 (bodyOf Tryd.f43) k x := (arena_Paths_1.eq_def (k + 1) x.1 x.2.1 x.2.2.1 x.2.2.2.1 x.2.2.2.2).trans (by kernel_rfl)
set_option maxRecDepth 100000 in
theorem arena_Paths_1_c0_eq (k : Nat) (x : Tr × (List Int) × Int × (List (List Int))) : arena_Paths_1_c0 (k + 1) x.1 x.2.1 x.2.2.1 x.2.2.2 = lrhs xt e_arena_Paths_1 49 2 h_arena_Paths_1 (bodyOf Tryd.f43) (retK xt.T Tryd.f43.results g_arena_Paths_1) 0 c_arena_Paths_1_0 k x := (arena_Paths_1_c0.eq_def (k + 1) x.1 x.2.1 x.2.2.1 x.2.2.2).trans (by kernel_rfl)
set_option maxRecDepth 100000 in
theorem arena_Paths_1_l0_eq (k : Nat) (x : (List Int) × (List Tr) × Int × Int × (List (List Int))) : arena_Paths_1_l0 (k + 1) x.1 x.2.1 x.2.2.1 x.2.2.2.1 x.2.2.2.2 = lrhs xt e_arena_Paths_1 49 2 h_arena_Paths_1 (bodyOf Tryd.f43) (retK xt.T Tryd.f43.results g_arena_Paths_1) 1 l_arena_Paths_1_0 k x := (arena_Paths_1_l0.eq_def (k + 1) x.1 x.2.1 x.2.2.1 x.2.2.2.1 x.2.2.2.2).trans (by kernel_rfl)
theorem arena_Paths_1_all (K : Nat) : SigOk Tryd.prog g_arena_Paths_1 K := by
  induction K using Nat.strongRecOn with
  | ind K ih => exact sig_rec (X := xt) (g := g_arena_Paths_1) (H := h_arena_Paths_1) (env := e_arena_Paths_1) (c := bodyOf Tryd.f43) xt_ok mixed (fun k hk => (AllOk.cons (slices_Clone_ok k) (AllOk.cons (ih k hk) AllOk.nil))) Tryd.func43 (by kernel_rfl) (by kernel_rfl) (by kernel_rfl) (UpTo.all ((UpTo.zero.succ c_arena_Paths_1_0 (by kernel_rfl) (fun _ => rfl) arena_Paths_1_c0_eq).succ l_arena_Paths_1_0 (by kernel_rfl) (fun _ => rfl) arena_Paths_1_l0_eq) (by kernel_rfl) (by kernel_rfl)) (fun _ => rfl) arena_Paths_1_eq
theorem arena_Paths_1_ok (K : Nat) : SigOk Tryd.prog g_arena_Paths_1 K := (arena_Paths_1_all K)
def g_arena_Paths : Sig := { fid := 19, Γ := [.tree, (.int .i64)], args := [(.var 0), (.var 1)], sto := [], nk := 0, nr := 0, Δ := [(.list false (.list false (.int .i64)))], res := (.var 0), sto' := [], nk' := 0, f := fun k x => arena_Paths k x.1 x.2 }
def h_arena_Paths : Hints ((List (List Int))) := { keep := [], ord := [], loops := [], unr := [], adr := [(4, [.c 5 0 44 (.list false (.int .i64))])], cuts := [] }
def e_arena_Paths : List Sig := [g_arena_Paths_1]
set_option maxRecDepth 100000 in
theorem arena_Paths_eq (k : Nat) (x : Tr × Int) : arena_Paths k x.1 x.2 = fx xt e_arena_Paths g_arena_Paths Tryd.f19 h_arena_Paths (bodyOf Tryd.f19) k x := by kernel_rfl
theorem arena_Paths_ok (K : Nat) : SigOk Tryd.prog g_arena_Paths K := sig_fun (X := xt) (g := g_arena_Paths) (H := h_arena_Paths) (env := e_arena_Paths) (c := bodyOf Tryd.f19) xt_ok mixed (fun k => (AllOk.cons (arena_Paths_1_ok k) AllOk.nil)) Tryd.func19 (by kernel_rfl) (by kernel_rfl) (by kernel_rfl) (UpTo.all UpTo.zero (by kernel_rfl) (by kernel_rfl)) arena_Paths_eq K
def g_arena_At : Sig := { fid := 20, Γ := [.tree, (.list false (.int .i64))], args := [(.var 0), (.var 1)], sto := [], nk := 0, nr := 0, Δ := [.tree, (.int .i64)], res := (.tup [(.var 0), (.var 1)]), sto' := [], nk' := 0, f := fun k x => arena_At k x.1 x.2 }
def l_arena_At_0 : LH (Tr × Int) := { Γ := [.tree, (.list false (.int .i64)), (.int .i64)], live := [(0, (.var 0)), (10, (.var 1)), (11, (.len 1)), (12, (.var 2))], sto := [], nk := 0, ad := [], F := fun k x => arena_At_l0 k x.1 x.2.1 x.2.2 }
def h_arena_At : Hints (Tr × Int) := { keep := [], ord := [], loops := [(4, l_arena_At_0)], unr := [], adr := [], cuts := [] }
def e_arena_At : List Sig := []
set_option maxRecDepth 100000 in
theorem arena_At_eq (k : Nat) (x : Tr × (List Int)) : arena_At k x.1 x.2 = fx xt e_arena_At g_arena_At Tryd.f20 h_arena_At (bodyOf Tryd.f20) k x := by kernel_rfl
set_option maxRecDepth 100000 in
theorem arena_At_l0_eq (k : Nat) (x : Tr × (List Int) × Int) : arena_At_l0 (k + 1) x.1 x.2.1 x.2.2 = lrhs xt e_arena_At 46 0 h_arena_At (bodyOf Tryd.f20) (retK xt.T Tryd.f20.results g_arena_At) 0 l_arena_At_0 k x := (arena_At_l0.eq_def (k + 1) x.1 x.2.1 x.2.2).trans (by kernel_rfl)
theorem arena_At_ok (K : Nat) : SigOk Tryd.prog g_arena_At K := sig_fun (X := xt) (g := g_arena_At) (H := h_arena_At) (env := e_arena_At) (c := bodyOf Tryd.f20) xt_ok mixed (fun k => AllOk.nil) Tryd.func20 (by kernel_rfl) (by kernel_rfl) (by kernel_rfl) (UpTo.all (UpTo.zero.succ l_arena_At_0 (by kernel_rfl) (fun _ => rfl) arena_At_l0_eq) (by kernel_rfl) (by kernel_rfl)) arena_At_eq K
def g_law05_ShapeParts : Sig := { fid := 6, Γ := [(.list false (.pair (.int .i64) (.pair (.int .i64) (.pair .str (.pair .str (.list false (.int .i64)))))))], args := [(.agg [(.var 0)])], sto := [], nk := 0, nr := 0, Δ := [.bool], res := (.var 0), sto' := [], nk' := 0, f := fun k x => law05_ShapeParts k x }
def l_law05_ShapeParts_0 : LH (Bool) := { Γ := [.tree, .bool, (.list false (.int .i64)), (.int .i64)], live := [(3, (.var 0)), (5, (.var 1)), (25, (.var 2)), (26, (.len 2)), (27, (.var 3))], sto := [], nk := 0, ad := [], F := fun k x => law05_ShapeParts_l0 k x.1 x.2.1 x.2.2.1 x.2.2.2 }
def l_law05_ShapeParts_1 : LH (Bool) := { Γ := [.tree, (.list false (.list false (.int .i64))), (.int .i64)], live := [(3, (.var 0)), (41, (.var 1)), (42, (.len 1)), (43, (.var 2))], sto := [], nk := 0, ad := [], F := fun k x => law05_ShapeParts_l1 k x.1 x.2.1 x.2.2 }
def l_law05_ShapeParts_2 : LH (Bool) := { Γ := [.tree, .bool, (.list false (.list false (.int .i64))), (.int .i64), (.list false (.int .i64)), (.int .i64)], live := [(3, (.var 0)), (12, (.var 1)), (41, (.var 2)), (42, (.len 2)), (43, (.var 3)), (76, (.var 4)), (77, (.len 4)), (78, (.var 5))], sto := [], nk := 0, ad := [], F := fun k x => law05_ShapeParts_l2 k x.1 x.2.1 x.2.2.1 x.2.2.2.1 x.2.2.2.2.1 x.2.2.2.2.2 }
def h_law05_ShapeParts : Hints (Bool) := { keep := [], ord := [], loops := [(6, l_law05_ShapeParts_0), (13, l_law05_ShapeParts_1), (20, l_law05_ShapeParts_2)], unr := [], adr := [], cuts := [] }
def e_law05_ShapeParts : List Sig := [g_law05_few, g_arena_Open, g_law05_works, g_law05_all, g_arena_Paths, g_arena_At]
set_option maxRecDepth 100000 in
theorem law05_ShapeParts_eq (k : Nat) (x : (List (Int × Int × (List UInt8) × (List UInt8) × (List Int)))) : law05_ShapeParts k x = fx xt e_law05_ShapeParts g_law05_ShapeParts Tryd.f6 h_law05_ShapeParts (bodyOf Tryd.f6) k x := by kernel_rfl
set_option maxRecDepth 100000 in
theorem law05_ShapeParts_l0_eq (k : Nat) (x : Tr × Bool × (List Int) × Int) : law05_ShapeParts_l0 (k + 1) x.1 x.2.1 x.2.2.1 x.2.2.2 = lrhs xt e_law05_ShapeParts 92 0 h_law05_ShapeParts (bodyOf Tryd.f6) (retK xt.T Tryd.f6.results g_law05_ShapeParts) 0 l_law05_ShapeParts_0 k x := (law05_ShapeParts_l0.eq_def (k + 1) x.1 x.2.1 x.2.2.1 x.2.2.2).trans (by kernel_rfl)
set_option maxRecDepth 100000 in
theorem law05_ShapeParts_l1_eq (k : Nat) (x : Tr × (List (List Int)) × Int) : law05_ShapeParts_l1 (k + 1) x.1 x.2.1 x.2.2 = lrhs xt e_law05_ShapeParts 92 0 h_law05_ShapeParts (bodyOf Tryd.f6) (retK xt.T Tryd.f6.results g_law05_ShapeParts) 1 l_law05_ShapeParts_1 k x := (law05_ShapeParts_l1.eq_def (k + 1) x.1 x.2.1 x.2.2).trans (by kernel_rfl)
set_option maxRecDepth 100000 in
theorem law05_ShapeParts_l2_eq (k : Nat) (x : Tr × Bool × (List (List Int)) × Int × (List Int) × Int) : law05_ShapeParts_l2 (k + 1) x.1 x.2.1 x.2.2.1 x.2.2.2.1 x.2.2.2.2.1 x.2.2.2.2.2 = lrhs xt e_law05_ShapeParts 92 0 h_law05_ShapeParts (bodyOf Tryd.f6) (retK xt.T Tryd.f6.results g_law05_ShapeParts) 2 l_law05_ShapeParts_2 k x := (law05_ShapeParts_l2.eq_def (k + 1) x.1 x.2.1 x.2.2.1 x.2.2.2.1 x.2.2.2.2.1 x.2.2.2.2.2).trans (by kernel_rfl)
theorem law05_ShapeParts_ok (K : Nat) : SigOk Tryd.prog g_law05_ShapeParts K := sig_fun (X := xt) (g := g_law05_ShapeParts) (H := h_law05_ShapeParts) (env := e_law05_ShapeParts) (c := bodyOf Tryd.f6) xt_ok mixed (fun k => (AllOk.cons (law05_few_ok k) (AllOk.cons (arena_Open_ok k) (AllOk.cons (law05_works_ok k) (AllOk.cons (law05_all_ok k) (AllOk.cons (arena_Paths_ok k) (AllOk.cons (arena_At_ok k) AllOk.nil))))))) Tryd.func6 (by kernel_rfl) (by kernel_rfl) (by kernel_rfl) (UpTo.all (((UpTo.zero.succ l_law05_ShapeParts_0 (by kernel_rfl) (fun _ => rfl) law05_ShapeParts_l0_eq).succ l_law05_ShapeParts_1 (by kernel_rfl) (fun _ => rfl) law05_ShapeParts_l1_eq).succ l_law05_ShapeParts_2 (by kernel_rfl) (fun _ => rfl) law05_ShapeParts_l2_eq) (by kernel_rfl) (by kernel_rfl)) law05_ShapeParts_eq K
def g_slices_Clone_2 : Sig := { fid := 77, Γ := [(.list false .tree)], args := [(.var 0)], sto := [], nk := 0, nr := 0, Δ := [(.list false .tree)], res := (.row 0 0), sto' := [(0, (.list 25 0 none))], nk' := 1, f := fun k x => slices_Clone_2 k x }
set_option maxRecDepth 100000 in
theorem slices_Clone_2_ok (K : Nat) : SigOk Tryd.prog g_slices_Clone_2 K := by
  refine ⟨⟨_, Tryd.func77, by kernel_rfl, by kernel_rfl⟩, ?_⟩
  show ∀ (ids : Ids) (p0 r : List Tr), appL 8 [] p0 = some r → ACalls Tryd.prog 77 [(.slc (p0.flatMap (Ty.cells .tree)) p0.length false)] [] (fun av s => ∃ ids' : Ids, (∀ k, k < 0 → ids' k = ids k) ∧ av = .row (ids' 0) r.length ∧ s = [(ids' 0, .row 25 1 (r.flatMap (Ty.cells .tree)) 0)])
  intro ids p0 r h
  refine acalls_enter Tryd.func77 rfl rfl ?_
  refine aw_seq ?_
  refine aw_normal [(0, (.slc (p0.flatMap (Ty.cells .tree)) p0.length false))] (s' := []) (by kernel_rfl) rfl ?_
  refine aw_reg ?_
  refine at_run tt_ok 1 [(0, (.slc (p0.flatMap (Ty.cells .tree)) p0.length false))] rfl (by kernel_rfl) ?_
  refine at_end rfl ?_
  refine aw_seq ?_
  refine aw_seq ?_
  refine aw_slcCases 0 rfl (fun hn _ => ?_) ?_
  · obtain rfl : p0 = [] := List.length_eq_zero_iff.1 hn
    have h : (some ([] : List Tr)) = some r := by first | exact h | simpa [appL] using h
    refine aw_reg ?_
    refine at_run tt_ok 2 [(0, (.lit (.slice none 0 0))), (4, (.b true))] rfl (by kernel_rfl) ?_
    refine at_end rfl ?_
    refine aw_cond true rfl (fun _ => ?_) (fun h => by cases h)
    refine aw_seq ?_
    refine aw_reg ?_
    refine at_run tt_ok 1 [(2, (.lit (.slice none 0 0)))] rfl (by kernel_rfl) ?_
    refine at_end rfl ?_
    refine aw_adopt 2 25 1 rfl (fun o => ?_)
    refine aw_ret ?_
    obtain rfl := Option.some.inj h
    exact ⟨(.row o 0), (.row o 0), _, (res_tmps (by kernel_rfl)), (View.refl _), ⟨_, perm_sel _ [0], List.take_sublist 1 _⟩, fun _ => o, (fun _ h => absurd h (Nat.not_lt_zero _)), rfl, rfl⟩
  · refine aw_reg ?_
    refine at_run tt_ok 2 [(0, (.nslc (p0.flatMap (Ty.cells .tree)) p0.length false)), (4, (.b false))] rfl (by kernel_rfl) ?_
    refine at_end rfl ?_
    refine aw_shift (Shift.weak 0 rfl (Weak.nslc _ _ _)) ?_
    refine aw_normal [(0, (.slc (p0.flatMap (Ty.cells .tree)) p0.length false)), (4, (.b false))] (s' := []) (by kernel_rfl) rfl ?_
    refine aw_cond false rfl (fun h => by cases h) (fun _ => ?_)
    refine aw_skip ?_
    refine aw_seq ?_
    refine aw_reg ?_
    refine at_op rfl rfl rfl (aop_buildRow (cs := []) (ds := (([] : List Tr).flatMap (Ty.cells .tree))) tt_ok rfl rfl rfl rfl rfl (by kernel_rfl) rfl WL.nil) ?_
    rintro _ _ ⟨o1, rfl, rfl⟩
    refine at_run tt_ok 2 [(5, (.row o1 (([] : List Tr)).length)), (6, (.slc (p0.flatMap (Ty.cells .tree)) p0.length false))] rfl (by kernel_rfl) ?_
    refine at_op rfl rfl rfl (aop_appN (sz := 1) (by' := 8) (g := Ty.cells .tree) (l := ([] : List Tr)) (d := p0) (v := r) (f := false) (id := o1) (j := 0) tt_ok (fun x => Ty.cells_len _ x) h rfl rfl rfl rfl rfl rfl rfl rfl rfl rfl) ?_
    rintro _ _ ⟨o2, rfl, rfl⟩
    refine at_run tt_ok 4 [(2, (.row o2 r.length))] rfl (by kernel_rfl) ?_
    refine at_end rfl ?_
    refine aw_ret ?_
    exact ⟨(.row o2 r.length), (.row o2 r.length), _, (res_tmps (by kernel_rfl)), (View.refl _), ⟨_, perm_sel _ [0], List.take_sublist 1 _⟩, fun _ => o2, (fun _ h => absurd h (Nat.not_lt_zero _)), rfl, rfl⟩
def g_arena_put : Sig := { fid := 45, Γ := [.tree, (.list false (.int .i64)), .tree], args := [(.var 0), (.var 1), (.var 2)], sto := [], nk := 0, nr := 0, Δ := [.tree], res := (.var 0), sto' := [], nk' := 0, f := fun k x => arena_put k x.1 x.2.1 x.2.2 }
def h_arena_put : Hints (Tr) := { keep := [], ord := [(5, [.l 0, .l 1, .l 2, .l 3, .l 4, .l 5, .l 6, .l 7, .l 8, .l 9, .l 10, .l 11, .l 12, .l 13, .l 14, .l 15, .l 16, .h 17, .l 18, .h 19])], loops := [], unr := [], adr := [], cuts := [] }
def e_arena_put : List Sig := [g_slices_Clone_2, g_arena_put]
set_option maxRecDepth 100000 in
theorem arena_put_eq (k : Nat) (x : Tr × (List Int) × Tr) : arena_put (k + 1) x.1 x.2.1 x.2.2 = fx xt e_arena_put g_arena_put Tryd.f45 h_arena_put (bodyOf Tryd.f45) k x := (arena_put.eq_def (k + 1) x.1 x.2.1 x.2.2).trans (by kernel_rfl)
theorem arena_put_all (K : Nat) : SigOk Tryd.prog g_arena_put K := by
  induction K using Nat.strongRecOn with
  | ind K ih => exact sig_rec (X := xt) (g := g_arena_put) (H := h_arena_put) (env := e_arena_put) (c := bodyOf Tryd.f45) xt_ok mixed (fun k hk => (AllOk.cons (slices_Clone_2_ok k) (AllOk.cons (ih k hk) AllOk.nil))) Tryd.func45 (by kernel_rfl) (by kernel_rfl) (by kernel_rfl) (UpTo.all UpTo.zero (by kernel_rfl) (by kernel_rfl)) (fun _ => rfl) arena_put_eq
theorem arena_put_ok (K : Nat) : SigOk Tryd.prog g_arena_put K := (arena_put_all K)
def g_arena_Put : Sig := { fid := 21, Γ := [.tree, (.list false (.int .i64)), .tree], args := [(.var 0), (.var 1), (.var 2)], sto := [], nk := 0, nr := 0, Δ := [.tree, (.int .i64)], res := (.tup [(.var 0), (.var 1)]), sto' := [], nk' := 0, f := fun k x => arena_Put k x.1 x.2.1 x.2.2 }
def h_arena_Put : Hints (Tr × Int) := { keep := [], ord := [], loops := [], unr := [], adr := [], cuts := [] }
def e_arena_Put : List Sig := [g_arena_At, g_arena_put]
set_option maxRecDepth 100000 in
theorem arena_Put_eq (k : Nat) (x : Tr × (List Int) × Tr) : arena_Put k x.1 x.2.1 x.2.2 = fx xt e_arena_Put g_arena_Put Tryd.f21 h_arena_Put (bodyOf Tryd.f21) k x := by kernel_rfl
theorem arena_Put_ok (K : Nat) : SigOk Tryd.prog g_arena_Put K := sig_fun (X := xt) (g := g_arena_Put) (H := h_arena_Put) (env := e_arena_Put) (c := bodyOf Tryd.f21) xt_ok mixed (fun k => (AllOk.cons (arena_At_ok k) (AllOk.cons (arena_put_ok k) AllOk.nil))) Tryd.func21 (by kernel_rfl) (by kernel_rfl) (by kernel_rfl) (UpTo.all UpTo.zero (by kernel_rfl) (by kernel_rfl)) arena_Put_eq K
def g_law05_ShapePuts : Sig := { fid := 7, Γ := [(.list false (.pair (.int .i64) (.pair (.int .i64) (.pair .str (.pair .str (.list false (.int .i64))))))), (.int .i64), (.list false (.pair (.int .i64) (.pair (.int .i64) (.pair .str (.pair .str (.list false (.int .i64)))))))], args := [(.agg [(.var 0)]), (.var 1), (.agg [(.var 2)])], sto := [], nk := 0, nr := 0, Δ := [.bool], res := (.var 0), sto' := [], nk' := 0, f := fun k x => law05_ShapePuts k x.1 x.2.1 x.2.2 }
def c_law05_ShapePuts_0 : LH (Bool) := { Γ := [(.int .i64), .tree, .tree, (.list false (.list false (.int .i64)))], live := [(1, (.var 0)), (7, (.var 1)), (9, (.var 2)), (11, (.var 3))], sto := [], nk := 0, ad := [], F := fun k x => law05_ShapePuts_c0 k x.1 x.2.1 x.2.2.1 x.2.2.2 }
def h_law05_ShapePuts : Hints (Bool) := { keep := [], ord := [], loops := [], unr := [], adr := [], cuts := [(8, c_law05_ShapePuts_0)] }
def e_law05_ShapePuts : List Sig := [g_law05_few, g_arena_Open, g_law05_works, g_shape_Prog, g_shape_Expr, g_arena_Paths, g_arena_Put, g_arena_Deep]
set_option maxRecDepth 100000 in
theorem law05_ShapePuts_eq (k : Nat) (x : (List (Int × Int × (List UInt8) × (List UInt8) × (List Int))) × Int × (List (Int × Int × (List UInt8) × (List UInt8) × (List Int)))) : law05_ShapePuts k x.1 x.2.1 x.2.2 = fx xt e_law05_ShapePuts g_law05_ShapePuts Tryd.f7 h_law05_ShapePuts (bodyOf Tryd.f7) k x := by kernel_rfl
set_option maxRecDepth 100000 in
theorem law05_ShapePuts_c0_eq (k : Nat) (x : Int × Tr × Tr × (List (List Int))) : law05_ShapePuts_c0 (k + 1) x.1 x.2.1 x.2.2.1 x.2.2.2 = lrhs xt e_law05_ShapePuts 111 0 h_law05_ShapePuts (bodyOf Tryd.f7) (retK xt.T Tryd.f7.results g_law05_ShapePuts) 0 c_law05_ShapePuts_0 k x := (law05_ShapePuts_c0.eq_def (k + 1) x.1 x.2.1 x.2.2.1 x.2.2.2).trans (by kernel_rfl)
theorem law05_ShapePuts_ok (K : Nat) : SigOk Tryd.prog g_law05_ShapePuts K := sig_fun (X := xt) (g := g_law05_ShapePuts) (H := h_law05_ShapePuts) (env := e_law05_ShapePuts) (c := bodyOf Tryd.f7) xt_ok mixed (fun k => (AllOk.cons (law05_few_ok k) (AllOk.cons (arena_Open_ok k) (AllOk.cons (law05_works_ok k) (AllOk.cons (shape_Prog_ok k) (AllOk.cons (shape_Expr_ok k) (AllOk.cons (arena_Paths_ok k) (AllOk.cons (arena_Put_ok k) (AllOk.cons (arena_Deep_ok k) AllOk.nil))))))))) Tryd.func7 (by kernel_rfl) (by kernel_rfl) (by kernel_rfl) (UpTo.all (UpTo.zero.succ c_law05_ShapePuts_0 (by kernel_rfl) (fun _ => rfl) law05_ShapePuts_c0_eq) (by kernel_rfl) (by kernel_rfl)) law05_ShapePuts_eq K
end Go.Proofs.YtojooakojnelbaaDoor

