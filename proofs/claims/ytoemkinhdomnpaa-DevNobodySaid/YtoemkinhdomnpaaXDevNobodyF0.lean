/- The types of the program, and its functions as the code computes them, each proved. -/
import Derived.Test.YtoemkinhdomnpaaKy
import Derived.Test.YtoemkinhdomnpaaProg
set_option linter.unusedVariables false
set_option linter.unusedSimpArgs false
namespace Go.SK.T
open Go Go.SK Go.Proofs
def tt : TT := [(1, ⟨.func, 1, 8, .nilFunc⟩),
  (2, ⟨.int .i64, 1, 8, .int .i64 0⟩),
  (3, ⟨.int .i64, 1, 8, .int .i64 0⟩),
  (4, ⟨.bool, 1, 1, .bool false⟩),
  (5, ⟨.int .u8, 1, 1, .int .u8 0⟩),
  (6, ⟨.int .u8, 1, 1, .int .u8 0⟩),
  (9, ⟨.str, 1, 16, .string ⟨⟨[]⟩⟩⟩),
  (10, ⟨.str, 1, 16, .string ⟨⟨[]⟩⟩⟩),
  (11, ⟨.str, 1, 16, .string ⟨⟨[]⟩⟩⟩),
  (12, ⟨.int .u64, 1, 8, .int .u64 0⟩),
  (15, ⟨.ptr 244, 1, 8, .pointer none⟩),
  (16, ⟨.ptr 247, 1, 8, .pointer none⟩),
  (17, ⟨.ptr 255, 1, 8, .pointer none⟩),
  (20, ⟨.iface, 1, 16, .nilIface⟩),
  (21, ⟨.int .i32, 1, 4, .int .i32 0⟩),
  (22, ⟨.slice 30, 1, 24, .slice none 0 0⟩),
  (23, ⟨.int .u32, 1, 4, .int .u32 0⟩),
  (24, ⟨.ptr 51, 1, 8, .pointer none⟩),
  (25, ⟨.int .i64, 1, 8, .int .i64 0⟩),
  (27, ⟨.func, 1, 8, .nilFunc⟩),
  (28, ⟨.slice 5, 1, 24, .slice none 0 0⟩),
  (29, ⟨.struct [(3, 0, 1), (23, 1, 1), (28, 2, 1)], 3, 40, .agg #[.int .i64 0, .int .u32 0, .slice none 0 0]⟩),
  (30, ⟨.struct [(3, 0, 1), (23, 1, 1), (28, 2, 1)], 3, 40, .agg #[.int .i64 0, .int .u32 0, .slice none 0 0]⟩),
  (31, ⟨.func, 1, 8, .nilFunc⟩),
  (33, ⟨.func, 1, 8, .nilFunc⟩),
  (34, ⟨.func, 1, 8, .nilFunc⟩),
  (35, ⟨.func, 1, 8, .nilFunc⟩),
  (36, ⟨.func, 1, 8, .nilFunc⟩),
  (37, ⟨.func, 1, 8, .nilFunc⟩),
  (38, ⟨.slice 9, 1, 24, .slice none 0 0⟩),
  (39, ⟨.struct [(3, 0, 1), (38, 1, 1), (3, 2, 1), (3, 3, 1)], 4, 48, .agg #[.int .i64 0, .slice none 0 0, .int .i64 0, .int .i64 0]⟩),
  (40, ⟨.struct [(3, 0, 1), (38, 1, 1), (3, 2, 1), (3, 3, 1)], 4, 48, .agg #[.int .i64 0, .slice none 0 0, .int .i64 0, .int .i64 0]⟩),
  (42, ⟨.func, 1, 8, .nilFunc⟩),
  (43, ⟨.func, 1, 8, .nilFunc⟩),
  (44, ⟨.func, 1, 8, .nilFunc⟩),
  (45, ⟨.func, 1, 8, .nilFunc⟩),
  (46, ⟨.func, 1, 8, .nilFunc⟩),
  (47, ⟨.int .u64, 1, 8, .int .u64 0⟩),
  (48, ⟨.struct [(47, 0, 1), (47, 1, 1)], 2, 16, .agg #[.int .u64 0, .int .u64 0]⟩),
  (49, ⟨.struct [(47, 0, 1), (47, 1, 1)], 2, 16, .agg #[.int .u64 0, .int .u64 0]⟩),
  (50, ⟨.struct [(3, 0, 1), (28, 1, 1), (49, 2, 2)], 4, 48, .agg #[.int .i64 0, .slice none 0 0, .int .u64 0, .int .u64 0]⟩),
  (51, ⟨.struct [(3, 0, 1), (28, 1, 1), (49, 2, 2)], 4, 48, .agg #[.int .i64 0, .slice none 0 0, .int .u64 0, .int .u64 0]⟩),
  (52, ⟨.slice 24, 1, 24, .slice none 0 0⟩),
  (53, ⟨.func, 1, 8, .nilFunc⟩),
  (54, ⟨.func, 1, 8, .nilFunc⟩),
  (55, ⟨.func, 1, 8, .nilFunc⟩),
  (57, ⟨.func, 1, 8, .nilFunc⟩),
  (58, ⟨.func, 1, 8, .nilFunc⟩),
  (59, ⟨.func, 1, 8, .nilFunc⟩),
  (60, ⟨.struct [(3, 0, 1), (3, 1, 1), (3, 2, 1), (3, 3, 1), (3, 4, 1), (3, 5, 1), (3, 6, 1), (3, 7, 1)], 8, 64, .agg #[.int .i64 0, .int .i64 0, .int .i64 0, .int .i64 0, .int .i64 0, .int .i64 0, .int .i64 0, .int .i64 0]⟩),
  (61, ⟨.struct [(3, 0, 1), (3, 1, 1), (3, 2, 1), (3, 3, 1), (3, 4, 1), (3, 5, 1), (3, 6, 1), (3, 7, 1)], 8, 64, .agg #[.int .i64 0, .int .i64 0, .int .i64 0, .int .i64 0, .int .i64 0, .int .i64 0, .int .i64 0, .int .i64 0]⟩),
  (62, ⟨.slice 64, 1, 24, .slice none 0 0⟩),
  (63, ⟨.struct [(3, 0, 1), (9, 1, 1), (9, 2, 1), (3, 3, 1)], 4, 48, .agg #[.int .i64 0, .string ⟨⟨[]⟩⟩, .string ⟨⟨[]⟩⟩, .int .i64 0]⟩),
  (64, ⟨.struct [(3, 0, 1), (9, 1, 1), (9, 2, 1), (3, 3, 1)], 4, 48, .agg #[.int .i64 0, .string ⟨⟨[]⟩⟩, .string ⟨⟨[]⟩⟩, .int .i64 0]⟩),
  (65, ⟨.ptr 132, 1, 8, .pointer none⟩),
  (66, ⟨.func, 1, 8, .nilFunc⟩),
  (67, ⟨.func, 1, 8, .nilFunc⟩),
  (68, ⟨.slice 75, 1, 24, .slice none 0 0⟩),
  (69, ⟨.struct [(25, 0, 1), (9, 1, 1), (68, 2, 1)], 3, 48, .agg #[.int .i64 0, .string ⟨⟨[]⟩⟩, .slice none 0 0]⟩),
  (70, ⟨.struct [(25, 0, 1), (9, 1, 1), (68, 2, 1)], 3, 48, .agg #[.int .i64 0, .string ⟨⟨[]⟩⟩, .slice none 0 0]⟩),
  (71, ⟨.func, 1, 8, .nilFunc⟩),
  (72, ⟨.func, 1, 8, .nilFunc⟩),
  (73, ⟨.func, 1, 8, .nilFunc⟩),
  (74, ⟨.struct [(9, 0, 1), (9, 1, 1)], 2, 32, .agg #[.string ⟨⟨[]⟩⟩, .string ⟨⟨[]⟩⟩]⟩),
  (75, ⟨.struct [(9, 0, 1), (9, 1, 1)], 2, 32, .agg #[.string ⟨⟨[]⟩⟩, .string ⟨⟨[]⟩⟩]⟩),
  (76, ⟨.func, 1, 8, .nilFunc⟩),
  (77, ⟨.func, 1, 8, .nilFunc⟩),
  (78, ⟨.func, 1, 8, .nilFunc⟩),
  (79, ⟨.struct [(3, 0, 1), (9, 1, 1), (68, 2, 1)], 3, 48, .agg #[.int .i64 0, .string ⟨⟨[]⟩⟩, .slice none 0 0]⟩),
  (80, ⟨.struct [(3, 0, 1), (9, 1, 1), (68, 2, 1)], 3, 48, .agg #[.int .i64 0, .string ⟨⟨[]⟩⟩, .slice none 0 0]⟩),
  (81, ⟨.func, 1, 8, .nilFunc⟩),
  (82, ⟨.func, 1, 8, .nilFunc⟩),
  (83, ⟨.slice 23, 1, 24, .slice none 0 0⟩),
  (84, ⟨.slice 135, 1, 24, .slice none 0 0⟩),
  (85, ⟨.struct [(3, 0, 1), (83, 1, 1), (38, 2, 1), (84, 3, 1), (68, 4, 1)], 5, 104, .agg #[.int .i64 0, .slice none 0 0, .slice none 0 0, .slice none 0 0, .slice none 0 0]⟩),
  (86, ⟨.struct [(3, 0, 1), (83, 1, 1), (38, 2, 1), (84, 3, 1), (68, 4, 1)], 5, 104, .agg #[.int .i64 0, .slice none 0 0, .slice none 0 0, .slice none 0 0, .slice none 0 0]⟩),
  (87, ⟨.func, 1, 8, .nilFunc⟩),
  (89, ⟨.func, 1, 8, .nilFunc⟩),
  (90, ⟨.func, 1, 8, .nilFunc⟩),
  (91, ⟨.func, 1, 8, .nilFunc⟩),
  (92, ⟨.struct [(9, 0, 1), (9, 1, 1), (4, 2, 1)], 3, 40, .agg #[.string ⟨⟨[]⟩⟩, .string ⟨⟨[]⟩⟩, .bool false]⟩),
  (93, ⟨.struct [(9, 0, 1), (9, 1, 1), (4, 2, 1)], 3, 40, .agg #[.string ⟨⟨[]⟩⟩, .string ⟨⟨[]⟩⟩, .bool false]⟩),
  (95, ⟨.func, 1, 8, .nilFunc⟩),
  (96, ⟨.func, 1, 8, .nilFunc⟩),
  (97, ⟨.slice 102, 1, 24, .slice none 0 0⟩),
  (98, ⟨.ptr 113, 1, 8, .pointer none⟩),
  (100, ⟨.func, 1, 8, .nilFunc⟩),
  (101, ⟨.func, 1, 8, .nilFunc⟩),
  (102, ⟨.struct [(3, 0, 1), (23, 1, 1), (28, 2, 1)], 3, 40, .agg #[.int .i64 0, .int .u32 0, .slice none 0 0]⟩),
  (103, ⟨.func, 1, 8, .nilFunc⟩),
  (105, ⟨.func, 1, 8, .nilFunc⟩),
  (106, ⟨.func, 1, 8, .nilFunc⟩),
  (107, ⟨.func, 1, 8, .nilFunc⟩),
  (108, ⟨.slice 162, 1, 24, .slice none 0 0⟩),
  (109, ⟨.map 23 3, 1, 8, .map none⟩),
  (110, ⟨.slice 3, 1, 24, .slice none 0 0⟩),
  (111, ⟨.ptr 203, 1, 8, .pointer none⟩),
  (112, ⟨.struct [(24, 0, 1), (108, 1, 1), (109, 2, 1), (110, 3, 1), (111, 4, 1)], 5, 72, .agg #[.pointer none, .slice none 0 0, .map none, .slice none 0 0, .pointer none]⟩),
  (113, ⟨.struct [(24, 0, 1), (108, 1, 1), (109, 2, 1), (110, 3, 1), (111, 4, 1)], 5, 72, .agg #[.pointer none, .slice none 0 0, .map none, .slice none 0 0, .pointer none]⟩),
  (114, ⟨.slice 98, 1, 24, .slice none 0 0⟩),
  (115, ⟨.func, 1, 8, .nilFunc⟩),
  (116, ⟨.func, 1, 8, .nilFunc⟩),
  (117, ⟨.func, 1, 8, .nilFunc⟩),
  (118, ⟨.slice 178, 1, 24, .slice none 0 0⟩),
  (119, ⟨.struct [(40, 0, 4), (118, 4, 1), (3, 5, 1), (83, 6, 1)], 7, 104, .agg #[.int .i64 0, .slice none 0 0, .int .i64 0, .int .i64 0, .slice none 0 0, .int .i64 0, .slice none 0 0]⟩),
  (120, ⟨.struct [(40, 0, 4), (118, 4, 1), (3, 5, 1), (83, 6, 1)], 7, 104, .agg #[.int .i64 0, .slice none 0 0, .int .i64 0, .int .i64 0, .slice none 0 0, .int .i64 0, .slice none 0 0]⟩),
  (122, ⟨.func, 1, 8, .nilFunc⟩),
  (124, ⟨.func, 1, 8, .nilFunc⟩),
  (125, ⟨.func, 1, 8, .nilFunc⟩),
  (126, ⟨.func, 1, 8, .nilFunc⟩),
  (127, ⟨.func, 1, 8, .nilFunc⟩),
  (128, ⟨.func, 1, 8, .nilFunc⟩),
  (129, ⟨.func, 1, 8, .nilFunc⟩),
  (130, ⟨.func, 1, 8, .nilFunc⟩),
  (131, ⟨.struct [(61, 0, 8), (68, 8, 1)], 9, 88, .agg #[.int .i64 0, .int .i64 0, .int .i64 0, .int .i64 0, .int .i64 0, .int .i64 0, .int .i64 0, .int .i64 0, .slice none 0 0]⟩),
  (132, ⟨.struct [(61, 0, 8), (68, 8, 1)], 9, 88, .agg #[.int .i64 0, .int .i64 0, .int .i64 0, .int .i64 0, .int .i64 0, .int .i64 0, .int .i64 0, .int .i64 0, .slice none 0 0]⟩),
  (133, ⟨.func, 1, 8, .nilFunc⟩),
  (134, ⟨.struct [(9, 0, 1), (4, 1, 1), (9, 2, 1)], 3, 40, .agg #[.string ⟨⟨[]⟩⟩, .bool false, .string ⟨⟨[]⟩⟩]⟩),
  (135, ⟨.struct [(9, 0, 1), (4, 1, 1), (9, 2, 1)], 3, 40, .agg #[.string ⟨⟨[]⟩⟩, .bool false, .string ⟨⟨[]⟩⟩]⟩),
  (136, ⟨.func, 1, 8, .nilFunc⟩),
  (137, ⟨.func, 1, 8, .nilFunc⟩),
  (138, ⟨.func, 1, 8, .nilFunc⟩),
  (140, ⟨.func, 1, 8, .nilFunc⟩),
  (141, ⟨.func, 1, 8, .nilFunc⟩),
  (142, ⟨.func, 1, 8, .nilFunc⟩),
  (143, ⟨.func, 1, 8, .nilFunc⟩),
  (144, ⟨.slice 86, 1, 24, .slice none 0 0⟩),
  (145, ⟨.func, 1, 8, .nilFunc⟩),
  (146, ⟨.func, 1, 8, .nilFunc⟩),
  (148, ⟨.func, 1, 8, .nilFunc⟩),
  (149, ⟨.func, 1, 8, .nilFunc⟩),
  (150, ⟨.func, 1, 8, .nilFunc⟩),
  (151, ⟨.func, 1, 8, .nilFunc⟩),
  (152, ⟨.func, 1, 8, .nilFunc⟩),
  (153, ⟨.func, 1, 8, .nilFunc⟩),
  (154, ⟨.func, 1, 8, .nilFunc⟩),
  (155, ⟨.func, 1, 8, .nilFunc⟩),
  (157, ⟨.func, 1, 8, .nilFunc⟩),
  (158, ⟨.ptr 162, 1, 8, .pointer none⟩),
  (160, ⟨.func, 1, 8, .nilFunc⟩),
  (161, ⟨.struct [(23, 0, 1), (28, 1, 1), (4, 2, 1), (3, 3, 1)], 4, 48, .agg #[.int .u32 0, .slice none 0 0, .bool false, .int .i64 0]⟩),
  (162, ⟨.struct [(23, 0, 1), (28, 1, 1), (4, 2, 1), (3, 3, 1)], 4, 48, .agg #[.int .u32 0, .slice none 0 0, .bool false, .int .i64 0]⟩),
  (163, ⟨.func, 1, 8, .nilFunc⟩),
  (164, ⟨.func, 1, 8, .nilFunc⟩),
  (165, ⟨.func, 1, 8, .nilFunc⟩),
  (166, ⟨.func, 1, 8, .nilFunc⟩),
  (167, ⟨.func, 1, 8, .nilFunc⟩),
  (169, ⟨.func, 1, 8, .nilFunc⟩),
  (170, ⟨.func, 1, 8, .nilFunc⟩),
  (171, ⟨.func, 1, 8, .nilFunc⟩),
  (172, ⟨.func, 1, 8, .nilFunc⟩),
  (173, ⟨.func, 1, 8, .nilFunc⟩),
  (174, ⟨.func, 1, 8, .nilFunc⟩),
  (175, ⟨.func, 1, 8, .nilFunc⟩),
  (176, ⟨.func, 1, 8, .nilFunc⟩),
  (177, ⟨.struct [(23, 0, 1), (9, 1, 1), (4, 2, 1), (3, 3, 1)], 4, 40, .agg #[.int .u32 0, .string ⟨⟨[]⟩⟩, .bool false, .int .i64 0]⟩),
  (178, ⟨.struct [(23, 0, 1), (9, 1, 1), (4, 2, 1), (3, 3, 1)], 4, 40, .agg #[.int .u32 0, .string ⟨⟨[]⟩⟩, .bool false, .int .i64 0]⟩),
  (179, ⟨.func, 1, 8, .nilFunc⟩),
  (180, ⟨.func, 1, 8, .nilFunc⟩),
  (181, ⟨.func, 1, 8, .nilFunc⟩),
  (182, ⟨.func, 1, 8, .nilFunc⟩),
  (183, ⟨.func, 1, 8, .nilFunc⟩),
  (184, ⟨.func, 1, 8, .nilFunc⟩),
  (185, ⟨.func, 1, 8, .nilFunc⟩),
  (187, ⟨.func, 1, 8, .nilFunc⟩),
  (188, ⟨.func, 1, 8, .nilFunc⟩),
  (189, ⟨.func, 1, 8, .nilFunc⟩),
  (190, ⟨.func, 1, 8, .nilFunc⟩),
  (191, ⟨.func, 1, 8, .nilFunc⟩),
  (193, ⟨.func, 1, 8, .nilFunc⟩),
  (194, ⟨.func, 1, 8, .nilFunc⟩),
  (195, ⟨.func, 1, 8, .nilFunc⟩),
  (196, ⟨.func, 1, 8, .nilFunc⟩),
  (197, ⟨.func, 1, 8, .nilFunc⟩),
  (198, ⟨.func, 1, 8, .nilFunc⟩),
  (199, ⟨.func, 1, 8, .nilFunc⟩),
  (200, ⟨.func, 1, 8, .nilFunc⟩),
  (201, ⟨.slice 205, 1, 24, .slice none 0 0⟩),
  (202, ⟨.struct [(201, 0, 1), (3, 1, 1)], 2, 32, .agg #[.slice none 0 0, .int .i64 0]⟩),
  (203, ⟨.struct [(201, 0, 1), (3, 1, 1)], 2, 32, .agg #[.slice none 0 0, .int .i64 0]⟩),
  (204, ⟨.struct [(3, 0, 1), (3, 1, 1), (4, 2, 1)], 3, 24, .agg #[.int .i64 0, .int .i64 0, .bool false]⟩),
  (205, ⟨.struct [(3, 0, 1), (3, 1, 1), (4, 2, 1)], 3, 24, .agg #[.int .i64 0, .int .i64 0, .bool false]⟩),
  (206, ⟨.func, 1, 8, .nilFunc⟩),
  (207, ⟨.func, 1, 8, .nilFunc⟩),
  (208, ⟨.func, 1, 8, .nilFunc⟩),
  (209, ⟨.func, 1, 8, .nilFunc⟩),
  (210, ⟨.func, 1, 8, .nilFunc⟩),
  (212, ⟨.func, 1, 8, .nilFunc⟩),
  (213, ⟨.func, 1, 8, .nilFunc⟩),
  (214, ⟨.int .u64, 1, 8, .int .u64 0⟩),
  (215, ⟨.func, 1, 8, .nilFunc⟩),
  (216, ⟨.func, 1, 8, .nilFunc⟩),
  (217, ⟨.func, 1, 8, .nilFunc⟩),
  (218, ⟨.slice 84, 1, 24, .slice none 0 0⟩),
  (219, ⟨.func, 1, 8, .nilFunc⟩),
  (220, ⟨.func, 1, 8, .nilFunc⟩),
  (221, ⟨.func, 1, 8, .nilFunc⟩),
  (222, ⟨.func, 1, 8, .nilFunc⟩),
  (223, ⟨.func, 1, 8, .nilFunc⟩),
  (224, ⟨.func, 1, 8, .nilFunc⟩),
  (225, ⟨.int .i64, 1, 8, .int .i64 0⟩),
  (227, ⟨.func, 1, 8, .nilFunc⟩),
  (228, ⟨.func, 1, 8, .nilFunc⟩),
  (229, ⟨.func, 1, 8, .nilFunc⟩),
  (230, ⟨.func, 1, 8, .nilFunc⟩),
  (231, ⟨.func, 1, 8, .nilFunc⟩),
  (232, ⟨.func, 1, 8, .nilFunc⟩),
  (233, ⟨.func, 1, 8, .nilFunc⟩),
  (234, ⟨.int .u64, 1, 8, .int .u64 0⟩),
  (235, ⟨.func, 1, 8, .nilFunc⟩),
  (236, ⟨.func, 1, 8, .nilFunc⟩),
  (237, ⟨.func, 1, 8, .nilFunc⟩),
  (238, ⟨.ptr 3, 1, 8, .pointer none⟩),
  (239, ⟨.func, 1, 8, .nilFunc⟩),
  (240, ⟨.ptr 234, 1, 8, .pointer none⟩),
  (241, ⟨.func, 1, 8, .nilFunc⟩),
  (242, ⟨.func, 1, 8, .nilFunc⟩),
  (248, ⟨.int .u8, 1, 1, .int .u8 0⟩),
  (249, ⟨.int .u8, 1, 1, .int .u8 0⟩),
  (250, ⟨.func, 1, 8, .nilFunc⟩),
  (251, ⟨.ptr 5, 1, 8, .pointer none⟩),
  (252, ⟨.int .i32, 1, 4, .int .i32 0⟩),
  (253, ⟨.int .i32, 1, 4, .int .i32 0⟩)]
theorem ttok : TTok Try.prog tt := by
  refine ttok_cons ⟨by kernel_rfl, ⟨_, _, _, Try.underlying1⟩⟩ ?_
  refine ttok_cons ⟨by kernel_rfl, Try.underlying2⟩ ?_
  refine ttok_cons ⟨by kernel_rfl, Try.underlying3⟩ ?_
  refine ttok_cons ⟨by kernel_rfl, Try.underlying4⟩ ?_
  refine ttok_cons ⟨by kernel_rfl, Try.underlying5⟩ ?_
  refine ttok_cons ⟨by kernel_rfl, Try.underlying6⟩ ?_
  refine ttok_cons ⟨by kernel_rfl, Try.underlying9⟩ ?_
  refine ttok_cons ⟨by kernel_rfl, Try.underlying10⟩ ?_
  refine ttok_cons ⟨by kernel_rfl, Try.underlying11⟩ ?_
  refine ttok_cons ⟨by kernel_rfl, Try.underlying12⟩ ?_
  refine ttok_cons ⟨by kernel_rfl, Try.underlying15⟩ ?_
  refine ttok_cons ⟨by kernel_rfl, Try.underlying16⟩ ?_
  refine ttok_cons ⟨by kernel_rfl, Try.underlying17⟩ ?_
  refine ttok_cons ⟨by kernel_rfl, ⟨_, Try.underlying20⟩⟩ ?_
  refine ttok_cons ⟨by kernel_rfl, Try.underlying21⟩ ?_
  refine ttok_cons ⟨by kernel_rfl, Try.underlying22⟩ ?_
  refine ttok_cons ⟨by kernel_rfl, Try.underlying23⟩ ?_
  refine ttok_cons ⟨by kernel_rfl, Try.underlying24⟩ ?_
  refine ttok_cons ⟨by kernel_rfl, Try.underlying25⟩ ?_
  refine ttok_cons ⟨by kernel_rfl, ⟨_, _, _, Try.underlying27⟩⟩ ?_
  refine ttok_cons ⟨by kernel_rfl, Try.underlying28⟩ ?_
  refine ttok_cons ⟨by kernel_rfl, ⟨_, Try.underlying29, by kernel_rfl, by kernel_rfl, by kernel_rfl, by kernel_rfl, by kernel_rfl, by kernel_rfl⟩⟩ ?_
  refine ttok_cons ⟨by kernel_rfl, ⟨_, Try.underlying30, by kernel_rfl, by kernel_rfl, by kernel_rfl, by kernel_rfl, by kernel_rfl, by kernel_rfl⟩⟩ ?_
  refine ttok_cons ⟨by kernel_rfl, ⟨_, _, _, Try.underlying31⟩⟩ ?_
  refine ttok_cons ⟨by kernel_rfl, ⟨_, _, _, Try.underlying33⟩⟩ ?_
  refine ttok_cons ⟨by kernel_rfl, ⟨_, _, _, Try.underlying34⟩⟩ ?_
  refine ttok_cons ⟨by kernel_rfl, ⟨_, _, _, Try.underlying35⟩⟩ ?_
  refine ttok_cons ⟨by kernel_rfl, ⟨_, _, _, Try.underlying36⟩⟩ ?_
  refine ttok_cons ⟨by kernel_rfl, ⟨_, _, _, Try.underlying37⟩⟩ ?_
  refine ttok_cons ⟨by kernel_rfl, Try.underlying38⟩ ?_
  refine ttok_cons ⟨by kernel_rfl, ⟨_, Try.underlying39, by kernel_rfl, by kernel_rfl, by kernel_rfl, by kernel_rfl, by kernel_rfl, by kernel_rfl⟩⟩ ?_
  refine ttok_cons ⟨by kernel_rfl, ⟨_, Try.underlying40, by kernel_rfl, by kernel_rfl, by kernel_rfl, by kernel_rfl, by kernel_rfl, by kernel_rfl⟩⟩ ?_
  refine ttok_cons ⟨by kernel_rfl, ⟨_, _, _, Try.underlying42⟩⟩ ?_
  refine ttok_cons ⟨by kernel_rfl, ⟨_, _, _, Try.underlying43⟩⟩ ?_
  refine ttok_cons ⟨by kernel_rfl, ⟨_, _, _, Try.underlying44⟩⟩ ?_
  refine ttok_cons ⟨by kernel_rfl, ⟨_, _, _, Try.underlying45⟩⟩ ?_
  refine ttok_cons ⟨by kernel_rfl, ⟨_, _, _, Try.underlying46⟩⟩ ?_
  refine ttok_cons ⟨by kernel_rfl, Try.underlying47⟩ ?_
  refine ttok_cons ⟨by kernel_rfl, ⟨_, Try.underlying48, by kernel_rfl, by kernel_rfl, by kernel_rfl, by kernel_rfl, by kernel_rfl, by kernel_rfl⟩⟩ ?_
  refine ttok_cons ⟨by kernel_rfl, ⟨_, Try.underlying49, by kernel_rfl, by kernel_rfl, by kernel_rfl, by kernel_rfl, by kernel_rfl, by kernel_rfl⟩⟩ ?_
  refine ttok_cons ⟨by kernel_rfl, ⟨_, Try.underlying50, by kernel_rfl, by kernel_rfl, by kernel_rfl, by kernel_rfl, by kernel_rfl, by kernel_rfl⟩⟩ ?_
  refine ttok_cons ⟨by kernel_rfl, ⟨_, Try.underlying51, by kernel_rfl, by kernel_rfl, by kernel_rfl, by kernel_rfl, by kernel_rfl, by kernel_rfl⟩⟩ ?_
  refine ttok_cons ⟨by kernel_rfl, Try.underlying52⟩ ?_
  refine ttok_cons ⟨by kernel_rfl, ⟨_, _, _, Try.underlying53⟩⟩ ?_
  refine ttok_cons ⟨by kernel_rfl, ⟨_, _, _, Try.underlying54⟩⟩ ?_
  refine ttok_cons ⟨by kernel_rfl, ⟨_, _, _, Try.underlying55⟩⟩ ?_
  refine ttok_cons ⟨by kernel_rfl, ⟨_, _, _, Try.underlying57⟩⟩ ?_
  refine ttok_cons ⟨by kernel_rfl, ⟨_, _, _, Try.underlying58⟩⟩ ?_
  refine ttok_cons ⟨by kernel_rfl, ⟨_, _, _, Try.underlying59⟩⟩ ?_
  refine ttok_cons ⟨by kernel_rfl, ⟨_, Try.underlying60, by kernel_rfl, by kernel_rfl, by kernel_rfl, by kernel_rfl, by kernel_rfl, by kernel_rfl⟩⟩ ?_
  refine ttok_cons ⟨by kernel_rfl, ⟨_, Try.underlying61, by kernel_rfl, by kernel_rfl, by kernel_rfl, by kernel_rfl, by kernel_rfl, by kernel_rfl⟩⟩ ?_
  refine ttok_cons ⟨by kernel_rfl, Try.underlying62⟩ ?_
  refine ttok_cons ⟨by kernel_rfl, ⟨_, Try.underlying63, by kernel_rfl, by kernel_rfl, by kernel_rfl, by kernel_rfl, by kernel_rfl, by kernel_rfl⟩⟩ ?_
  refine ttok_cons ⟨by kernel_rfl, ⟨_, Try.underlying64, by kernel_rfl, by kernel_rfl, by kernel_rfl, by kernel_rfl, by kernel_rfl, by kernel_rfl⟩⟩ ?_
  refine ttok_cons ⟨by kernel_rfl, Try.underlying65⟩ ?_
  refine ttok_cons ⟨by kernel_rfl, ⟨_, _, _, Try.underlying66⟩⟩ ?_
  refine ttok_cons ⟨by kernel_rfl, ⟨_, _, _, Try.underlying67⟩⟩ ?_
  refine ttok_cons ⟨by kernel_rfl, Try.underlying68⟩ ?_
  refine ttok_cons ⟨by kernel_rfl, ⟨_, Try.underlying69, by kernel_rfl, by kernel_rfl, by kernel_rfl, by kernel_rfl, by kernel_rfl, by kernel_rfl⟩⟩ ?_
  refine ttok_cons ⟨by kernel_rfl, ⟨_, Try.underlying70, by kernel_rfl, by kernel_rfl, by kernel_rfl, by kernel_rfl, by kernel_rfl, by kernel_rfl⟩⟩ ?_
  refine ttok_cons ⟨by kernel_rfl, ⟨_, _, _, Try.underlying71⟩⟩ ?_
  refine ttok_cons ⟨by kernel_rfl, ⟨_, _, _, Try.underlying72⟩⟩ ?_
  refine ttok_cons ⟨by kernel_rfl, ⟨_, _, _, Try.underlying73⟩⟩ ?_
  refine ttok_cons ⟨by kernel_rfl, ⟨_, Try.underlying74, by kernel_rfl, by kernel_rfl, by kernel_rfl, by kernel_rfl, by kernel_rfl, by kernel_rfl⟩⟩ ?_
  refine ttok_cons ⟨by kernel_rfl, ⟨_, Try.underlying75, by kernel_rfl, by kernel_rfl, by kernel_rfl, by kernel_rfl, by kernel_rfl, by kernel_rfl⟩⟩ ?_
  refine ttok_cons ⟨by kernel_rfl, ⟨_, _, _, Try.underlying76⟩⟩ ?_
  refine ttok_cons ⟨by kernel_rfl, ⟨_, _, _, Try.underlying77⟩⟩ ?_
  refine ttok_cons ⟨by kernel_rfl, ⟨_, _, _, Try.underlying78⟩⟩ ?_
  refine ttok_cons ⟨by kernel_rfl, ⟨_, Try.underlying79, by kernel_rfl, by kernel_rfl, by kernel_rfl, by kernel_rfl, by kernel_rfl, by kernel_rfl⟩⟩ ?_
  refine ttok_cons ⟨by kernel_rfl, ⟨_, Try.underlying80, by kernel_rfl, by kernel_rfl, by kernel_rfl, by kernel_rfl, by kernel_rfl, by kernel_rfl⟩⟩ ?_
  refine ttok_cons ⟨by kernel_rfl, ⟨_, _, _, Try.underlying81⟩⟩ ?_
  refine ttok_cons ⟨by kernel_rfl, ⟨_, _, _, Try.underlying82⟩⟩ ?_
  refine ttok_cons ⟨by kernel_rfl, Try.underlying83⟩ ?_
  refine ttok_cons ⟨by kernel_rfl, Try.underlying84⟩ ?_
  refine ttok_cons ⟨by kernel_rfl, ⟨_, Try.underlying85, by kernel_rfl, by kernel_rfl, by kernel_rfl, by kernel_rfl, by kernel_rfl, by kernel_rfl⟩⟩ ?_
  refine ttok_cons ⟨by kernel_rfl, ⟨_, Try.underlying86, by kernel_rfl, by kernel_rfl, by kernel_rfl, by kernel_rfl, by kernel_rfl, by kernel_rfl⟩⟩ ?_
  refine ttok_cons ⟨by kernel_rfl, ⟨_, _, _, Try.underlying87⟩⟩ ?_
  refine ttok_cons ⟨by kernel_rfl, ⟨_, _, _, Try.underlying89⟩⟩ ?_
  refine ttok_cons ⟨by kernel_rfl, ⟨_, _, _, Try.underlying90⟩⟩ ?_
  refine ttok_cons ⟨by kernel_rfl, ⟨_, _, _, Try.underlying91⟩⟩ ?_
  refine ttok_cons ⟨by kernel_rfl, ⟨_, Try.underlying92, by kernel_rfl, by kernel_rfl, by kernel_rfl, by kernel_rfl, by kernel_rfl, by kernel_rfl⟩⟩ ?_
  refine ttok_cons ⟨by kernel_rfl, ⟨_, Try.underlying93, by kernel_rfl, by kernel_rfl, by kernel_rfl, by kernel_rfl, by kernel_rfl, by kernel_rfl⟩⟩ ?_
  refine ttok_cons ⟨by kernel_rfl, ⟨_, _, _, Try.underlying95⟩⟩ ?_
  refine ttok_cons ⟨by kernel_rfl, ⟨_, _, _, Try.underlying96⟩⟩ ?_
  refine ttok_cons ⟨by kernel_rfl, Try.underlying97⟩ ?_
  refine ttok_cons ⟨by kernel_rfl, Try.underlying98⟩ ?_
  refine ttok_cons ⟨by kernel_rfl, ⟨_, _, _, Try.underlying100⟩⟩ ?_
  refine ttok_cons ⟨by kernel_rfl, ⟨_, _, _, Try.underlying101⟩⟩ ?_
  refine ttok_cons ⟨by kernel_rfl, ⟨_, Try.underlying102, by kernel_rfl, by kernel_rfl, by kernel_rfl, by kernel_rfl, by kernel_rfl, by kernel_rfl⟩⟩ ?_
  refine ttok_cons ⟨by kernel_rfl, ⟨_, _, _, Try.underlying103⟩⟩ ?_
  refine ttok_cons ⟨by kernel_rfl, ⟨_, _, _, Try.underlying105⟩⟩ ?_
  refine ttok_cons ⟨by kernel_rfl, ⟨_, _, _, Try.underlying106⟩⟩ ?_
  refine ttok_cons ⟨by kernel_rfl, ⟨_, _, _, Try.underlying107⟩⟩ ?_
  refine ttok_cons ⟨by kernel_rfl, Try.underlying108⟩ ?_
  refine ttok_cons ⟨by kernel_rfl, Try.underlying109⟩ ?_
  refine ttok_cons ⟨by kernel_rfl, Try.underlying110⟩ ?_
  refine ttok_cons ⟨by kernel_rfl, Try.underlying111⟩ ?_
  refine ttok_cons ⟨by kernel_rfl, ⟨_, Try.underlying112, by kernel_rfl, by kernel_rfl, by kernel_rfl, by kernel_rfl, by kernel_rfl, by kernel_rfl⟩⟩ ?_
  refine ttok_cons ⟨by kernel_rfl, ⟨_, Try.underlying113, by kernel_rfl, by kernel_rfl, by kernel_rfl, by kernel_rfl, by kernel_rfl, by kernel_rfl⟩⟩ ?_
  refine ttok_cons ⟨by kernel_rfl, Try.underlying114⟩ ?_
  refine ttok_cons ⟨by kernel_rfl, ⟨_, _, _, Try.underlying115⟩⟩ ?_
  refine ttok_cons ⟨by kernel_rfl, ⟨_, _, _, Try.underlying116⟩⟩ ?_
  refine ttok_cons ⟨by kernel_rfl, ⟨_, _, _, Try.underlying117⟩⟩ ?_
  refine ttok_cons ⟨by kernel_rfl, Try.underlying118⟩ ?_
  refine ttok_cons ⟨by kernel_rfl, ⟨_, Try.underlying119, by kernel_rfl, by kernel_rfl, by kernel_rfl, by kernel_rfl, by kernel_rfl, by kernel_rfl⟩⟩ ?_
  refine ttok_cons ⟨by kernel_rfl, ⟨_, Try.underlying120, by kernel_rfl, by kernel_rfl, by kernel_rfl, by kernel_rfl, by kernel_rfl, by kernel_rfl⟩⟩ ?_
  refine ttok_cons ⟨by kernel_rfl, ⟨_, _, _, Try.underlying122⟩⟩ ?_
  refine ttok_cons ⟨by kernel_rfl, ⟨_, _, _, Try.underlying124⟩⟩ ?_
  refine ttok_cons ⟨by kernel_rfl, ⟨_, _, _, Try.underlying125⟩⟩ ?_
  refine ttok_cons ⟨by kernel_rfl, ⟨_, _, _, Try.underlying126⟩⟩ ?_
  refine ttok_cons ⟨by kernel_rfl, ⟨_, _, _, Try.underlying127⟩⟩ ?_
  refine ttok_cons ⟨by kernel_rfl, ⟨_, _, _, Try.underlying128⟩⟩ ?_
  refine ttok_cons ⟨by kernel_rfl, ⟨_, _, _, Try.underlying129⟩⟩ ?_
  refine ttok_cons ⟨by kernel_rfl, ⟨_, _, _, Try.underlying130⟩⟩ ?_
  refine ttok_cons ⟨by kernel_rfl, ⟨_, Try.underlying131, by kernel_rfl, by kernel_rfl, by kernel_rfl, by kernel_rfl, by kernel_rfl, by kernel_rfl⟩⟩ ?_
  refine ttok_cons ⟨by kernel_rfl, ⟨_, Try.underlying132, by kernel_rfl, by kernel_rfl, by kernel_rfl, by kernel_rfl, by kernel_rfl, by kernel_rfl⟩⟩ ?_
  refine ttok_cons ⟨by kernel_rfl, ⟨_, _, _, Try.underlying133⟩⟩ ?_
  refine ttok_cons ⟨by kernel_rfl, ⟨_, Try.underlying134, by kernel_rfl, by kernel_rfl, by kernel_rfl, by kernel_rfl, by kernel_rfl, by kernel_rfl⟩⟩ ?_
  refine ttok_cons ⟨by kernel_rfl, ⟨_, Try.underlying135, by kernel_rfl, by kernel_rfl, by kernel_rfl, by kernel_rfl, by kernel_rfl, by kernel_rfl⟩⟩ ?_
  refine ttok_cons ⟨by kernel_rfl, ⟨_, _, _, Try.underlying136⟩⟩ ?_
  refine ttok_cons ⟨by kernel_rfl, ⟨_, _, _, Try.underlying137⟩⟩ ?_
  refine ttok_cons ⟨by kernel_rfl, ⟨_, _, _, Try.underlying138⟩⟩ ?_
  refine ttok_cons ⟨by kernel_rfl, ⟨_, _, _, Try.underlying140⟩⟩ ?_
  refine ttok_cons ⟨by kernel_rfl, ⟨_, _, _, Try.underlying141⟩⟩ ?_
  refine ttok_cons ⟨by kernel_rfl, ⟨_, _, _, Try.underlying142⟩⟩ ?_
  refine ttok_cons ⟨by kernel_rfl, ⟨_, _, _, Try.underlying143⟩⟩ ?_
  refine ttok_cons ⟨by kernel_rfl, Try.underlying144⟩ ?_
  refine ttok_cons ⟨by kernel_rfl, ⟨_, _, _, Try.underlying145⟩⟩ ?_
  refine ttok_cons ⟨by kernel_rfl, ⟨_, _, _, Try.underlying146⟩⟩ ?_
  refine ttok_cons ⟨by kernel_rfl, ⟨_, _, _, Try.underlying148⟩⟩ ?_
  refine ttok_cons ⟨by kernel_rfl, ⟨_, _, _, Try.underlying149⟩⟩ ?_
  refine ttok_cons ⟨by kernel_rfl, ⟨_, _, _, Try.underlying150⟩⟩ ?_
  refine ttok_cons ⟨by kernel_rfl, ⟨_, _, _, Try.underlying151⟩⟩ ?_
  refine ttok_cons ⟨by kernel_rfl, ⟨_, _, _, Try.underlying152⟩⟩ ?_
  refine ttok_cons ⟨by kernel_rfl, ⟨_, _, _, Try.underlying153⟩⟩ ?_
  refine ttok_cons ⟨by kernel_rfl, ⟨_, _, _, Try.underlying154⟩⟩ ?_
  refine ttok_cons ⟨by kernel_rfl, ⟨_, _, _, Try.underlying155⟩⟩ ?_
  refine ttok_cons ⟨by kernel_rfl, ⟨_, _, _, Try.underlying157⟩⟩ ?_
  refine ttok_cons ⟨by kernel_rfl, Try.underlying158⟩ ?_
  refine ttok_cons ⟨by kernel_rfl, ⟨_, _, _, Try.underlying160⟩⟩ ?_
  refine ttok_cons ⟨by kernel_rfl, ⟨_, Try.underlying161, by kernel_rfl, by kernel_rfl, by kernel_rfl, by kernel_rfl, by kernel_rfl, by kernel_rfl⟩⟩ ?_
  refine ttok_cons ⟨by kernel_rfl, ⟨_, Try.underlying162, by kernel_rfl, by kernel_rfl, by kernel_rfl, by kernel_rfl, by kernel_rfl, by kernel_rfl⟩⟩ ?_
  refine ttok_cons ⟨by kernel_rfl, ⟨_, _, _, Try.underlying163⟩⟩ ?_
  refine ttok_cons ⟨by kernel_rfl, ⟨_, _, _, Try.underlying164⟩⟩ ?_
  refine ttok_cons ⟨by kernel_rfl, ⟨_, _, _, Try.underlying165⟩⟩ ?_
  refine ttok_cons ⟨by kernel_rfl, ⟨_, _, _, Try.underlying166⟩⟩ ?_
  refine ttok_cons ⟨by kernel_rfl, ⟨_, _, _, Try.underlying167⟩⟩ ?_
  refine ttok_cons ⟨by kernel_rfl, ⟨_, _, _, Try.underlying169⟩⟩ ?_
  refine ttok_cons ⟨by kernel_rfl, ⟨_, _, _, Try.underlying170⟩⟩ ?_
  refine ttok_cons ⟨by kernel_rfl, ⟨_, _, _, Try.underlying171⟩⟩ ?_
  refine ttok_cons ⟨by kernel_rfl, ⟨_, _, _, Try.underlying172⟩⟩ ?_
  refine ttok_cons ⟨by kernel_rfl, ⟨_, _, _, Try.underlying173⟩⟩ ?_
  refine ttok_cons ⟨by kernel_rfl, ⟨_, _, _, Try.underlying174⟩⟩ ?_
  refine ttok_cons ⟨by kernel_rfl, ⟨_, _, _, Try.underlying175⟩⟩ ?_
  refine ttok_cons ⟨by kernel_rfl, ⟨_, _, _, Try.underlying176⟩⟩ ?_
  refine ttok_cons ⟨by kernel_rfl, ⟨_, Try.underlying177, by kernel_rfl, by kernel_rfl, by kernel_rfl, by kernel_rfl, by kernel_rfl, by kernel_rfl⟩⟩ ?_
  refine ttok_cons ⟨by kernel_rfl, ⟨_, Try.underlying178, by kernel_rfl, by kernel_rfl, by kernel_rfl, by kernel_rfl, by kernel_rfl, by kernel_rfl⟩⟩ ?_
  refine ttok_cons ⟨by kernel_rfl, ⟨_, _, _, Try.underlying179⟩⟩ ?_
  refine ttok_cons ⟨by kernel_rfl, ⟨_, _, _, Try.underlying180⟩⟩ ?_
  refine ttok_cons ⟨by kernel_rfl, ⟨_, _, _, Try.underlying181⟩⟩ ?_
  refine ttok_cons ⟨by kernel_rfl, ⟨_, _, _, Try.underlying182⟩⟩ ?_
  refine ttok_cons ⟨by kernel_rfl, ⟨_, _, _, Try.underlying183⟩⟩ ?_
  refine ttok_cons ⟨by kernel_rfl, ⟨_, _, _, Try.underlying184⟩⟩ ?_
  refine ttok_cons ⟨by kernel_rfl, ⟨_, _, _, Try.underlying185⟩⟩ ?_
  refine ttok_cons ⟨by kernel_rfl, ⟨_, _, _, Try.underlying187⟩⟩ ?_
  refine ttok_cons ⟨by kernel_rfl, ⟨_, _, _, Try.underlying188⟩⟩ ?_
  refine ttok_cons ⟨by kernel_rfl, ⟨_, _, _, Try.underlying189⟩⟩ ?_
  refine ttok_cons ⟨by kernel_rfl, ⟨_, _, _, Try.underlying190⟩⟩ ?_
  refine ttok_cons ⟨by kernel_rfl, ⟨_, _, _, Try.underlying191⟩⟩ ?_
  refine ttok_cons ⟨by kernel_rfl, ⟨_, _, _, Try.underlying193⟩⟩ ?_
  refine ttok_cons ⟨by kernel_rfl, ⟨_, _, _, Try.underlying194⟩⟩ ?_
  refine ttok_cons ⟨by kernel_rfl, ⟨_, _, _, Try.underlying195⟩⟩ ?_
  refine ttok_cons ⟨by kernel_rfl, ⟨_, _, _, Try.underlying196⟩⟩ ?_
  refine ttok_cons ⟨by kernel_rfl, ⟨_, _, _, Try.underlying197⟩⟩ ?_
  refine ttok_cons ⟨by kernel_rfl, ⟨_, _, _, Try.underlying198⟩⟩ ?_
  refine ttok_cons ⟨by kernel_rfl, ⟨_, _, _, Try.underlying199⟩⟩ ?_
  refine ttok_cons ⟨by kernel_rfl, ⟨_, _, _, Try.underlying200⟩⟩ ?_
  refine ttok_cons ⟨by kernel_rfl, Try.underlying201⟩ ?_
  refine ttok_cons ⟨by kernel_rfl, ⟨_, Try.underlying202, by kernel_rfl, by kernel_rfl, by kernel_rfl, by kernel_rfl, by kernel_rfl, by kernel_rfl⟩⟩ ?_
  refine ttok_cons ⟨by kernel_rfl, ⟨_, Try.underlying203, by kernel_rfl, by kernel_rfl, by kernel_rfl, by kernel_rfl, by kernel_rfl, by kernel_rfl⟩⟩ ?_
  refine ttok_cons ⟨by kernel_rfl, ⟨_, Try.underlying204, by kernel_rfl, by kernel_rfl, by kernel_rfl, by kernel_rfl, by kernel_rfl, by kernel_rfl⟩⟩ ?_
  refine ttok_cons ⟨by kernel_rfl, ⟨_, Try.underlying205, by kernel_rfl, by kernel_rfl, by kernel_rfl, by kernel_rfl, by kernel_rfl, by kernel_rfl⟩⟩ ?_
  refine ttok_cons ⟨by kernel_rfl, ⟨_, _, _, Try.underlying206⟩⟩ ?_
  refine ttok_cons ⟨by kernel_rfl, ⟨_, _, _, Try.underlying207⟩⟩ ?_
  refine ttok_cons ⟨by kernel_rfl, ⟨_, _, _, Try.underlying208⟩⟩ ?_
  refine ttok_cons ⟨by kernel_rfl, ⟨_, _, _, Try.underlying209⟩⟩ ?_
  refine ttok_cons ⟨by kernel_rfl, ⟨_, _, _, Try.underlying210⟩⟩ ?_
  refine ttok_cons ⟨by kernel_rfl, ⟨_, _, _, Try.underlying212⟩⟩ ?_
  refine ttok_cons ⟨by kernel_rfl, ⟨_, _, _, Try.underlying213⟩⟩ ?_
  refine ttok_cons ⟨by kernel_rfl, Try.underlying214⟩ ?_
  refine ttok_cons ⟨by kernel_rfl, ⟨_, _, _, Try.underlying215⟩⟩ ?_
  refine ttok_cons ⟨by kernel_rfl, ⟨_, _, _, Try.underlying216⟩⟩ ?_
  refine ttok_cons ⟨by kernel_rfl, ⟨_, _, _, Try.underlying217⟩⟩ ?_
  refine ttok_cons ⟨by kernel_rfl, Try.underlying218⟩ ?_
  refine ttok_cons ⟨by kernel_rfl, ⟨_, _, _, Try.underlying219⟩⟩ ?_
  refine ttok_cons ⟨by kernel_rfl, ⟨_, _, _, Try.underlying220⟩⟩ ?_
  refine ttok_cons ⟨by kernel_rfl, ⟨_, _, _, Try.underlying221⟩⟩ ?_
  refine ttok_cons ⟨by kernel_rfl, ⟨_, _, _, Try.underlying222⟩⟩ ?_
  refine ttok_cons ⟨by kernel_rfl, ⟨_, _, _, Try.underlying223⟩⟩ ?_
  refine ttok_cons ⟨by kernel_rfl, ⟨_, _, _, Try.underlying224⟩⟩ ?_
  refine ttok_cons ⟨by kernel_rfl, Try.underlying225⟩ ?_
  refine ttok_cons ⟨by kernel_rfl, ⟨_, _, _, Try.underlying227⟩⟩ ?_
  refine ttok_cons ⟨by kernel_rfl, ⟨_, _, _, Try.underlying228⟩⟩ ?_
  refine ttok_cons ⟨by kernel_rfl, ⟨_, _, _, Try.underlying229⟩⟩ ?_
  refine ttok_cons ⟨by kernel_rfl, ⟨_, _, _, Try.underlying230⟩⟩ ?_
  refine ttok_cons ⟨by kernel_rfl, ⟨_, _, _, Try.underlying231⟩⟩ ?_
  refine ttok_cons ⟨by kernel_rfl, ⟨_, _, _, Try.underlying232⟩⟩ ?_
  refine ttok_cons ⟨by kernel_rfl, ⟨_, _, _, Try.underlying233⟩⟩ ?_
  refine ttok_cons ⟨by kernel_rfl, Try.underlying234⟩ ?_
  refine ttok_cons ⟨by kernel_rfl, ⟨_, _, _, Try.underlying235⟩⟩ ?_
  refine ttok_cons ⟨by kernel_rfl, ⟨_, _, _, Try.underlying236⟩⟩ ?_
  refine ttok_cons ⟨by kernel_rfl, ⟨_, _, _, Try.underlying237⟩⟩ ?_
  refine ttok_cons ⟨by kernel_rfl, Try.underlying238⟩ ?_
  refine ttok_cons ⟨by kernel_rfl, ⟨_, _, _, Try.underlying239⟩⟩ ?_
  refine ttok_cons ⟨by kernel_rfl, Try.underlying240⟩ ?_
  refine ttok_cons ⟨by kernel_rfl, ⟨_, _, _, Try.underlying241⟩⟩ ?_
  refine ttok_cons ⟨by kernel_rfl, ⟨_, _, _, Try.underlying242⟩⟩ ?_
  refine ttok_cons ⟨by kernel_rfl, Try.underlying248⟩ ?_
  refine ttok_cons ⟨by kernel_rfl, Try.underlying249⟩ ?_
  refine ttok_cons ⟨by kernel_rfl, ⟨_, _, _, Try.underlying250⟩⟩ ?_
  refine ttok_cons ⟨by kernel_rfl, Try.underlying251⟩ ?_
  refine ttok_cons ⟨by kernel_rfl, Try.underlying252⟩ ?_
  refine ttok_cons ⟨by kernel_rfl, Try.underlying253⟩ ?_
  exact ttok_nil _
theorem mix : Try.prog.follows .mixedOrders = true := by kernel_rfl
theorem cmpstr : CmpStr Try.prog 167 := CmpStr.of Try.func167 (by kernel_rfl) (by kernel_rfl) (by kernel_rfl) rfl
/-! (*sluicegate/dev.Device).Blocks -/
def dev_Device_Blocks_nil.f  : Option (Int) := some 0
set_option maxRecDepth 20000 in
set_option maxHeartbeats 40000000 in
theorem dev_Device_Blocks_nil.spec   {r : Int} (H : dev_Device_Blocks_nil.f  = some r) :
    Spec Try.prog 24 [.pointer none] [] [] (fun v l => v = .int .i64 r ∧ l = []) := by
  refine Spec.enter Try.func24 rfl (by kernel_rfl) (by kernel_rfl) fun w0 F0 h0 => ?_
  unfold dev_Device_Blocks_nil.f at H
  refine J.seq ?_
  refine J.region ?_
  refine RJ.run ttok 1 rfl ?_
  refine RJ.fin [(0, .pointer none)] rfl ?_
  refine J.seq ?_
  refine J.seq ?_
  refine J.region ?_
  refine RJ.run ttok 9 rfl ?_
  refine RJ.fin [(0, .pointer none), (11, .bool true)] rfl ?_
  refine J.condT rfl ?_
  refine J.seq ?_
  refine J.region ?_
  refine RJ.run ttok 1 rfl ?_
  refine RJ.fin [(2, .int .i64 0)] rfl ?_
  refine J.ret ?_
  obtain rfl := Option.some.inj H
  exact ⟨_, _, _, (results_slots rfl), ⟨rfl, rfl⟩, h0.only [] rfl⟩

/-! (*sluicegate/dev.Device).at -/
def dev_Device_at_nil.f (a1 : Int) : Option (List (Int) × Int) := (dev_Device_Blocks_nil.f).bind fun r1 => (if (decide (r1 = 0)) = true then (some (([] : List (Int)), 1)) else ((dev_Device_Blocks_nil.f).bind fun r2 => (if (decide (r2 ≤ (w64 (a1)))) = true then (some (([] : List (Int)), 4)) else (none))))
set_option maxRecDepth 20000 in
set_option maxHeartbeats 40000000 in
theorem dev_Device_at_nil.spec {a1 : Int}  {r : List (Int) × Int} (H : dev_Device_at_nil.f a1 = some r) :
    Spec Try.prog 69 [.pointer none, .int .u32 a1] [] [] (fun v l => ∃ (A_0 : Option Addr) (c_0 : Nat), v = .tuple #[.slice A_0 r.1.length c_0, .int .i64 r.2] ∧ l = [ownC 5 (.int .u8) r.1 (.slice A_0 r.1.length c_0)]) := by
  refine Spec.enter Try.func69 rfl (by kernel_rfl) (by kernel_rfl) fun w0 F0 h0 => ?_
  unfold dev_Device_at_nil.f at H
  refine J.seq ?_
  refine J.region ?_
  refine RJ.run ttok 2 rfl ?_
  refine RJ.fin [(0, .pointer none), (1, .int .u32 a1)] rfl ?_
  refine J.seq ?_
  refine J.block ?_
  refine J.seq ?_
  refine J.region ?_
  refine RJ.run ttok 1 rfl ?_
  obtain ⟨r1, q1, H⟩ := bind_t H
  refine RJ.op rfl rfl (op_call [] (dev_Device_Blocks_nil.spec q1) rfl rfl rfl h0 rfl gnil) ?_
  rintro _ w1 ⟨_, ⟨rfl, rfl⟩, h1⟩
  replace h1 : St w0 F0 [] _ _ := h1
  refine RJ.run ttok 2 rfl ?_
  refine RJ.fin [(0, .pointer none), (1, .int .u32 a1), (7, .bool (decide (r1 = 0)))] rfl ?_
  refine J.cond rfl (fun c1 => ?_) (fun c1 => ?_)
  · replace H := ite_t c1 H
    refine J.seq ?_
    refine J.region ?_
    refine RJ.run ttok 2 rfl ?_
    refine RJ.fin [(4, .slice none ([] : List (Int)).length 0), (5, .int .i64 1)] rfl ?_
    refine J.ret ?_
    have h2 := h1.addNil 5 (.int .u8)
    obtain rfl := Option.some.inj H
    exact ⟨_, _, _, (results_slots rfl), ⟨_, _, rfl, rfl⟩, h2.only [0] rfl⟩
  · replace H := ite_f c1 H
    refine J.seq ?_
    refine J.region ?_
    refine RJ.run ttok 3 rfl ?_
    obtain ⟨r2, q2, H⟩ := bind_t H
    refine RJ.op rfl rfl (op_call [] (dev_Device_Blocks_nil.spec q2) rfl rfl rfl h1 rfl gnil) ?_
    rintro _ w2 ⟨_, ⟨rfl, rfl⟩, h3⟩
    replace h3 : St w0 F0 [] _ _ := h3
    refine RJ.run ttok 2 rfl ?_
    refine RJ.fin [(0, .pointer none), (1, .int .u32 a1), (11, .bool (decide (r2 ≤ (w64 (a1)))))] rfl ?_
    refine J.cond rfl (fun c2 => ?_) (fun c2 => ?_)
    · replace H := ite_t c2 H
      refine J.seq ?_
      refine J.region ?_
      refine RJ.run ttok 2 rfl ?_
      refine RJ.fin [(4, .slice none ([] : List (Int)).length 0), (5, .int .i64 4)] rfl ?_
      refine J.ret ?_
      have h4 := h3.addNil 5 (.int .u8)
      obtain rfl := Option.some.inj H
      exact ⟨_, _, _, (results_slots rfl), ⟨_, _, rfl, rfl⟩, h4.only [0] rfl⟩
    · replace H := ite_f c2 H
      refine J.skip ?_
      refine J.seq ?_
      exact nomatch H

/-! (*sluicegate/dev.Device).Read -/
def dev_Device_Read_nil.f (a1 : Int) : Option (List (Int) × Int) := (dev_Device_at_nil.f a1).bind fun r1 => (if (!decide (r1.2 = 0)) = true then (some (([] : List (Int)), r1.2)) else (none))
set_option maxRecDepth 20000 in
set_option maxHeartbeats 40000000 in
theorem dev_Device_Read_nil.spec {a1 : Int}  {r : List (Int) × Int} (H : dev_Device_Read_nil.f a1 = some r) :
    Spec Try.prog 17 [.pointer none, .int .u32 a1] [] [] (fun v l => ∃ (A_0 : Option Addr) (c_0 : Nat), v = .tuple #[.slice A_0 r.1.length c_0, .int .i64 r.2] ∧ l = [ownC 5 (.int .u8) r.1 (.slice A_0 r.1.length c_0)]) := by
  refine Spec.enter Try.func17 rfl (by kernel_rfl) (by kernel_rfl) fun w0 F0 h0 => ?_
  unfold dev_Device_Read_nil.f at H
  refine J.seq ?_
  refine J.region ?_
  refine RJ.run ttok 2 rfl ?_
  refine RJ.fin [(0, .pointer none), (1, .int .u32 a1)] rfl ?_
  refine J.seq ?_
  refine J.region ?_
  refine RJ.run ttok 2 rfl ?_
  obtain ⟨r1, q1, H⟩ := bind_t H
  refine RJ.op rfl rfl (op_call [] (dev_Device_at_nil.spec q1) rfl rfl rfl h0 rfl gnil) ?_
  rintro _ w1 ⟨_, ⟨A1, c_1, rfl, rfl⟩, h1⟩
  replace h1 : St w0 F0 [ownC 5 (.int .u8) r1.1 (.slice A1 r1.1.length c_1)] _ _ := h1
  refine RJ.run ttok 5 rfl ?_
  refine RJ.fin [(0, .pointer none), (6, .slice A1 r1.1.length c_1), (7, .int .i64 r1.2)] rfl ?_
  refine J.seq ?_
  refine J.seq ?_
  refine J.region ?_
  refine RJ.run ttok 2 rfl ?_
  refine RJ.fin [(0, .pointer none), (6, .slice A1 r1.1.length c_1), (7, .int .i64 r1.2), (15, .bool (!decide (r1.2 = 0)))] rfl ?_
  refine J.cond rfl (fun c1 => ?_) (fun c1 => ?_)
  · replace H := ite_t c1 H
    refine J.seq ?_
    refine J.region ?_
    refine RJ.run ttok 3 rfl ?_
    refine RJ.fin [(4, .slice none ([] : List (Int)).length 0), (5, .int .i64 r1.2)] rfl ?_
    refine J.ret ?_
    have h2 := h1.addNil 5 (.int .u8)
    obtain rfl := Option.some.inj H
    exact ⟨_, _, _, (results_slots rfl), ⟨_, _, rfl, rfl⟩, h2.only [0] rfl⟩
  · replace H := ite_f c1 H
    refine J.skip ?_
    refine J.seq ?_
    exact nomatch H

/-! (*sluicegate/dev.Device).Write -/
def dev_Device_Write_nil.f (a1 : Int) (a2 : List (Int)) : Option (Int) := (dev_Device_at_nil.f a1).bind fun r1 => (if (!decide (r1.2 = 0)) = true then (some r1.2) else (none))
set_option maxRecDepth 20000 in
set_option maxHeartbeats 40000000 in
theorem dev_Device_Write_nil.spec {a1 : Int} {a2 : List (Int)} {A1 : Option Addr} {c_1 : Nat} {r : Int} (H : dev_Device_Write_nil.f a1 a2 = some r) :
    Spec Try.prog 16 [.pointer none, .int .u32 a1, .slice A1 a2.length c_1] [] [rdC 5 (.int .u8) a2 (.slice A1 a2.length c_1)] (fun v l => v = .int .i64 r ∧ l = []) := by
  refine Spec.enter Try.func16 rfl (by kernel_rfl) (by kernel_rfl) fun w0 F0 h0 => ?_
  unfold dev_Device_Write_nil.f at H
  refine J.seq ?_
  refine J.region ?_
  refine RJ.run ttok 1 rfl ?_
  refine RJ.fin [(0, .pointer none), (1, .int .u32 a1), (2, .slice A1 a2.length c_1)] rfl ?_
  refine J.seq ?_
  refine J.region ?_
  refine RJ.run ttok 2 rfl ?_
  obtain ⟨r1, q1, H⟩ := bind_t H
  refine RJ.op rfl rfl (op_call [] (dev_Device_at_nil.spec q1) rfl rfl rfl h0 rfl gnil) ?_
  rintro _ w1 ⟨_, ⟨A2, c_2, rfl, rfl⟩, h1⟩
  replace h1 : St w0 F0 [ownC 5 (.int .u8) r1.1 (.slice A2 r1.1.length c_2)] _ _ := h1
  refine RJ.run ttok 5 rfl ?_
  refine RJ.fin [(0, .pointer none), (2, .slice A1 a2.length c_1), (7, .slice A2 r1.1.length c_2), (8, .int .i64 r1.2)] rfl ?_
  refine J.seq ?_
  refine J.block ?_
  refine J.seq ?_
  refine J.region ?_
  refine RJ.run ttok 3 rfl ?_
  refine RJ.fin [(0, .pointer none), (2, .slice A1 a2.length c_1), (7, .slice A2 r1.1.length c_2), (8, .int .i64 r1.2), (15, .bool (!decide (r1.2 = 0)))] rfl ?_
  refine J.cond rfl (fun c1 => ?_) (fun c1 => ?_)
  · replace H := ite_t c1 H
    refine J.seq ?_
    refine J.region ?_
    refine RJ.run ttok 2 rfl ?_
    refine RJ.fin [(6, .int .i64 r1.2)] rfl ?_
    refine J.ret ?_
    obtain rfl := Option.some.inj H
    exact ⟨_, _, _, (results_slots rfl), ⟨rfl, rfl⟩, h1.only [] rfl⟩
  · replace H := ite_f c1 H
    refine J.seq ?_
    exact nomatch H

/-! (*sluicegate/dev.Device).Bytes -/
def dev_Device_Bytes_nil.f  : Option (Int) := some 0
set_option maxRecDepth 20000 in
set_option maxHeartbeats 40000000 in
theorem dev_Device_Bytes_nil.spec   {r : Int} (H : dev_Device_Bytes_nil.f  = some r) :
    Spec Try.prog 25 [.pointer none] [] [] (fun v l => v = .int .i64 r ∧ l = []) := by
  refine Spec.enter Try.func25 rfl (by kernel_rfl) (by kernel_rfl) fun w0 F0 h0 => ?_
  unfold dev_Device_Bytes_nil.f at H
  refine J.seq ?_
  refine J.region ?_
  refine RJ.run ttok 1 rfl ?_
  refine RJ.fin [(0, .pointer none)] rfl ?_
  refine J.seq ?_
  refine J.seq ?_
  refine J.region ?_
  refine RJ.run ttok 2 rfl ?_
  refine RJ.fin [(0, .pointer none), (4, .bool true)] rfl ?_
  refine J.condT rfl ?_
  refine J.seq ?_
  refine J.region ?_
  refine RJ.run ttok 1 rfl ?_
  refine RJ.fin [(2, .int .i64 0)] rfl ?_
  refine J.ret ?_
  obtain rfl := Option.some.inj H
  exact ⟨_, _, _, (results_slots rfl), ⟨rfl, rfl⟩, h0.only [] rfl⟩

/-! (*sluicegate/dev.Device).Stats -/
def dev_Device_Stats_nil.f  : Option ((Int × Int)) := some (0, 0)
set_option maxRecDepth 20000 in
set_option maxHeartbeats 40000000 in
theorem dev_Device_Stats_nil.spec   {r : (Int × Int)} (H : dev_Device_Stats_nil.f  = some r) :
    Spec Try.prog 26 [.pointer none] [] [] (fun v l => v = .agg #[.int .u64 r.1, .int .u64 r.2] ∧ l = []) := by
  refine Spec.enter Try.func26 rfl (by kernel_rfl) (by kernel_rfl) fun w0 F0 h0 => ?_
  unfold dev_Device_Stats_nil.f at H
  refine J.seq ?_
  refine J.region ?_
  refine RJ.op rfl rfl (op_alloc ttok rfl rfl h0) ?_
  rintro _ w1 ⟨b1, rfl, h1⟩
  replace h1 : St w0 F0 [boxC b1 49 [.int .u64 0, .int .u64 0]] _ _ := h1
  refine RJ.fin [(0, .pointer none), (2, .pointer (some ⟨b1, 0, none⟩))] rfl ?_
  refine J.seq ?_
  refine J.seq ?_
  refine J.region ?_
  refine RJ.run ttok 2 rfl ?_
  refine RJ.fin [(0, .pointer none), (2, .pointer (some ⟨b1, 0, none⟩)), (4, .bool true)] rfl ?_
  refine J.condT rfl ?_
  refine J.seq ?_
  refine J.region ?_
  refine RJ.run ttok 1 rfl ?_
  refine RJ.op rfl rfl (op_store ttok 0 rfl h1 rfl rfl rfl rfl rfl rfl rfl) ?_
  intro _ w2 h2
  replace h2 : St w0 F0 [boxC b1 49 [.int .u64 0, .int .u64 0]] _ _ := h2
  refine RJ.fin [(2, .pointer (some ⟨b1, 0, none⟩))] rfl ?_
  refine J.ret ?_
  obtain rfl := Option.some.inj H
  exact ⟨_, _, _, (results_two rfl (rvcons (RV.cell ttok 0 h2 rfl rfl rfl rfl) rvnil) rfl), ⟨rfl, rfl⟩, h2.only [] rfl⟩

/-! (*sluicegate/dev.Device).Image -/
def dev_Device_Image_nil.f  : Option (List (Int)) := some ([] : List (Int))
set_option maxRecDepth 20000 in
set_option maxHeartbeats 40000000 in
theorem dev_Device_Image_nil.spec   {r : List (Int)} (H : dev_Device_Image_nil.f  = some r) :
    Spec Try.prog 23 [.pointer none] [] [] (fun v l => ∃ (A_0 : Option Addr) (c_0 : Nat), v = .slice A_0 r.length c_0 ∧ l = [ownC 5 (.int .u8) r (.slice A_0 r.length c_0)]) := by
  refine Spec.enter Try.func23 rfl (by kernel_rfl) (by kernel_rfl) fun w0 F0 h0 => ?_
  unfold dev_Device_Image_nil.f at H
  refine J.seq ?_
  refine J.region ?_
  refine RJ.run ttok 1 rfl ?_
  refine RJ.fin [(0, .pointer none)] rfl ?_
  refine J.seq ?_
  refine J.seq ?_
  refine J.region ?_
  refine RJ.run ttok 2 rfl ?_
  refine RJ.fin [(0, .pointer none), (4, .bool true)] rfl ?_
  refine J.condT rfl ?_
  refine J.seq ?_
  refine J.region ?_
  refine RJ.run ttok 1 rfl ?_
  refine RJ.fin [(2, .slice none ([] : List (Int)).length 0)] rfl ?_
  refine J.ret ?_
  have h1 := h0.addNil 5 (.int .u8)
  obtain rfl := Option.some.inj H
  exact ⟨_, _, _, (results_slots rfl), ⟨_, _, rfl, rfl⟩, h1.only [0] rfl⟩

/-! (*sluicegate/dev.Device).Blocks -/
def dev_Device_Blocks.f (a0 : Int × List (Int) × (Int × Int)) : Option (Int) := if (decide (a0.1 = 0)) = true then (some 0) else (if 0 < a0.1 then (some (w64 (Int.tdiv (a0.2.1.length : Int) a0.1))) else none)
set_option maxRecDepth 20000 in
set_option maxHeartbeats 40000000 in
theorem dev_Device_Blocks.spec {a0 : Int × List (Int) × (Int × Int)} {b1 : Nat} {A1 : Option Addr} {c_1 : Nat} {r : Int} (H : dev_Device_Blocks.f a0 = some r) :
    Spec Try.prog 24 [.pointer (some ⟨b1, 0, none⟩)] [boxC b1 51 [.int .i64 a0.1, .slice A1 a0.2.1.length c_1, .int .u64 a0.2.2.1, .int .u64 a0.2.2.2], ownC 5 (.int .u8) a0.2.1 (.slice A1 a0.2.1.length c_1)] [] (fun v l => v = .int .i64 r ∧ l = [boxC b1 51 [.int .i64 a0.1, .slice A1 a0.2.1.length c_1, .int .u64 a0.2.2.1, .int .u64 a0.2.2.2], ownC 5 (.int .u8) a0.2.1 (.slice A1 a0.2.1.length c_1)]) := by
  refine Spec.enter Try.func24 rfl (by kernel_rfl) (by kernel_rfl) fun w0 F0 h0 => ?_
  unfold dev_Device_Blocks.f at H
  refine J.seq ?_
  refine J.region ?_
  refine RJ.run ttok 1 rfl ?_
  refine RJ.fin [(0, .pointer (some ⟨b1, 0, none⟩))] rfl ?_
  refine J.seq ?_
  refine J.seq ?_
  refine J.region ?_
  refine RJ.run ttok 6 rfl ?_
  refine RJ.q rfl rfl (q_load_box ttok 0 h0.wht rfl rfl rfl rfl rfl) ?_
  refine RJ.run ttok 2 rfl ?_
  refine RJ.fin [(0, .pointer (some ⟨b1, 0, none⟩)), (11, .bool (decide (a0.1 = 0)))] rfl ?_
  refine J.cond rfl (fun c1 => ?_) (fun c1 => ?_)
  · replace H := ite_t c1 H
    refine J.seq ?_
    refine J.region ?_
    refine RJ.run ttok 1 rfl ?_
    refine RJ.fin [(2, .int .i64 0)] rfl ?_
    refine J.ret ?_
    obtain rfl := Option.some.inj H
    exact ⟨_, _, _, (results_slots rfl), ⟨rfl, rfl⟩, h0.only [0, 0] rfl⟩
  · replace H := ite_f c1 H
    refine J.skip ?_
    refine J.seq ?_
    refine J.heldSt mix h0 ?_
    have h1 := h0.drew
    refine HJ.run ttok rfl [0, 1, 2, 5, 6, 7] rfl ?_
    refine HJ.q (i := 3) rfl rfl rfl rfl rfl rfl (q_load_box ttok 0 (fun w e => e) rfl rfl rfl rfl rfl) ?_
    refine HJ.run ttok rfl [4] rfl ?_
    refine HJ.q (i := 8) rfl rfl rfl rfl rfl rfl (q_load_box ttok 0 (fun w e => e) rfl rfl rfl rfl rfl) ?_
    obtain ⟨p1, H⟩ := guard_t H
    refine HJ.q (i := 9) rfl rfl rfl rfl rfl rfl (q_quo rfl rfl rfl p1) ?_
    refine HJ.run ttok rfl [10] rfl ?_
    refine HJ.fin [(2, .int .i64 (w64 (Int.tdiv (a0.2.1.length : Int) a0.1)))] rfl rfl ?_
    refine J.ret ?_
    obtain rfl := Option.some.inj H
    exact ⟨_, _, _, (results_slots rfl), ⟨rfl, rfl⟩, h1.only [0, 0] rfl⟩

/-! slices.Clone[[]byte,byte] -/
def slices_Clone_byte_byte.f (a0 : List (Int)) : Option (List (Int)) := if (([] : List (Int)).length + a0.length) * 1 ≤ 140737488355328 then (some (([] : List (Int)) ++ a0)) else none
set_option maxRecDepth 20000 in
set_option maxHeartbeats 40000000 in
theorem slices_Clone_byte_byte.spec {a0 : List (Int)} {A1 : Option Addr} {c_1 : Nat} {r : List (Int)} (H : slices_Clone_byte_byte.f a0 = some r) :
    Spec Try.prog 70 [.slice A1 a0.length c_1] [] [rdC 5 (.int .u8) a0 (.slice A1 a0.length c_1)] (fun v l => ∃ (A_0 : Option Addr) (c_0 : Nat), v = .slice A_0 r.length c_0 ∧ l = [ownC 5 (.int .u8) r (.slice A_0 r.length c_0)]) := by
  refine Spec.enter Try.func70 rfl (by kernel_rfl) (by kernel_rfl) fun w0 F0 h0 => ?_
  unfold slices_Clone_byte_byte.f at H
  refine J.seq ?_
  refine J.region ?_
  refine RJ.run ttok 1 rfl ?_
  refine RJ.fin [(0, .slice A1 a0.length c_1)] rfl ?_
  refine J.seq ?_
  refine J.seq ?_
  refine J.region ?_
  refine RJ.run ttok 2 rfl ?_
  refine RJ.fin [(0, .slice A1 a0.length c_1), (4, .bool A1.isNone)] rfl ?_
  refine J.cond rfl (fun c1 => ?_) (fun c1 => ?_)
  · have e1 := h0.nilrow (Gives.self 0 rfl) (by simpa using c1)
    replace H : (some ([] : List (Int))) = some r := by rw [e1] at H; simpa using H
    refine J.seq ?_
    refine J.region ?_
    refine RJ.run ttok 1 rfl ?_
    refine RJ.fin [(2, .slice none ([] : List (Int)).length 0)] rfl ?_
    refine J.ret ?_
    have h1 := h0.addNil 5 (.int .u8)
    obtain rfl := Option.some.inj H
    exact ⟨_, _, _, (results_slots rfl), ⟨_, _, rfl, rfl⟩, h1.only [0] rfl⟩
  · refine J.skip ?_
    refine J.seq ?_
    refine J.region ?_
    refine RJ.op rfl rfl (op_lit ttok (.int .u8) rfl ([] : List (Int)) rfl h0 rfl rfl (by decide) rfl rfl rfl rfl rfl rfl rfl) ?_
    rintro _ w1 ⟨b1, rfl, h2⟩
    replace h2 : St w0 F0 [ownC 5 (.int .u8) ([] : List (Int)) (.slice (some ⟨b1, 0, none⟩) ([] : List (Int)).length 0)] _ _ := h2
    refine RJ.run ttok 1 rfl ?_
    obtain ⟨p1, H⟩ := guard_t H
    refine RJ.op rfl rfl (op_append ttok rfl 0 rfl h2 rfl (Gives.self 0 rfl) rfl rfl rfl rfl rfl rfl (by decide) (by decide) p1) ?_
    rintro _ w2 ⟨A2, c_2, rfl, h3⟩
    replace h3 : St w0 F0 [ownC 5 (.int .u8) (([] : List (Int)) ++ a0) (.slice A2 (([] : List (Int)) ++ a0).length c_2)] _ _ := h3
    refine RJ.run ttok 1 rfl ?_
    refine RJ.fin [(2, .slice A2 (([] : List (Int)) ++ a0).length c_2)] rfl ?_
    refine J.ret ?_
    obtain rfl := Option.some.inj H
    exact ⟨_, _, _, (results_slots rfl), ⟨_, _, rfl, rfl⟩, h3.only [0] rfl⟩

/-! (*sluicegate/dev.Device).Read -/
def dev_Device_Read.f (a0 : Int × List (Int) × (Int × Int)) (a1 : Int) : Option (List (Int) × Int × (Int × List (Int) × (Int × Int))) := (dev_Device_Blocks.f (a0.1, a0.2.1, (a0.2.2.1, a0.2.2.2))).bind fun r1 => (if (decide (r1 = 0)) = true then (some (([] : List (Int)), 1, (a0.1, a0.2.1, (a0.2.2.1, a0.2.2.2)))) else ((dev_Device_Blocks.f (a0.1, a0.2.1, (a0.2.2.1, a0.2.2.2))).bind fun r2 => (if (decide (r2 ≤ (w64 (a1)))) = true then (some (([] : List (Int)), 4, (a0.1, a0.2.1, (a0.2.2.1, a0.2.2.2)))) else (if 0 ≤ (w64 ((w64 (a1)) * a0.1)) ∧ (w64 ((w64 (a1)) * a0.1)) ≤ (w64 ((w64 ((w64 (a1)) * a0.1)) + a0.1)) ∧ (w64 ((w64 ((w64 (a1)) * a0.1)) + a0.1)) ≤ (a0.2.1.length : Int) then ((slices_Clone_byte_byte.f ((a0.2.1.drop ((w64 ((w64 (a1)) * a0.1))).toNat).take (((w64 ((w64 ((w64 (a1)) * a0.1)) + a0.1))).toNat - ((w64 ((w64 (a1)) * a0.1))).toNat))).bind fun r3 => (some (r3, 0, (a0.1, a0.2.1, ((IntKind.u64.wrap (a0.2.2.1 + 1)), a0.2.2.2))))) else none))))
set_option maxRecDepth 20000 in
set_option maxHeartbeats 40000000 in
theorem dev_Device_Read.spec {a0 : Int × List (Int) × (Int × Int)} {a1 : Int} {b1 : Nat} {A1 : Option Addr} {c_1 : Nat} {r : List (Int) × Int × (Int × List (Int) × (Int × Int))} (H : dev_Device_Read.f a0 a1 = some r) :
    Spec Try.prog 17 [.pointer (some ⟨b1, 0, none⟩), .int .u32 a1] [boxC b1 51 [.int .i64 a0.1, .slice A1 a0.2.1.length c_1, .int .u64 a0.2.2.1, .int .u64 a0.2.2.2], ownC 5 (.int .u8) a0.2.1 (.slice A1 a0.2.1.length c_1)] [] (fun v l => ∃ (A_0 : Option Addr) (c_0 : Nat) (A_1 : Option Addr) (c_1 : Nat), v = .tuple #[.slice A_0 r.1.length c_0, .int .i64 r.2.1] ∧ l = [ownC 5 (.int .u8) r.1 (.slice A_0 r.1.length c_0), boxC b1 51 [.int .i64 r.2.2.1, .slice A_1 r.2.2.2.1.length c_1, .int .u64 r.2.2.2.2.1, .int .u64 r.2.2.2.2.2], ownC 5 (.int .u8) r.2.2.2.1 (.slice A_1 r.2.2.2.1.length c_1)]) := by
  refine Spec.enter Try.func17 rfl (by kernel_rfl) (by kernel_rfl) fun w0 F0 h0 => ?_
  unfold dev_Device_Read.f at H
  refine J.seq ?_
  refine J.region ?_
  refine RJ.run ttok 2 rfl ?_
  refine RJ.fin [(0, .pointer (some ⟨b1, 0, none⟩)), (1, .int .u32 a1)] rfl ?_
  refine J.seq ?_
  refine J.region ?_
  refine RJ.run ttok 2 rfl ?_
  refine RJ.inline rfl rfl rfl rfl rfl Try.func69 rfl (by kernel_rfl) (by kernel_rfl) ?_
  refine J.seq ?_
  refine J.region ?_
  refine RJ.run ttok 2 rfl ?_
  refine RJ.fin [(0, .pointer (some ⟨b1, 0, none⟩)), (1, .int .u32 a1)] rfl ?_
  refine J.seq ?_
  refine J.block ?_
  refine J.seq ?_
  refine J.region ?_
  refine RJ.run ttok 1 rfl ?_
  obtain ⟨r1, q1, H⟩ := bind_t H
  refine RJ.op rfl rfl (op_call [0, 0] (dev_Device_Blocks.spec q1) rfl rfl rfl h0 rfl gnil) ?_
  rintro _ w1 ⟨_, ⟨rfl, rfl⟩, h1⟩
  replace h1 : St w0 F0 [boxC b1 51 [.int .i64 a0.1, .slice A1 a0.2.1.length c_1, .int .u64 a0.2.2.1, .int .u64 a0.2.2.2], ownC 5 (.int .u8) a0.2.1 (.slice A1 a0.2.1.length c_1)] _ _ := h1
  refine RJ.run ttok 2 rfl ?_
  refine RJ.fin [(0, .pointer (some ⟨b1, 0, none⟩)), (1, .int .u32 a1), (7, .bool (decide (r1 = 0)))] rfl ?_
  refine J.cond rfl (fun c1 => ?_) (fun c1 => ?_)
  · replace H := ite_t c1 H
    refine J.seq ?_
    refine J.region ?_
    refine RJ.run ttok 2 rfl ?_
    refine RJ.fin [(4, .slice none ([] : List (Int)).length 0), (5, .int .i64 1)] rfl ?_
    refine J.ret ?_
    refine ⟨_, results_slots rfl, ?_⟩
    refine RJ.run ttok 5 rfl ?_
    refine RJ.fin [(0, .pointer (some ⟨b1, 0, none⟩)), (6, .slice none ([] : List (Int)).length 0), (7, .int .i64 1)] rfl ?_
    refine J.seq ?_
    refine J.seq ?_
    refine J.region ?_
    refine RJ.run ttok 2 rfl ?_
    refine RJ.fin [(0, .pointer (some ⟨b1, 0, none⟩)), (6, .slice none ([] : List (Int)).length 0), (7, .int .i64 1), (15, .bool true)] rfl ?_
    refine J.condT rfl ?_
    refine J.seq ?_
    refine J.region ?_
    refine RJ.run ttok 3 rfl ?_
    refine RJ.fin [(4, .slice none ([] : List (Int)).length 0), (5, .int .i64 1)] rfl ?_
    refine J.ret ?_
    have h2 := h1.addNil 5 (.int .u8)
    obtain rfl := Option.some.inj H
    exact ⟨_, _, _, (results_slots rfl), ⟨_, _, _, _, rfl, rfl⟩, h2.only [0, 0, 0] rfl⟩
  · replace H := ite_f c1 H
    refine J.seq ?_
    refine J.region ?_
    refine RJ.run ttok 3 rfl ?_
    obtain ⟨r2, q2, H⟩ := bind_t H
    refine RJ.op rfl rfl (op_call [0, 0] (dev_Device_Blocks.spec q2) rfl rfl rfl h1 rfl gnil) ?_
    rintro _ w2 ⟨_, ⟨rfl, rfl⟩, h3⟩
    replace h3 : St w0 F0 [boxC b1 51 [.int .i64 a0.1, .slice A1 a0.2.1.length c_1, .int .u64 a0.2.2.1, .int .u64 a0.2.2.2], ownC 5 (.int .u8) a0.2.1 (.slice A1 a0.2.1.length c_1)] _ _ := h3
    refine RJ.run ttok 2 rfl ?_
    refine RJ.fin [(0, .pointer (some ⟨b1, 0, none⟩)), (1, .int .u32 a1), (11, .bool (decide (r2 ≤ (w64 (a1)))))] rfl ?_
    refine J.cond rfl (fun c2 => ?_) (fun c2 => ?_)
    · replace H := ite_t c2 H
      refine J.seq ?_
      refine J.region ?_
      refine RJ.run ttok 2 rfl ?_
      refine RJ.fin [(4, .slice none ([] : List (Int)).length 0), (5, .int .i64 4)] rfl ?_
      refine J.ret ?_
      refine ⟨_, results_slots rfl, ?_⟩
      refine RJ.run ttok 5 rfl ?_
      refine RJ.fin [(0, .pointer (some ⟨b1, 0, none⟩)), (6, .slice none ([] : List (Int)).length 0), (7, .int .i64 4)] rfl ?_
      refine J.seq ?_
      refine J.seq ?_
      refine J.region ?_
      refine RJ.run ttok 2 rfl ?_
      refine RJ.fin [(0, .pointer (some ⟨b1, 0, none⟩)), (6, .slice none ([] : List (Int)).length 0), (7, .int .i64 4), (15, .bool true)] rfl ?_
      refine J.condT rfl ?_
      refine J.seq ?_
      refine J.region ?_
      refine RJ.run ttok 3 rfl ?_
      refine RJ.fin [(4, .slice none ([] : List (Int)).length 0), (5, .int .i64 4)] rfl ?_
      refine J.ret ?_
      have h4 := h3.addNil 5 (.int .u8)
      obtain rfl := Option.some.inj H
      exact ⟨_, _, _, (results_slots rfl), ⟨_, _, _, _, rfl, rfl⟩, h4.only [0, 0, 0] rfl⟩
    · replace H := ite_f c2 H
      refine J.skip ?_
      refine J.seq ?_
      refine J.region ?_
      refine RJ.run ttok 5 rfl ?_
      refine RJ.q rfl rfl (q_load_box ttok 0 h3.wht rfl rfl rfl rfl rfl) ?_
      refine RJ.run ttok 2 rfl ?_
      refine RJ.fin [(0, .pointer (some ⟨b1, 0, none⟩)), (6, .int .i64 (w64 ((w64 (a1)) * a0.1)))] rfl ?_
      refine J.seq ?_
      refine J.heldSt mix h3 ?_
      have h5 := h3.drew
      refine HJ.run ttok rfl [0, 1, 2, 4, 5, 6, 7, 8] rfl ?_
      refine HJ.q (i := 3) rfl rfl rfl rfl rfl rfl (q_load_box ttok 0 (fun w e => e) rfl rfl rfl rfl rfl) ?_
      refine HJ.q (i := 9) rfl rfl rfl rfl rfl rfl (q_load_box ttok 0 (fun w e => e) rfl rfl rfl rfl rfl) ?_
      refine HJ.run ttok rfl [10] rfl ?_
      obtain ⟨⟨p1, p2, p3⟩, H⟩ := guard_t H
      have e1 := h5.cap (Gives.of 1 rfl own_rd)
      refine HJ.q (i := 11) rfl rfl rfl rfl rfl rfl (q_cut (l := (w64 ((w64 (a1)) * a0.1))) (h := (w64 ((w64 ((w64 (a1)) * a0.1)) + a0.1))) (sub := ((a0.2.1.drop ((w64 ((w64 (a1)) * a0.1))).toNat).take (((w64 ((w64 ((w64 (a1)) * a0.1)) + a0.1))).toNat - ((w64 ((w64 (a1)) * a0.1))).toNat))) ttok rfl rfl rfl rfl e1 ⟨_, rfl⟩ ⟨_, rfl⟩ p1 p2 p3 rfl) ?_
      refine HJ.run ttok rfl [12, 13] rfl ?_
      refine HJ.fin [(4, .slice (cutA A1 c_1 ((w64 ((w64 (a1)) * a0.1))).toNat 1) ((a0.2.1.drop ((w64 ((w64 (a1)) * a0.1))).toNat).take (((w64 ((w64 ((w64 (a1)) * a0.1)) + a0.1))).toNat - ((w64 ((w64 (a1)) * a0.1))).toNat)).length (c_1 - ((w64 ((w64 (a1)) * a0.1))).toNat)), (5, .int .i64 0)] rfl rfl ?_
      refine J.ret ?_
      refine ⟨_, results_slots rfl, ?_⟩
      refine RJ.run ttok 5 rfl ?_
      refine RJ.fin [(0, .pointer (some ⟨b1, 0, none⟩)), (6, .slice (cutA A1 c_1 ((w64 ((w64 (a1)) * a0.1))).toNat 1) ((a0.2.1.drop ((w64 ((w64 (a1)) * a0.1))).toNat).take (((w64 ((w64 ((w64 (a1)) * a0.1)) + a0.1))).toNat - ((w64 ((w64 (a1)) * a0.1))).toNat)).length (c_1 - ((w64 ((w64 (a1)) * a0.1))).toNat)), (7, .int .i64 0)] rfl ?_
      refine J.seq ?_
      refine J.seq ?_
      refine J.region ?_
      refine RJ.run ttok 2 rfl ?_
      refine RJ.fin [(0, .pointer (some ⟨b1, 0, none⟩)), (6, .slice (cutA A1 c_1 ((w64 ((w64 (a1)) * a0.1))).toNat 1) ((a0.2.1.drop ((w64 ((w64 (a1)) * a0.1))).toNat).take (((w64 ((w64 ((w64 (a1)) * a0.1)) + a0.1))).toNat - ((w64 ((w64 (a1)) * a0.1))).toNat)).length (c_1 - ((w64 ((w64 (a1)) * a0.1))).toNat)), (7, .int .i64 0), (15, .bool false)] rfl ?_
      refine J.condF rfl ?_
      refine J.skip ?_
      refine J.seq ?_
      refine J.region ?_
      refine RJ.run ttok 4 rfl ?_
      refine RJ.q rfl rfl (q_load_box ttok 0 h5.wht rfl rfl rfl rfl rfl) ?_
      refine RJ.run ttok 4 rfl ?_
      refine RJ.op rfl rfl (op_store ttok 0 rfl h5 rfl rfl rfl rfl rfl rfl rfl) ?_
      intro _ w3 h6
      replace h6 : St w0 F0 [boxC b1 51 [.int .i64 a0.1, .slice A1 a0.2.1.length c_1, .int .u64 (IntKind.u64.wrap (a0.2.2.1 + 1)), .int .u64 a0.2.2.2], ownC 5 (.int .u8) a0.2.1 (.slice A1 a0.2.1.length c_1)] _ _ := h6
      refine RJ.fin [(6, .slice (cutA A1 c_1 ((w64 ((w64 (a1)) * a0.1))).toNat 1) ((a0.2.1.drop ((w64 ((w64 (a1)) * a0.1))).toNat).take (((w64 ((w64 ((w64 (a1)) * a0.1)) + a0.1))).toNat - ((w64 ((w64 (a1)) * a0.1))).toNat)).length (c_1 - ((w64 ((w64 (a1)) * a0.1))).toNat))] rfl ?_
      refine J.seq ?_
      refine J.region ?_
      refine RJ.run ttok 1 rfl ?_
      obtain ⟨r3, q3, H⟩ := bind_t H
      refine RJ.op rfl rfl (op_call [] (slices_Clone_byte_byte.spec q3) rfl rfl rfl h6 rfl (gcons ((Gives.of 1 rfl own_rd).trans (rd_cut (ty := (.int .u8)) (l := (w64 ((w64 (a1)) * a0.1))) (h := (w64 ((w64 ((w64 (a1)) * a0.1)) + a0.1))) (sub := ((a0.2.1.drop ((w64 ((w64 (a1)) * a0.1))).toNat).take (((w64 ((w64 ((w64 (a1)) * a0.1)) + a0.1))).toNat - ((w64 ((w64 (a1)) * a0.1))).toNat))) rfl p1 p2 p3 rfl)) gnil)) ?_
      rintro _ w4 ⟨_, ⟨A2, c_2, rfl, rfl⟩, h7⟩
      replace h7 : St w0 F0 [ownC 5 (.int .u8) r3 (.slice A2 r3.length c_2), boxC b1 51 [.int .i64 a0.1, .slice A1 a0.2.1.length c_1, .int .u64 (IntKind.u64.wrap (a0.2.2.1 + 1)), .int .u64 a0.2.2.2], ownC 5 (.int .u8) a0.2.1 (.slice A1 a0.2.1.length c_1)] _ _ := h7
      refine RJ.run ttok 2 rfl ?_
      refine RJ.fin [(4, .slice A2 r3.length c_2), (5, .int .i64 0)] rfl ?_
      refine J.ret ?_
      obtain rfl := Option.some.inj H
      exact ⟨_, _, _, (results_slots rfl), ⟨_, _, _, _, rfl, rfl⟩, h7.only [0, 0, 0] rfl⟩

/-! (*sluicegate/dev.Device).Write -/
def dev_Device_Write.f (a0 : Int × List (Int) × (Int × Int)) (a1 : Int) (a2 : List (Int)) : Option (Int × (Int × List (Int) × (Int × Int))) := (dev_Device_Blocks.f (a0.1, a0.2.1, (a0.2.2.1, a0.2.2.2))).bind fun r1 => (if (decide (r1 = 0)) = true then (some (1, (a0.1, a0.2.1, (a0.2.2.1, a0.2.2.2)))) else ((dev_Device_Blocks.f (a0.1, a0.2.1, (a0.2.2.1, a0.2.2.2))).bind fun r2 => (if (decide (r2 ≤ (w64 (a1)))) = true then (some (4, (a0.1, a0.2.1, (a0.2.2.1, a0.2.2.2)))) else (if 0 ≤ (w64 ((w64 (a1)) * a0.1)) ∧ (w64 ((w64 (a1)) * a0.1)) ≤ (w64 ((w64 ((w64 (a1)) * a0.1)) + a0.1)) ∧ (w64 ((w64 ((w64 (a1)) * a0.1)) + a0.1)) ≤ (a0.2.1.length : Int) then (if (!decide ((a2.length : Int) = a0.1)) = true then (some (3, (a0.1, a0.2.1, (a0.2.2.1, a0.2.2.2)))) else (some (0, (a0.1, (patch a0.2.1 (((w64 ((w64 (a1)) * a0.1))).toNat) (((a0.2.1.drop ((w64 ((w64 (a1)) * a0.1))).toNat).take (((w64 ((w64 ((w64 (a1)) * a0.1)) + a0.1))).toNat - ((w64 ((w64 (a1)) * a0.1))).toNat)).length) a2), (a0.2.2.1, (IntKind.u64.wrap (a0.2.2.2 + 1))))))) else none))))
set_option maxRecDepth 20000 in
set_option maxHeartbeats 40000000 in
theorem dev_Device_Write.spec {a0 : Int × List (Int) × (Int × Int)} {a1 : Int} {a2 : List (Int)} {A2 : Option Addr} {c_2 : Nat} {b1 : Nat} {A1 : Option Addr} {c_1 : Nat} {r : Int × (Int × List (Int) × (Int × Int))} (H : dev_Device_Write.f a0 a1 a2 = some r) :
    Spec Try.prog 16 [.pointer (some ⟨b1, 0, none⟩), .int .u32 a1, .slice A2 a2.length c_2] [boxC b1 51 [.int .i64 a0.1, .slice A1 a0.2.1.length c_1, .int .u64 a0.2.2.1, .int .u64 a0.2.2.2], ownC 5 (.int .u8) a0.2.1 (.slice A1 a0.2.1.length c_1)] [rdC 5 (.int .u8) a2 (.slice A2 a2.length c_2)] (fun v l => ∃ (A_0 : Option Addr) (c_0 : Nat), v = .int .i64 r.1 ∧ l = [boxC b1 51 [.int .i64 r.2.1, .slice A_0 r.2.2.1.length c_0, .int .u64 r.2.2.2.1, .int .u64 r.2.2.2.2], ownC 5 (.int .u8) r.2.2.1 (.slice A_0 r.2.2.1.length c_0)]) := by
  refine Spec.enter Try.func16 rfl (by kernel_rfl) (by kernel_rfl) fun w0 F0 h0 => ?_
  unfold dev_Device_Write.f at H
  refine J.seq ?_
  refine J.region ?_
  refine RJ.run ttok 1 rfl ?_
  refine RJ.fin [(0, .pointer (some ⟨b1, 0, none⟩)), (1, .int .u32 a1), (2, .slice A2 a2.length c_2)] rfl ?_
  refine J.seq ?_
  refine J.region ?_
  refine RJ.run ttok 2 rfl ?_
  refine RJ.inline rfl rfl rfl rfl rfl Try.func69 rfl (by kernel_rfl) (by kernel_rfl) ?_
  refine J.seq ?_
  refine J.region ?_
  refine RJ.run ttok 2 rfl ?_
  refine RJ.fin [(0, .pointer (some ⟨b1, 0, none⟩)), (1, .int .u32 a1)] rfl ?_
  refine J.seq ?_
  refine J.block ?_
  refine J.seq ?_
  refine J.region ?_
  refine RJ.run ttok 1 rfl ?_
  obtain ⟨r1, q1, H⟩ := bind_t H
  refine RJ.op rfl rfl (op_call [0, 0] (dev_Device_Blocks.spec q1) rfl rfl rfl h0 rfl gnil) ?_
  rintro _ w1 ⟨_, ⟨rfl, rfl⟩, h1⟩
  replace h1 : St w0 F0 [boxC b1 51 [.int .i64 a0.1, .slice A1 a0.2.1.length c_1, .int .u64 a0.2.2.1, .int .u64 a0.2.2.2], ownC 5 (.int .u8) a0.2.1 (.slice A1 a0.2.1.length c_1)] _ _ := h1
  refine RJ.run ttok 2 rfl ?_
  refine RJ.fin [(0, .pointer (some ⟨b1, 0, none⟩)), (1, .int .u32 a1), (7, .bool (decide (r1 = 0)))] rfl ?_
  refine J.cond rfl (fun c1 => ?_) (fun c1 => ?_)
  · replace H := ite_t c1 H
    refine J.seq ?_
    refine J.region ?_
    refine RJ.run ttok 2 rfl ?_
    refine RJ.fin [(4, .slice none ([] : List (Int)).length 0), (5, .int .i64 1)] rfl ?_
    refine J.ret ?_
    refine ⟨_, results_slots rfl, ?_⟩
    refine RJ.run ttok 5 rfl ?_
    refine RJ.fin [(0, .pointer (some ⟨b1, 0, none⟩)), (2, .slice A2 a2.length c_2), (7, .slice none ([] : List (Int)).length 0), (8, .int .i64 1)] rfl ?_
    refine J.seq ?_
    refine J.block ?_
    refine J.seq ?_
    refine J.region ?_
    refine RJ.run ttok 3 rfl ?_
    refine RJ.fin [(0, .pointer (some ⟨b1, 0, none⟩)), (2, .slice A2 a2.length c_2), (7, .slice none ([] : List (Int)).length 0), (8, .int .i64 1), (15, .bool true)] rfl ?_
    refine J.condT rfl ?_
    refine J.seq ?_
    refine J.region ?_
    refine RJ.run ttok 2 rfl ?_
    refine RJ.fin [(6, .int .i64 1)] rfl ?_
    refine J.ret ?_
    obtain rfl := Option.some.inj H
    exact ⟨_, _, _, (results_slots rfl), ⟨_, _, rfl, rfl⟩, h1.only [0, 0] rfl⟩
  · replace H := ite_f c1 H
    refine J.seq ?_
    refine J.region ?_
    refine RJ.run ttok 3 rfl ?_
    obtain ⟨r2, q2, H⟩ := bind_t H
    refine RJ.op rfl rfl (op_call [0, 0] (dev_Device_Blocks.spec q2) rfl rfl rfl h1 rfl gnil) ?_
    rintro _ w2 ⟨_, ⟨rfl, rfl⟩, h2⟩
    replace h2 : St w0 F0 [boxC b1 51 [.int .i64 a0.1, .slice A1 a0.2.1.length c_1, .int .u64 a0.2.2.1, .int .u64 a0.2.2.2], ownC 5 (.int .u8) a0.2.1 (.slice A1 a0.2.1.length c_1)] _ _ := h2
    refine RJ.run ttok 2 rfl ?_
    refine RJ.fin [(0, .pointer (some ⟨b1, 0, none⟩)), (1, .int .u32 a1), (11, .bool (decide (r2 ≤ (w64 (a1)))))] rfl ?_
    refine J.cond rfl (fun c2 => ?_) (fun c2 => ?_)
    · replace H := ite_t c2 H
      refine J.seq ?_
      refine J.region ?_
      refine RJ.run ttok 2 rfl ?_
      refine RJ.fin [(4, .slice none ([] : List (Int)).length 0), (5, .int .i64 4)] rfl ?_
      refine J.ret ?_
      refine ⟨_, results_slots rfl, ?_⟩
      refine RJ.run ttok 5 rfl ?_
      refine RJ.fin [(0, .pointer (some ⟨b1, 0, none⟩)), (2, .slice A2 a2.length c_2), (7, .slice none ([] : List (Int)).length 0), (8, .int .i64 4)] rfl ?_
      refine J.seq ?_
      refine J.block ?_
      refine J.seq ?_
      refine J.region ?_
      refine RJ.run ttok 3 rfl ?_
      refine RJ.fin [(0, .pointer (some ⟨b1, 0, none⟩)), (2, .slice A2 a2.length c_2), (7, .slice none ([] : List (Int)).length 0), (8, .int .i64 4), (15, .bool true)] rfl ?_
      refine J.condT rfl ?_
      refine J.seq ?_
      refine J.region ?_
      refine RJ.run ttok 2 rfl ?_
      refine RJ.fin [(6, .int .i64 4)] rfl ?_
      refine J.ret ?_
      obtain rfl := Option.some.inj H
      exact ⟨_, _, _, (results_slots rfl), ⟨_, _, rfl, rfl⟩, h2.only [0, 0] rfl⟩
    · replace H := ite_f c2 H
      refine J.skip ?_
      refine J.seq ?_
      refine J.region ?_
      refine RJ.run ttok 5 rfl ?_
      refine RJ.q rfl rfl (q_load_box ttok 0 h2.wht rfl rfl rfl rfl rfl) ?_
      refine RJ.run ttok 2 rfl ?_
      refine RJ.fin [(0, .pointer (some ⟨b1, 0, none⟩)), (6, .int .i64 (w64 ((w64 (a1)) * a0.1)))] rfl ?_
      refine J.seq ?_
      refine J.heldSt mix h2 ?_
      have h3 := h2.drew
      refine HJ.run ttok rfl [0, 1, 2, 4, 5, 6, 7, 8] rfl ?_
      refine HJ.q (i := 3) rfl rfl rfl rfl rfl rfl (q_load_box ttok 0 (fun w e => e) rfl rfl rfl rfl rfl) ?_
      refine HJ.q (i := 9) rfl rfl rfl rfl rfl rfl (q_load_box ttok 0 (fun w e => e) rfl rfl rfl rfl rfl) ?_
      refine HJ.run ttok rfl [10] rfl ?_
      obtain ⟨⟨p1, p2, p3⟩, H⟩ := guard_t H
      have e1 := h3.cap (Gives.of 1 rfl own_rd)
      refine HJ.q (i := 11) rfl rfl rfl rfl rfl rfl (q_cut (l := (w64 ((w64 (a1)) * a0.1))) (h := (w64 ((w64 ((w64 (a1)) * a0.1)) + a0.1))) (sub := ((a0.2.1.drop ((w64 ((w64 (a1)) * a0.1))).toNat).take (((w64 ((w64 ((w64 (a1)) * a0.1)) + a0.1))).toNat - ((w64 ((w64 (a1)) * a0.1))).toNat))) ttok rfl rfl rfl rfl e1 ⟨_, rfl⟩ ⟨_, rfl⟩ p1 p2 p3 rfl) ?_
      refine HJ.run ttok rfl [12, 13] rfl ?_
      refine HJ.fin [(4, .slice (cutA A1 c_1 ((w64 ((w64 (a1)) * a0.1))).toNat 1) ((a0.2.1.drop ((w64 ((w64 (a1)) * a0.1))).toNat).take (((w64 ((w64 ((w64 (a1)) * a0.1)) + a0.1))).toNat - ((w64 ((w64 (a1)) * a0.1))).toNat)).length (c_1 - ((w64 ((w64 (a1)) * a0.1))).toNat)), (5, .int .i64 0)] rfl rfl ?_
      refine J.ret ?_
      refine ⟨_, results_slots rfl, ?_⟩
      refine RJ.run ttok 5 rfl ?_
      refine RJ.fin [(0, .pointer (some ⟨b1, 0, none⟩)), (2, .slice A2 a2.length c_2), (7, .slice (cutA A1 c_1 ((w64 ((w64 (a1)) * a0.1))).toNat 1) ((a0.2.1.drop ((w64 ((w64 (a1)) * a0.1))).toNat).take (((w64 ((w64 ((w64 (a1)) * a0.1)) + a0.1))).toNat - ((w64 ((w64 (a1)) * a0.1))).toNat)).length (c_1 - ((w64 ((w64 (a1)) * a0.1))).toNat)), (8, .int .i64 0)] rfl ?_
      refine J.seq ?_
      refine J.block ?_
      refine J.seq ?_
      refine J.region ?_
      refine RJ.run ttok 3 rfl ?_
      refine RJ.fin [(0, .pointer (some ⟨b1, 0, none⟩)), (2, .slice A2 a2.length c_2), (7, .slice (cutA A1 c_1 ((w64 ((w64 (a1)) * a0.1))).toNat 1) ((a0.2.1.drop ((w64 ((w64 (a1)) * a0.1))).toNat).take (((w64 ((w64 ((w64 (a1)) * a0.1)) + a0.1))).toNat - ((w64 ((w64 (a1)) * a0.1))).toNat)).length (c_1 - ((w64 ((w64 (a1)) * a0.1))).toNat)), (8, .int .i64 0), (15, .bool false)] rfl ?_
      refine J.condF rfl ?_
      refine J.seq ?_
      refine J.region ?_
      refine RJ.run ttok 5 rfl ?_
      refine RJ.q rfl rfl (q_load_box ttok 0 h3.wht rfl rfl rfl rfl rfl) ?_
      refine RJ.run ttok 2 rfl ?_
      refine RJ.fin [(0, .pointer (some ⟨b1, 0, none⟩)), (2, .slice A2 a2.length c_2), (7, .slice (cutA A1 c_1 ((w64 ((w64 (a1)) * a0.1))).toNat 1) ((a0.2.1.drop ((w64 ((w64 (a1)) * a0.1))).toNat).take (((w64 ((w64 ((w64 (a1)) * a0.1)) + a0.1))).toNat - ((w64 ((w64 (a1)) * a0.1))).toNat)).length (c_1 - ((w64 ((w64 (a1)) * a0.1))).toNat)), (19, .bool (!decide ((a2.length : Int) = a0.1)))] rfl ?_
      refine J.cond rfl (fun c3 => ?_) (fun c3 => ?_)
      · replace H := ite_t c3 H
        refine J.seq ?_
        refine J.region ?_
        refine RJ.run ttok 1 rfl ?_
        refine RJ.fin [(6, .int .i64 3)] rfl ?_
        refine J.ret ?_
        obtain rfl := Option.some.inj H
        exact ⟨_, _, _, (results_slots rfl), ⟨_, _, rfl, rfl⟩, h3.only [0, 0] rfl⟩
      · replace H := ite_f c3 H
        refine J.skip ?_
        refine J.seq ?_
        refine J.region ?_
        refine RJ.run ttok 2 rfl ?_
        have e2 : (((w64 ((w64 (a1)) * a0.1))).toNat) + ((a0.2.1.drop ((w64 ((w64 (a1)) * a0.1))).toNat).take (((w64 ((w64 ((w64 (a1)) * a0.1)) + a0.1))).toNat - ((w64 ((w64 (a1)) * a0.1))).toNat)).length ≤ a0.2.1.length := by simp only [List.length_take, List.length_drop]; omega
        refine RJ.op rfl rfl (op_copy_own ttok (ty := (.int .u8)) (xs := a0.2.1) (ys := a2) rfl 1 rfl h3 rfl (Gives.self 1 rfl) rfl rfl rfl rfl rfl rfl e2) ?_
        rintro _ w3 ⟨rfl, h4⟩
        replace h4 : St w0 F0 [ownC 5 (.int .u8) (patch a0.2.1 (((w64 ((w64 (a1)) * a0.1))).toNat) (((a0.2.1.drop ((w64 ((w64 (a1)) * a0.1))).toNat).take (((w64 ((w64 ((w64 (a1)) * a0.1)) + a0.1))).toNat - ((w64 ((w64 (a1)) * a0.1))).toNat)).length) a2) (.slice A1 (patch a0.2.1 (((w64 ((w64 (a1)) * a0.1))).toNat) (((a0.2.1.drop ((w64 ((w64 (a1)) * a0.1))).toNat).take (((w64 ((w64 ((w64 (a1)) * a0.1)) + a0.1))).toNat - ((w64 ((w64 (a1)) * a0.1))).toNat)).length) a2).length c_1), boxC b1 51 [.int .i64 a0.1, .slice A1 a0.2.1.length c_1, .int .u64 a0.2.2.1, .int .u64 a0.2.2.2]] _ _ := h4
        replace h4 : St w0 F0 [ownC 5 (.int .u8) (patch a0.2.1 (((w64 ((w64 (a1)) * a0.1))).toNat) (((a0.2.1.drop ((w64 ((w64 (a1)) * a0.1))).toNat).take (((w64 ((w64 ((w64 (a1)) * a0.1)) + a0.1))).toNat - ((w64 ((w64 (a1)) * a0.1))).toNat)).length) a2) (.slice A1 (patch a0.2.1 (((w64 ((w64 (a1)) * a0.1))).toNat) (((a0.2.1.drop ((w64 ((w64 (a1)) * a0.1))).toNat).take (((w64 ((w64 ((w64 (a1)) * a0.1)) + a0.1))).toNat - ((w64 ((w64 (a1)) * a0.1))).toNat)).length) a2).length c_1), boxC b1 51 [.int .i64 a0.1, .slice A1 (patch a0.2.1 (((w64 ((w64 (a1)) * a0.1))).toNat) (((a0.2.1.drop ((w64 ((w64 (a1)) * a0.1))).toNat).take (((w64 ((w64 ((w64 (a1)) * a0.1)) + a0.1))).toNat - ((w64 ((w64 (a1)) * a0.1))).toNat)).length) a2).length c_1, .int .u64 a0.2.2.1, .int .u64 a0.2.2.2]] _ _ := h4.retell (by simp only [patch_length e2])
        refine RJ.fin [(0, .pointer (some ⟨b1, 0, none⟩))] rfl ?_
        refine J.seq ?_
        refine J.region ?_
        refine RJ.run ttok 4 rfl ?_
        refine RJ.q rfl rfl (q_load_box ttok 1 h4.wht rfl rfl rfl rfl rfl) ?_
        refine RJ.run ttok 4 rfl ?_
        refine RJ.op rfl rfl (op_store ttok 1 rfl h4 rfl rfl rfl rfl rfl rfl rfl) ?_
        intro _ w4 h5
        replace h5 : St w0 F0 [boxC b1 51 [.int .i64 a0.1, .slice A1 (patch a0.2.1 (((w64 ((w64 (a1)) * a0.1))).toNat) (((a0.2.1.drop ((w64 ((w64 (a1)) * a0.1))).toNat).take (((w64 ((w64 ((w64 (a1)) * a0.1)) + a0.1))).toNat - ((w64 ((w64 (a1)) * a0.1))).toNat)).length) a2).length c_1, .int .u64 a0.2.2.1, .int .u64 (IntKind.u64.wrap (a0.2.2.2 + 1))], ownC 5 (.int .u8) (patch a0.2.1 (((w64 ((w64 (a1)) * a0.1))).toNat) (((a0.2.1.drop ((w64 ((w64 (a1)) * a0.1))).toNat).take (((w64 ((w64 ((w64 (a1)) * a0.1)) + a0.1))).toNat - ((w64 ((w64 (a1)) * a0.1))).toNat)).length) a2) (.slice A1 (patch a0.2.1 (((w64 ((w64 (a1)) * a0.1))).toNat) (((a0.2.1.drop ((w64 ((w64 (a1)) * a0.1))).toNat).take (((w64 ((w64 ((w64 (a1)) * a0.1)) + a0.1))).toNat - ((w64 ((w64 (a1)) * a0.1))).toNat)).length) a2).length c_1)] _ _ := h5
        refine RJ.fin [] rfl ?_
        refine J.seq ?_
        refine J.region ?_
        refine RJ.run ttok 1 rfl ?_
        refine RJ.fin [(6, .int .i64 0)] rfl ?_
        refine J.ret ?_
        obtain rfl := Option.some.inj H
        exact ⟨_, _, _, (results_slots rfl), ⟨_, _, rfl, rfl⟩, h5.only [0, 0] rfl⟩

/-! (*sluicegate/dev.Device).Bytes -/
def dev_Device_Bytes.f (a0 : Int × List (Int) × (Int × Int)) : Option (Int) := some a0.1
set_option maxRecDepth 20000 in
set_option maxHeartbeats 40000000 in
theorem dev_Device_Bytes.spec {a0 : Int × List (Int) × (Int × Int)} {b1 : Nat} {A1 : Option Addr} {c_1 : Nat} {r : Int} (H : dev_Device_Bytes.f a0 = some r) :
    Spec Try.prog 25 [.pointer (some ⟨b1, 0, none⟩)] [boxC b1 51 [.int .i64 a0.1, .slice A1 a0.2.1.length c_1, .int .u64 a0.2.2.1, .int .u64 a0.2.2.2], ownC 5 (.int .u8) a0.2.1 (.slice A1 a0.2.1.length c_1)] [] (fun v l => v = .int .i64 r ∧ l = [boxC b1 51 [.int .i64 a0.1, .slice A1 a0.2.1.length c_1, .int .u64 a0.2.2.1, .int .u64 a0.2.2.2], ownC 5 (.int .u8) a0.2.1 (.slice A1 a0.2.1.length c_1)]) := by
  refine Spec.enter Try.func25 rfl (by kernel_rfl) (by kernel_rfl) fun w0 F0 h0 => ?_
  unfold dev_Device_Bytes.f at H
  refine J.seq ?_
  refine J.region ?_
  refine RJ.run ttok 1 rfl ?_
  refine RJ.fin [(0, .pointer (some ⟨b1, 0, none⟩))] rfl ?_
  refine J.seq ?_
  refine J.seq ?_
  refine J.region ?_
  refine RJ.run ttok 2 rfl ?_
  refine RJ.fin [(0, .pointer (some ⟨b1, 0, none⟩)), (4, .bool false)] rfl ?_
  refine J.condF rfl ?_
  refine J.skip ?_
  refine J.seq ?_
  refine J.region ?_
  refine RJ.run ttok 3 rfl ?_
  refine RJ.q rfl rfl (q_load_box ttok 0 h0.wht rfl rfl rfl rfl rfl) ?_
  refine RJ.run ttok 1 rfl ?_
  refine RJ.fin [(2, .int .i64 a0.1)] rfl ?_
  refine J.ret ?_
  obtain rfl := Option.some.inj H
  exact ⟨_, _, _, (results_slots rfl), ⟨rfl, rfl⟩, h0.only [0, 0] rfl⟩

/-! (*sluicegate/dev.Device).Stats -/
def dev_Device_Stats.f (a0 : Int × List (Int) × (Int × Int)) : Option ((Int × Int)) := some (a0.2.2.1, a0.2.2.2)
set_option maxRecDepth 20000 in
set_option maxHeartbeats 40000000 in
theorem dev_Device_Stats.spec {a0 : Int × List (Int) × (Int × Int)} {b1 : Nat} {A1 : Option Addr} {c_1 : Nat} {r : (Int × Int)} (H : dev_Device_Stats.f a0 = some r) :
    Spec Try.prog 26 [.pointer (some ⟨b1, 0, none⟩)] [boxC b1 51 [.int .i64 a0.1, .slice A1 a0.2.1.length c_1, .int .u64 a0.2.2.1, .int .u64 a0.2.2.2], ownC 5 (.int .u8) a0.2.1 (.slice A1 a0.2.1.length c_1)] [] (fun v l => v = .agg #[.int .u64 r.1, .int .u64 r.2] ∧ l = [boxC b1 51 [.int .i64 a0.1, .slice A1 a0.2.1.length c_1, .int .u64 a0.2.2.1, .int .u64 a0.2.2.2], ownC 5 (.int .u8) a0.2.1 (.slice A1 a0.2.1.length c_1)]) := by
  refine Spec.enter Try.func26 rfl (by kernel_rfl) (by kernel_rfl) fun w0 F0 h0 => ?_
  unfold dev_Device_Stats.f at H
  refine J.seq ?_
  refine J.region ?_
  refine RJ.op rfl rfl (op_alloc ttok rfl rfl h0) ?_
  rintro _ w1 ⟨b2, rfl, h1⟩
  replace h1 : St w0 F0 [boxC b2 49 [.int .u64 0, .int .u64 0], boxC b1 51 [.int .i64 a0.1, .slice A1 a0.2.1.length c_1, .int .u64 a0.2.2.1, .int .u64 a0.2.2.2], ownC 5 (.int .u8) a0.2.1 (.slice A1 a0.2.1.length c_1)] _ _ := h1
  refine RJ.fin [(0, .pointer (some ⟨b1, 0, none⟩)), (2, .pointer (some ⟨b2, 0, none⟩))] rfl ?_
  refine J.seq ?_
  refine J.seq ?_
  refine J.region ?_
  refine RJ.run ttok 2 rfl ?_
  refine RJ.fin [(0, .pointer (some ⟨b1, 0, none⟩)), (2, .pointer (some ⟨b2, 0, none⟩)), (4, .bool false)] rfl ?_
  refine J.condF rfl ?_
  refine J.skip ?_
  refine J.seq ?_
  refine J.region ?_
  refine RJ.run ttok 3 rfl ?_
  refine RJ.q rfl rfl (q_load_box ttok 1 h1.wht rfl rfl rfl rfl rfl) ?_
  refine RJ.op rfl rfl (op_store ttok 0 rfl h1 rfl rfl rfl rfl rfl rfl rfl) ?_
  intro _ w2 h2
  replace h2 : St w0 F0 [boxC b2 49 [.int .u64 a0.2.2.1, .int .u64 a0.2.2.2], boxC b1 51 [.int .i64 a0.1, .slice A1 a0.2.1.length c_1, .int .u64 a0.2.2.1, .int .u64 a0.2.2.2], ownC 5 (.int .u8) a0.2.1 (.slice A1 a0.2.1.length c_1)] _ _ := h2
  refine RJ.fin [(2, .pointer (some ⟨b2, 0, none⟩))] rfl ?_
  refine J.ret ?_
  obtain rfl := Option.some.inj H
  exact ⟨_, _, _, (results_two rfl (rvcons (RV.cell ttok 0 h2 rfl rfl rfl rfl) rvnil) rfl), ⟨rfl, rfl⟩, h2.only [1, 1] rfl⟩

/-! (*sluicegate/dev.Device).Image -/
def dev_Device_Image.f (a0 : Int × List (Int) × (Int × Int)) : Option (List (Int)) := (slices_Clone_byte_byte.f a0.2.1).bind fun r1 => (some r1)
set_option maxRecDepth 20000 in
set_option maxHeartbeats 40000000 in
theorem dev_Device_Image.spec {a0 : Int × List (Int) × (Int × Int)} {b1 : Nat} {A1 : Option Addr} {c_1 : Nat} {r : List (Int)} (H : dev_Device_Image.f a0 = some r) :
    Spec Try.prog 23 [.pointer (some ⟨b1, 0, none⟩)] [boxC b1 51 [.int .i64 a0.1, .slice A1 a0.2.1.length c_1, .int .u64 a0.2.2.1, .int .u64 a0.2.2.2], ownC 5 (.int .u8) a0.2.1 (.slice A1 a0.2.1.length c_1)] [] (fun v l => ∃ (A_0 : Option Addr) (c_0 : Nat), v = .slice A_0 r.length c_0 ∧ l = [ownC 5 (.int .u8) r (.slice A_0 r.length c_0), boxC b1 51 [.int .i64 a0.1, .slice A1 a0.2.1.length c_1, .int .u64 a0.2.2.1, .int .u64 a0.2.2.2], ownC 5 (.int .u8) a0.2.1 (.slice A1 a0.2.1.length c_1)]) := by
  refine Spec.enter Try.func23 rfl (by kernel_rfl) (by kernel_rfl) fun w0 F0 h0 => ?_
  unfold dev_Device_Image.f at H
  refine J.seq ?_
  refine J.region ?_
  refine RJ.run ttok 1 rfl ?_
  refine RJ.fin [(0, .pointer (some ⟨b1, 0, none⟩))] rfl ?_
  refine J.seq ?_
  refine J.seq ?_
  refine J.region ?_
  refine RJ.run ttok 2 rfl ?_
  refine RJ.fin [(0, .pointer (some ⟨b1, 0, none⟩)), (4, .bool false)] rfl ?_
  refine J.condF rfl ?_
  refine J.skip ?_
  refine J.seq ?_
  refine J.region ?_
  refine RJ.run ttok 3 rfl ?_
  refine RJ.q rfl rfl (q_load_box ttok 0 h0.wht rfl rfl rfl rfl rfl) ?_
  obtain ⟨r1, q1, H⟩ := bind_t H
  refine RJ.op rfl rfl (op_call [] (slices_Clone_byte_byte.spec q1) rfl rfl rfl h0 rfl (gcons (Gives.of 1 rfl own_rd) gnil)) ?_
  rintro _ w1 ⟨_, ⟨A2, c_2, rfl, rfl⟩, h1⟩
  replace h1 : St w0 F0 [ownC 5 (.int .u8) r1 (.slice A2 r1.length c_2), boxC b1 51 [.int .i64 a0.1, .slice A1 a0.2.1.length c_1, .int .u64 a0.2.2.1, .int .u64 a0.2.2.2], ownC 5 (.int .u8) a0.2.1 (.slice A1 a0.2.1.length c_1)] _ _ := h1
  refine RJ.run ttok 1 rfl ?_
  refine RJ.fin [(2, .slice A2 r1.length c_2)] rfl ?_
  refine J.ret ?_
  obtain rfl := Option.some.inj H
  exact ⟨_, _, _, (results_slots rfl), ⟨_, _, rfl, rfl⟩, h1.only [0, 0, 0] rfl⟩

/-! sluicegate/dev.right -/
def dev_right.f (a0 : Int) (a1 : Int) : Option (Bool) := if (decide (5 ≤ a0)) = true then (if (decide (a0 ≤ 65536)) = true then (if (decide (1 ≤ a1)) = true then (some (decide (a1 ≤ 65536))) else (some false)) else (some false)) else (some false)
set_option maxRecDepth 20000 in
set_option maxHeartbeats 40000000 in
theorem dev_right.spec {a0 : Int} {a1 : Int}  {r : Bool} (H : dev_right.f a0 a1 = some r) :
    Spec Try.prog 68 [.int .i64 a0, .int .i64 a1] [] [] (fun v l => v = .bool r ∧ l = []) := by
  refine Spec.enter Try.func68 rfl (by kernel_rfl) (by kernel_rfl) fun w0 F0 h0 => ?_
  unfold dev_right.f at H
  refine J.seq ?_
  refine J.region ?_
  refine RJ.run ttok 1 rfl ?_
  refine RJ.fin [(0, .int .i64 a0), (1, .int .i64 a1)] rfl ?_
  refine J.seq ?_
  refine J.region ?_
  refine RJ.run ttok 3 rfl ?_
  rcases Bool.eq_false_or_eq_true (decide (5 ≤ a0)) with c1 | c1
  · replace H := ite_t c1 H
    refine RJ.know (t := 7) rfl (congrArg Value.bool c1) ?_
    refine RJ.run ttok 4 rfl ?_
    rcases Bool.eq_false_or_eq_true (decide (a0 ≤ 65536)) with c2 | c2
    · replace H := ite_t c2 H
      refine RJ.know (t := 11) rfl (congrArg Value.bool c2) ?_
      refine RJ.run ttok 4 rfl ?_
      rcases Bool.eq_false_or_eq_true (decide (1 ≤ a1)) with c3 | c3
      · replace H := ite_t c3 H
        refine RJ.know (t := 15) rfl (congrArg Value.bool c3) ?_
        refine RJ.run ttok 4 rfl ?_
        refine RJ.fin [(4, .bool (decide (a1 ≤ 65536)))] rfl ?_
        refine J.ret ?_
        obtain rfl := Option.some.inj H
        exact ⟨_, _, _, (results_slots rfl), ⟨rfl, rfl⟩, h0.only [] rfl⟩
      · replace H := ite_f c3 H
        refine RJ.know (t := 15) rfl (congrArg Value.bool c3) ?_
        refine RJ.run ttok 4 rfl ?_
        refine RJ.fin [(4, .bool false)] rfl ?_
        refine J.ret ?_
        obtain rfl := Option.some.inj H
        exact ⟨_, _, _, (results_slots rfl), ⟨rfl, rfl⟩, h0.only [] rfl⟩
    · replace H := ite_f c2 H
      refine RJ.know (t := 11) rfl (congrArg Value.bool c2) ?_
      refine RJ.run ttok 8 rfl ?_
      refine RJ.fin [(4, .bool false)] rfl ?_
      refine J.ret ?_
      obtain rfl := Option.some.inj H
      exact ⟨_, _, _, (results_slots rfl), ⟨rfl, rfl⟩, h0.only [] rfl⟩
  · replace H := ite_f c1 H
    refine RJ.know (t := 7) rfl (congrArg Value.bool c1) ?_
    refine RJ.run ttok 12 rfl ?_
    refine RJ.fin [(4, .bool false)] rfl ?_
    refine J.ret ?_
    obtain rfl := Option.some.inj H
    exact ⟨_, _, _, (results_slots rfl), ⟨rfl, rfl⟩, h0.only [] rfl⟩

/-! sluicegate/dev.New -/
def dev_New.f (a0 : Int) (a1 : Int) : Option (Option (Int × List (Int) × (Int × Int)) × Int) := (dev_right.f a0 a1).bind fun r1 => (if (!r1) = true then (some (none, 2)) else (if 0 ≤ (w64 (a0 * a1)) ∧ (w64 (a0 * a1)) * 1 ≤ 281474976710656 then (some ((some (a1, (List.replicate ((w64 (a0 * a1)).toNat) (0 : Int)), (0, 0))), 0)) else none))
set_option maxRecDepth 20000 in
set_option maxHeartbeats 40000000 in
theorem dev_New.spec {a0 : Int} {a1 : Int}  {r : Option (Int × List (Int) × (Int × Int)) × Int} (H : dev_New.f a0 a1 = some r) :
    Spec Try.prog 15 [.int .i64 a0, .int .i64 a1] [] [] (fun v l => ∃ (pv : Value) (lp : List Ch), OptC r.1 (fun d pv lp => ∃ (b_0 : Nat) (A_1 : Option Addr) (c_1 : Nat), pv = .pointer (some ⟨b_0, 0, none⟩) ∧ lp = [boxC b_0 51 [.int .i64 d.1, .slice A_1 d.2.1.length c_1, .int .u64 d.2.2.1, .int .u64 d.2.2.2], ownC 5 (.int .u8) d.2.1 (.slice A_1 d.2.1.length c_1)]) pv lp ∧ v = .tuple #[pv, .int .i64 r.2] ∧ l = lp ++ []) := by
  refine Spec.enter Try.func15 rfl (by kernel_rfl) (by kernel_rfl) fun w0 F0 h0 => ?_
  unfold dev_New.f at H
  refine J.seq ?_
  refine J.region ?_
  refine RJ.run ttok 2 rfl ?_
  refine RJ.fin [(0, .int .i64 a0), (1, .int .i64 a1)] rfl ?_
  refine J.seq ?_
  refine J.seq ?_
  refine J.region ?_
  refine RJ.run ttok 2 rfl ?_
  obtain ⟨r1, q1, H⟩ := bind_t H
  refine RJ.op rfl rfl (op_call [] (dev_right.spec q1) rfl rfl rfl h0 rfl gnil) ?_
  rintro _ w1 ⟨_, ⟨rfl, rfl⟩, h1⟩
  replace h1 : St w0 F0 [] _ _ := h1
  refine RJ.run ttok 1 rfl ?_
  refine RJ.fin [(0, .int .i64 a0), (1, .int .i64 a1), (9, .bool (!r1))] rfl ?_
  refine J.cond rfl (fun c1 => ?_) (fun c1 => ?_)
  · replace H := ite_t c1 H
    refine J.seq ?_
    refine J.region ?_
    refine RJ.run ttok 2 rfl ?_
    refine RJ.fin [(4, .pointer none), (5, .int .i64 2)] rfl ?_
    refine J.ret ?_
    obtain rfl := Option.some.inj H
    exact ⟨_, _, _, (results_slots rfl), ⟨_, _, OptC.no, rfl, rfl⟩, h1.only [] rfl⟩
  · replace H := ite_f c1 H
    refine J.skip ?_
    refine J.seq ?_
    refine J.region ?_
    refine RJ.run ttok 4 rfl ?_
    obtain ⟨⟨p1, p2⟩, H⟩ := guard_t H
    refine RJ.op rfl rfl (op_make ttok (ty := (.int .u8)) rfl (0 : Int) rfl rfl rfl rfl rfl rfl rfl (by decide) h1 p1 p2) ?_
    rintro _ w2 ⟨b1, rfl, h2⟩
    replace h2 : St w0 F0 [ownC 5 (.int .u8) (List.replicate ((w64 (a0 * a1)).toNat) (0 : Int)) (.slice (some ⟨b1, 0, none⟩) (List.replicate ((w64 (a0 * a1)).toNat) (0 : Int)).length ((w64 (a0 * a1)).toNat))] _ _ := h2
    refine RJ.run ttok 1 rfl ?_
    refine RJ.op rfl rfl (op_box rfl rfl h2) ?_
    rintro _ w3 ⟨b2, rfl, h3⟩
    replace h3 : St w0 F0 [boxC b2 51 [.int .i64 a1, .slice (some ⟨b1, 0, none⟩) (List.replicate ((w64 (a0 * a1)).toNat) (0 : Int)).length ((w64 (a0 * a1)).toNat), .int .u64 0, .int .u64 0], ownC 5 (.int .u8) (List.replicate ((w64 (a0 * a1)).toNat) (0 : Int)) (.slice (some ⟨b1, 0, none⟩) (List.replicate ((w64 (a0 * a1)).toNat) (0 : Int)).length ((w64 (a0 * a1)).toNat))] _ _ := h3
    refine RJ.run ttok 2 rfl ?_
    refine RJ.fin [(4, .pointer (some ⟨b2, 0, none⟩)), (5, .int .i64 0)] rfl ?_
    refine J.ret ?_
    obtain rfl := Option.some.inj H
    exact ⟨_, _, _, (results_slots rfl), ⟨_, _, (OptC.yes ⟨_, _, _, rfl, rfl⟩), rfl, rfl⟩, h3.only [0, 0] rfl⟩

/-! sluicegate/sluicegatelaw06.awake -/
def sluicegatelaw06_awake.f  : Option (Bool) := (dev_New.f 5 4).bind fun r1 => (ocase r1.1 (if (!decide (r1.2 = 0)) = true then (some false) else (some false)) (fun r2 => (if (!decide (r1.2 = 0)) = true then (some false) else ((dev_Device_Write.f (r2.1, r2.2.1, (r2.2.2.1, r2.2.2.2)) 1 ([1, 2, 3, 4] : List (Int))).bind fun r3 => (if (!decide (r3.1 = 0)) = true then (some false) else ((dev_Device_Read.f (r3.2.1, r3.2.2.1, (r3.2.2.2.1, r3.2.2.2.2)) 1).bind fun r4 => (if (decide ((toS r4.1) = ([1, 2, 3, 4] : List UInt8))) = true then (if (decide (r4.2.1 = 0)) = true then ((dev_Device_Stats.f (r4.2.2.1, r4.2.2.2.1, (r4.2.2.2.2.1, r4.2.2.2.2.2))).bind fun r5 => (if ((decide (r5.1 = 1)) && ((decide (r5.2 = 1)) && true)) = true then ((dev_Device_Write.f (r4.2.2.1, r4.2.2.2.1, (r4.2.2.2.2.1, r4.2.2.2.2.2)) 5 r4.1).bind fun r6 => (some (decide (r6.1 = 4)))) else (some false))) else (some false)) else (some false))))))))
set_option maxRecDepth 20000 in
set_option maxHeartbeats 40000000 in
theorem sluicegatelaw06_awake.spec   {r : Bool} (H : sluicegatelaw06_awake.f  = some r) :
    Spec Try.prog 18 [] [] [] (fun v l => v = .bool r ∧ l = []) := by
  refine Spec.enter Try.func18 rfl (by kernel_rfl) (by kernel_rfl) fun w0 F0 h0 => ?_
  unfold sluicegatelaw06_awake.f at H
  refine J.seq ?_
  refine J.region ?_
  refine RJ.run ttok 1 rfl ?_
  refine RJ.fin [] rfl ?_
  refine J.seq ?_
  refine J.region ?_
  obtain ⟨r1, q1, H⟩ := bind_t H
  refine RJ.op rfl rfl (op_call [] (dev_New.spec q1) rfl rfl rfl h0 rfl gnil) ?_
  rintro _ w1 ⟨_, ⟨v1, l1, ho1, rfl, rfl⟩, h1⟩
  rcases ho2 : r1.1 with _ | r2
  · rw [ho2] at ho1
    obtain ⟨rfl, rfl⟩ := ho1
    replace H := ocase_n ho2 H
    replace h1 : St w0 F0 [] _ _ := h1
    refine RJ.run ttok 5 rfl ?_
    refine RJ.fin [(1, .pointer none), (2, .int .i64 r1.2)] rfl ?_
    refine J.seq ?_
    refine J.seq ?_
    refine J.region ?_
    refine RJ.run ttok 3 rfl ?_
    rcases Bool.eq_false_or_eq_true (!decide (r1.2 = 0)) with c1 | c1
    · replace H := ite_t c1 H
      refine RJ.know (t := 11) rfl (congrArg Value.bool c1) ?_
      refine RJ.run ttok 9 rfl ?_
      refine RJ.fin [(1, .pointer none), (20, .bool true)] rfl ?_
      refine J.condT rfl ?_
      refine J.seq ?_
      refine J.region ?_
      refine RJ.run ttok 1 rfl ?_
      refine RJ.fin [(0, .bool false)] rfl ?_
      refine J.ret ?_
      obtain rfl := Option.some.inj H
      exact ⟨_, _, _, (results_slots rfl), ⟨rfl, rfl⟩, h1.only [] rfl⟩
    · replace H := ite_f c1 H
      refine RJ.know (t := 11) rfl (congrArg Value.bool c1) ?_
      refine RJ.run ttok 9 rfl ?_
      refine RJ.fin [(1, .pointer none), (20, .bool true)] rfl ?_
      refine J.condT rfl ?_
      refine J.seq ?_
      refine J.region ?_
      refine RJ.run ttok 1 rfl ?_
      refine RJ.fin [(0, .bool false)] rfl ?_
      refine J.ret ?_
      obtain rfl := Option.some.inj H
      exact ⟨_, _, _, (results_slots rfl), ⟨rfl, rfl⟩, h1.only [] rfl⟩
  · rw [ho2] at ho1
    obtain ⟨b1, A1, c_1, rfl, rfl⟩ := ho1
    replace H := ocase_s ho2 H
    replace h1 : St w0 F0 [boxC b1 51 [.int .i64 r2.1, .slice A1 r2.2.1.length c_1, .int .u64 r2.2.2.1, .int .u64 r2.2.2.2], ownC 5 (.int .u8) r2.2.1 (.slice A1 r2.2.1.length c_1)] _ _ := h1
    refine RJ.run ttok 5 rfl ?_
    refine RJ.fin [(1, .pointer (some ⟨b1, 0, none⟩)), (2, .int .i64 r1.2)] rfl ?_
    refine J.seq ?_
    refine J.seq ?_
    refine J.region ?_
    refine RJ.run ttok 3 rfl ?_
    rcases Bool.eq_false_or_eq_true (!decide (r1.2 = 0)) with c2 | c2
    · replace H := ite_t c2 H
      refine RJ.know (t := 11) rfl (congrArg Value.bool c2) ?_
      refine RJ.run ttok 9 rfl ?_
      refine RJ.fin [(1, .pointer (some ⟨b1, 0, none⟩)), (20, .bool true)] rfl ?_
      refine J.condT rfl ?_
      refine J.seq ?_
      refine J.region ?_
      refine RJ.run ttok 1 rfl ?_
      refine RJ.fin [(0, .bool false)] rfl ?_
      have h2 := h1.only [] rfl
      replace h2 : St w0 F0 [] _ _ := h2
      refine J.ret ?_
      obtain rfl := Option.some.inj H
      exact ⟨_, _, _, (results_slots rfl), ⟨rfl, rfl⟩, h2.only [] rfl⟩
    · replace H := ite_f c2 H
      refine RJ.know (t := 11) rfl (congrArg Value.bool c2) ?_
      refine RJ.run ttok 5 rfl ?_
      refine RJ.op rfl rfl (op_lit ttok (.int .u8) rfl ([1, 2, 3, 4] : List (Int)) rfl h1 rfl rfl (by decide) rfl rfl rfl rfl rfl rfl rfl) ?_
      rintro _ w2 ⟨b2, rfl, h3⟩
      replace h3 : St w0 F0 [ownC 5 (.int .u8) ([1, 2, 3, 4] : List (Int)) (.slice (some ⟨b2, 0, none⟩) ([1, 2, 3, 4] : List (Int)).length 4), boxC b1 51 [.int .i64 r2.1, .slice A1 r2.2.1.length c_1, .int .u64 r2.2.2.1, .int .u64 r2.2.2.2], ownC 5 (.int .u8) r2.2.1 (.slice A1 r2.2.1.length c_1)] _ _ := h3
      obtain ⟨r3, q2, H⟩ := bind_t H
      refine RJ.op rfl rfl (op_call [1, 1] (dev_Device_Write.spec q2) rfl rfl rfl h3 rfl (gcons (Gives.of 0 rfl own_rd) gnil)) ?_
      rintro _ w3 ⟨_, ⟨A2, c_2, rfl, rfl⟩, h4⟩
      replace h4 : St w0 F0 [boxC b1 51 [.int .i64 r3.2.1, .slice A2 r3.2.2.1.length c_2, .int .u64 r3.2.2.2.1, .int .u64 r3.2.2.2.2], ownC 5 (.int .u8) r3.2.2.1 (.slice A2 r3.2.2.1.length c_2), ownC 5 (.int .u8) ([1, 2, 3, 4] : List (Int)) (.slice (some ⟨b2, 0, none⟩) ([1, 2, 3, 4] : List (Int)).length 4)] _ _ := h4
      refine RJ.run ttok 2 rfl ?_
      refine RJ.fin [(1, .pointer (some ⟨b1, 0, none⟩)), (20, .bool (!decide (r3.1 = 0)))] rfl ?_
      refine J.cond rfl (fun c3 => ?_) (fun c3 => ?_)
      · replace H := ite_t c3 H
        refine J.seq ?_
        refine J.region ?_
        refine RJ.run ttok 1 rfl ?_
        refine RJ.fin [(0, .bool false)] rfl ?_
        have h5 := h4.only [] rfl
        replace h5 : St w0 F0 [] _ _ := h5
        refine J.ret ?_
        obtain rfl := Option.some.inj H
        exact ⟨_, _, _, (results_slots rfl), ⟨rfl, rfl⟩, h5.only [] rfl⟩
      · replace H := ite_f c3 H
        refine J.skip ?_
        refine J.seq ?_
        refine J.region ?_
        refine RJ.run ttok 1 rfl ?_
        obtain ⟨r4, q3, H⟩ := bind_t H
        refine RJ.op rfl rfl (op_call [0, 0] (dev_Device_Read.spec q3) rfl rfl rfl h4 rfl gnil) ?_
        rintro _ w4 ⟨_, ⟨A3, c_3, A4, c_4, rfl, rfl⟩, h6⟩
        replace h6 : St w0 F0 [ownC 5 (.int .u8) r4.1 (.slice A3 r4.1.length c_3), boxC b1 51 [.int .i64 r4.2.2.1, .slice A4 r4.2.2.2.1.length c_4, .int .u64 r4.2.2.2.2.1, .int .u64 r4.2.2.2.2.2], ownC 5 (.int .u8) r4.2.2.2.1 (.slice A4 r4.2.2.2.1.length c_4), ownC 5 (.int .u8) ([1, 2, 3, 4] : List (Int)) (.slice (some ⟨b2, 0, none⟩) ([1, 2, 3, 4] : List (Int)).length 4)] _ _ := h6
        refine RJ.run ttok 5 rfl ?_
        refine RJ.fin [(1, .pointer (some ⟨b1, 0, none⟩)), (3, .slice A3 r4.1.length c_3), (4, .int .i64 r4.2.1)] rfl ?_
        refine J.seq ?_
        refine J.region ?_
        refine RJ.run ttok 1 rfl ?_
        refine RJ.q rfl rfl (q_tostr ttok h6.wht (Gives.of 0 rfl own_rd) rfl rfl rfl rfl rfl) ?_
        refine RJ.run ttok 2 rfl ?_
        rcases Bool.eq_false_or_eq_true (decide ((toS r4.1) = ([1, 2, 3, 4] : List UInt8))) with c4 | c4
        · replace H := ite_t c4 H
          refine RJ.know (t := 29) rfl (congrArg Value.bool c4) ?_
          refine RJ.run ttok 4 rfl ?_
          rcases Bool.eq_false_or_eq_true (decide (r4.2.1 = 0)) with c5 | c5
          · replace H := ite_t c5 H
            refine RJ.know (t := 33) rfl (congrArg Value.bool c5) ?_
            refine RJ.run ttok 1 rfl ?_
            obtain ⟨r5, q4, H⟩ := bind_t H
            refine RJ.op rfl rfl (op_call [1, 1] (dev_Device_Stats.spec q4) rfl rfl rfl h6 rfl gnil) ?_
            rintro _ w5 ⟨_, ⟨rfl, rfl⟩, h7⟩
            replace h7 : St w0 F0 [boxC b1 51 [.int .i64 r4.2.2.1, .slice A4 r4.2.2.2.1.length c_4, .int .u64 r4.2.2.2.2.1, .int .u64 r4.2.2.2.2.2], ownC 5 (.int .u8) r4.2.2.2.1 (.slice A4 r4.2.2.2.1.length c_4), ownC 5 (.int .u8) r4.1 (.slice A3 r4.1.length c_3), ownC 5 (.int .u8) ([1, 2, 3, 4] : List (Int)) (.slice (some ⟨b2, 0, none⟩) ([1, 2, 3, 4] : List (Int)).length 4)] _ _ := h7
            refine RJ.run ttok 4 rfl ?_
            rcases Bool.eq_false_or_eq_true ((decide (r5.1 = 1)) && ((decide (r5.2 = 1)) && true)) with c6 | c6
            · replace H := ite_t c6 H
              refine RJ.know (t := 39) rfl (congrArg Value.bool c6) ?_
              refine RJ.run ttok 2 rfl ?_
              obtain ⟨r6, q5, H⟩ := bind_t H
              refine RJ.op rfl rfl (op_call [0, 0] (dev_Device_Write.spec q5) rfl rfl rfl h7 rfl (gcons (Gives.of 0 rfl own_rd) gnil)) ?_
              rintro _ w6 ⟨_, ⟨A5, c_5, rfl, rfl⟩, h8⟩
              replace h8 : St w0 F0 [boxC b1 51 [.int .i64 r6.2.1, .slice A5 r6.2.2.1.length c_5, .int .u64 r6.2.2.2.1, .int .u64 r6.2.2.2.2], ownC 5 (.int .u8) r6.2.2.1 (.slice A5 r6.2.2.1.length c_5), ownC 5 (.int .u8) r4.1 (.slice A3 r4.1.length c_3), ownC 5 (.int .u8) ([1, 2, 3, 4] : List (Int)) (.slice (some ⟨b2, 0, none⟩) ([1, 2, 3, 4] : List (Int)).length 4)] _ _ := h8
              refine RJ.run ttok 3 rfl ?_
              refine RJ.fin [(0, .bool (decide (r6.1 = 4)))] rfl ?_
              have h9 := h8.only [] rfl
              replace h9 : St w0 F0 [] _ _ := h9
              refine J.ret ?_
              obtain rfl := Option.some.inj H
              exact ⟨_, _, _, (results_slots rfl), ⟨rfl, rfl⟩, h9.only [] rfl⟩
            · replace H := ite_f c6 H
              refine RJ.know (t := 39) rfl (congrArg Value.bool c6) ?_
              refine RJ.run ttok 6 rfl ?_
              refine RJ.fin [(0, .bool false)] rfl ?_
              have h10 := h7.only [] rfl
              replace h10 : St w0 F0 [] _ _ := h10
              refine J.ret ?_
              obtain rfl := Option.some.inj H
              exact ⟨_, _, _, (results_slots rfl), ⟨rfl, rfl⟩, h10.only [] rfl⟩
          · replace H := ite_f c5 H
            refine RJ.know (t := 33) rfl (congrArg Value.bool c5) ?_
            refine RJ.run ttok 12 rfl ?_
            refine RJ.fin [(0, .bool false)] rfl ?_
            have h11 := h6.only [] rfl
            replace h11 : St w0 F0 [] _ _ := h11
            refine J.ret ?_
            obtain rfl := Option.some.inj H
            exact ⟨_, _, _, (results_slots rfl), ⟨rfl, rfl⟩, h11.only [] rfl⟩
        · replace H := ite_f c4 H
          refine RJ.know (t := 29) rfl (congrArg Value.bool c4) ?_
          refine RJ.run ttok 16 rfl ?_
          refine RJ.fin [(0, .bool false)] rfl ?_
          have h12 := h6.only [] rfl
          replace h12 : St w0 F0 [] _ _ := h12
          refine J.ret ?_
          obtain rfl := Option.some.inj H
          exact ⟨_, _, _, (results_slots rfl), ⟨rfl, rfl⟩, h12.only [] rfl⟩

/-! sluicegate/sluicegatelaw06.DevNobody -/
def sluicegatelaw06_DevNobody.f (a0 : Int) (a1 : List (Int)) : Option (Bool) := (dev_Device_Read_nil.f a0).bind fun r1 => (if (decide (0 < (r1.1.length : Int))) = true then (some false) else (if (!decide (r1.2 = 1)) = true then (some false) else ((dev_Device_Write_nil.f a0 a1).bind fun r2 => (if (!decide (r2 = 1)) = true then (some false) else ((dev_Device_Blocks_nil.f).bind fun r3 => (if (!decide (r3 = 0)) = true then (some false) else ((dev_Device_Bytes_nil.f).bind fun r4 => (if (!decide (r4 = 0)) = true then (some false) else ((dev_Device_Stats_nil.f).bind fun r5 => (if (!((decide (r5.1 = 0)) && ((decide (r5.2 = 0)) && true))) = true then (some false) else ((dev_Device_Image_nil.f).bind fun r6 => (if (!decide ((r6.length : Int) = 0)) = true then (some false) else ((dev_Device_Read.f (0, ([] : List (Int)), (0, 0)) a0).bind fun r7 => (if (decide (0 < (r7.1.length : Int))) = true then (some false) else (if (!decide (r7.2.1 = 1)) = true then (some false) else ((dev_Device_Write.f (r7.2.2.1, r7.2.2.2.1, (r7.2.2.2.2.1, r7.2.2.2.2.2)) a0 a1).bind fun r8 => (if (!decide (r8.1 = 1)) = true then (some false) else ((dev_Device_Blocks.f (r8.2.1, r8.2.2.1, (r8.2.2.2.1, r8.2.2.2.2))).bind fun r9 => (if (!decide (r9 = 0)) = true then (some false) else ((dev_Device_Bytes.f (r8.2.1, r8.2.2.1, (r8.2.2.2.1, r8.2.2.2.2))).bind fun r10 => (if (!decide (r10 = 0)) = true then (some false) else ((dev_Device_Stats.f (r8.2.1, r8.2.2.1, (r8.2.2.2.1, r8.2.2.2.2))).bind fun r11 => (if (!((decide (r11.1 = 0)) && ((decide (r11.2 = 0)) && true))) = true then (some false) else ((dev_Device_Image.f (r8.2.1, r8.2.2.1, (r8.2.2.2.1, r8.2.2.2.2))).bind fun r12 => (if (!decide ((r12.length : Int) = 0)) = true then (some false) else ((sluicegatelaw06_awake.f).bind fun r13 => (some r13)))))))))))))))))))))))))))
set_option maxRecDepth 20000 in
set_option maxHeartbeats 40000000 in
theorem sluicegatelaw06_DevNobody.spec {a0 : Int} {a1 : List (Int)} {A1 : Option Addr} {c_1 : Nat} {r : Bool} (H : sluicegatelaw06_DevNobody.f a0 a1 = some r) :
    Spec Try.prog 5 [.int .u32 a0, .slice A1 a1.length c_1] [] [rdC 5 (.int .u8) a1 (.slice A1 a1.length c_1)] (fun v l => v = .bool r ∧ l = []) := by
  refine Spec.enter Try.func5 rfl (by kernel_rfl) (by kernel_rfl) fun w0 F0 h0 => ?_
  unfold sluicegatelaw06_DevNobody.f at H
  refine J.seq ?_
  refine J.region ?_
  refine RJ.run ttok 1 rfl ?_
  refine RJ.fin [(0, .int .u32 a0), (1, .slice A1 a1.length c_1)] rfl ?_
  refine J.seq ?_
  refine J.region ?_
  refine RJ.run ttok 1 rfl ?_
  refine RJ.fin [(0, .int .u32 a0), (1, .slice A1 a1.length c_1), (5, .pointer none)] rfl ?_
  refine J.seq ?_
  refine J.region ?_
  refine RJ.run ttok 2 rfl ?_
  refine RJ.op rfl rfl (op_box rfl rfl h0) ?_
  rintro _ w1 ⟨b1, rfl, h1⟩
  replace h1 : St w0 F0 [boxC b1 51 [.int .i64 0, .slice none ([] : List (Int)).length 0, .int .u64 0, .int .u64 0]] _ _ := h1
  refine RJ.op rfl rfl (op_lit_val ttok ([.pointer none, .pointer (some ⟨b1, 0, none⟩)] : List Value) rfl rfl h1 rfl rfl (by decide) rfl rfl rfl rfl rfl rfl rfl) ?_
  rintro _ w2 ⟨b2, rfl, h2⟩
  replace h2 : St w0 F0 [ownC 24 .val ([.pointer none, .pointer (some ⟨b1, 0, none⟩)] : List Value) (.slice (some ⟨b2, 0, none⟩) ([.pointer none, .pointer (some ⟨b1, 0, none⟩)] : List Value).length 2), boxC b1 51 [.int .i64 0, .slice none ([] : List (Int)).length 0, .int .u64 0, .int .u64 0]] _ _ := h2
  refine RJ.run ttok 1 rfl ?_
  refine RJ.fin [(0, .int .u32 a0), (1, .slice A1 a1.length c_1), (6, .slice (some ⟨b2, 0, none⟩) ([.pointer none, .pointer (some ⟨b1, 0, none⟩)] : List Value).length 2)] rfl ?_
  refine J.seq ?_
  refine J.seq ?_
  refine J.region ?_
  refine RJ.run ttok 1 rfl ?_
  refine RJ.fin [(0, .int .u32 a0), (1, .slice A1 a1.length c_1), (6, .slice (some ⟨b2, 0, none⟩) ([.pointer none, .pointer (some ⟨b1, 0, none⟩)] : List Value).length 2), (7, .int .i64 0)] rfl ?_
  refine J.block ?_
  refine J.rounds 3 ?_
  refine J.roundN ?_
  refine J.seq ?_
  refine J.seq ?_
  refine J.region ?_
  refine RJ.run ttok 4 rfl ?_
  refine RJ.fin [(0, .int .u32 a0), (1, .slice A1 a1.length c_1), (6, .slice (some ⟨b2, 0, none⟩) ([.pointer none, .pointer (some ⟨b1, 0, none⟩)] : List Value).length 2), (7, .int .i64 0), (17, .bool true)] rfl ?_
  refine J.condT rfl ?_
  refine J.skip ?_
  refine J.seq ?_
  refine J.block ?_
  refine J.seq ?_
  refine J.region ?_
  refine RJ.run ttok 2 rfl ?_
  have e1 := elem_A h2.wh (Gives.of 0 rfl own_rd) (by decide : (0 : Int) ≤ 0) (by decide : (0 : Int) < ((2 : Nat) : Int))
  refine RJ.q rfl rfl (q_index ttok rfl rfl rfl rfl rfl e1 (by decide : (0 : Int) ≤ 0) (by decide : (0 : Int) < ((2 : Nat) : Int))) ?_
  refine RJ.q rfl rfl (q_load_elem (f := 0) ttok rfl h2.wht (Gives.of 0 rfl own_rd) (by decide : (0 : Int) ≤ 0) (by decide : (0 : Int) < ((2 : Nat) : Int)) rfl rfl rfl rfl rfl) ?_
  refine RJ.run ttok 1 rfl ?_
  obtain ⟨r1, q1, H⟩ := bind_t H
  refine RJ.op rfl rfl (op_call [] (dev_Device_Read_nil.spec q1) rfl rfl rfl h2 rfl gnil) ?_
  rintro _ w3 ⟨_, ⟨A2, c_2, rfl, rfl⟩, h3⟩
  replace h3 : St w0 F0 [ownC 5 (.int .u8) r1.1 (.slice A2 r1.1.length c_2), ownC 24 .val ([.pointer none, .pointer (some ⟨b1, 0, none⟩)] : List Value) (.slice (some ⟨b2, 0, none⟩) ([.pointer none, .pointer (some ⟨b1, 0, none⟩)] : List Value).length 2), boxC b1 51 [.int .i64 0, .slice none ([] : List (Int)).length 0, .int .u64 0, .int .u64 0]] _ _ := h3
  refine RJ.run ttok 5 rfl ?_
  refine RJ.fin [(0, .int .u32 a0), (1, .slice A1 a1.length c_1), (6, .slice (some ⟨b2, 0, none⟩) ([.pointer none, .pointer (some ⟨b1, 0, none⟩)] : List Value).length 2), (7, .int .i64 0), (8, .slice A2 r1.1.length c_2), (9, .int .i64 r1.2)] rfl ?_
  refine J.seq ?_
  refine J.region ?_
  refine RJ.run ttok 4 rfl ?_
  rcases Bool.eq_false_or_eq_true (decide (0 < (r1.1.length : Int))) with c1 | c1
  · replace H := ite_t c1 H
    refine RJ.know (t := 32) rfl (congrArg Value.bool c1) ?_
    refine RJ.run ttok 47 rfl ?_
    refine RJ.fin [(0, .int .u32 a0), (1, .slice A1 a1.length c_1), (6, .slice (some ⟨b2, 0, none⟩) ([.pointer none, .pointer (some ⟨b1, 0, none⟩)] : List Value).length 2), (7, .int .i64 0), (79, .bool true)] rfl ?_
    refine J.condT rfl ?_
    refine J.seq ?_
    refine J.region ?_
    refine RJ.run ttok 1 rfl ?_
    refine RJ.fin [(4, .bool false)] rfl ?_
    have h4 := h3.only [] rfl
    replace h4 : St w0 F0 [] _ _ := h4
    refine J.ret ?_
    obtain rfl := Option.some.inj H
    exact ⟨_, _, _, (results_slots rfl), ⟨rfl, rfl⟩, h4.only [] rfl⟩
  · replace H := ite_f c1 H
    refine RJ.know (t := 32) rfl (congrArg Value.bool c1) ?_
    refine RJ.run ttok 4 rfl ?_
    rcases Bool.eq_false_or_eq_true (!decide (r1.2 = 1)) with c2 | c2
    · replace H := ite_t c2 H
      refine RJ.know (t := 36) rfl (congrArg Value.bool c2) ?_
      refine RJ.run ttok 43 rfl ?_
      refine RJ.fin [(0, .int .u32 a0), (1, .slice A1 a1.length c_1), (6, .slice (some ⟨b2, 0, none⟩) ([.pointer none, .pointer (some ⟨b1, 0, none⟩)] : List Value).length 2), (7, .int .i64 0), (79, .bool true)] rfl ?_
      refine J.condT rfl ?_
      refine J.seq ?_
      refine J.region ?_
      refine RJ.run ttok 1 rfl ?_
      refine RJ.fin [(4, .bool false)] rfl ?_
      have h5 := h3.only [] rfl
      replace h5 : St w0 F0 [] _ _ := h5
      refine J.ret ?_
      obtain rfl := Option.some.inj H
      exact ⟨_, _, _, (results_slots rfl), ⟨rfl, rfl⟩, h5.only [] rfl⟩
    · replace H := ite_f c2 H
      refine RJ.know (t := 36) rfl (congrArg Value.bool c2) ?_
      refine RJ.run ttok 2 rfl ?_
      refine RJ.q rfl rfl (q_index ttok rfl rfl rfl rfl rfl e1 (by decide : (0 : Int) ≤ 0) (by decide : (0 : Int) < ((2 : Nat) : Int))) ?_
      refine RJ.q rfl rfl (q_load_elem (f := 0) ttok rfl h3.wht (Gives.of 1 rfl own_rd) (by decide : (0 : Int) ≤ 0) (by decide : (0 : Int) < ((2 : Nat) : Int)) rfl rfl rfl rfl rfl) ?_
      refine RJ.run ttok 2 rfl ?_
      obtain ⟨r2, q2, H⟩ := bind_t H
      refine RJ.op rfl rfl (op_call [] (dev_Device_Write_nil.spec q2) rfl rfl rfl h3 rfl (gcons (Gives.self 3 rfl) gnil)) ?_
      rintro _ w4 ⟨_, ⟨rfl, rfl⟩, h6⟩
      replace h6 : St w0 F0 [ownC 5 (.int .u8) r1.1 (.slice A2 r1.1.length c_2), ownC 24 .val ([.pointer none, .pointer (some ⟨b1, 0, none⟩)] : List Value) (.slice (some ⟨b2, 0, none⟩) ([.pointer none, .pointer (some ⟨b1, 0, none⟩)] : List Value).length 2), boxC b1 51 [.int .i64 0, .slice none ([] : List (Int)).length 0, .int .u64 0, .int .u64 0]] _ _ := h6
      refine RJ.run ttok 3 rfl ?_
      rcases Bool.eq_false_or_eq_true (!decide (r2 = 1)) with c3 | c3
      · replace H := ite_t c3 H
        refine RJ.know (t := 46) rfl (congrArg Value.bool c3) ?_
        refine RJ.run ttok 33 rfl ?_
        refine RJ.fin [(0, .int .u32 a0), (1, .slice A1 a1.length c_1), (6, .slice (some ⟨b2, 0, none⟩) ([.pointer none, .pointer (some ⟨b1, 0, none⟩)] : List Value).length 2), (7, .int .i64 0), (79, .bool true)] rfl ?_
        refine J.condT rfl ?_
        refine J.seq ?_
        refine J.region ?_
        refine RJ.run ttok 1 rfl ?_
        refine RJ.fin [(4, .bool false)] rfl ?_
        have h7 := h6.only [] rfl
        replace h7 : St w0 F0 [] _ _ := h7
        refine J.ret ?_
        obtain rfl := Option.some.inj H
        exact ⟨_, _, _, (results_slots rfl), ⟨rfl, rfl⟩, h7.only [] rfl⟩
      · replace H := ite_f c3 H
        refine RJ.know (t := 46) rfl (congrArg Value.bool c3) ?_
        refine RJ.run ttok 2 rfl ?_
        refine RJ.q rfl rfl (q_index ttok rfl rfl rfl rfl rfl e1 (by decide : (0 : Int) ≤ 0) (by decide : (0 : Int) < ((2 : Nat) : Int))) ?_
        refine RJ.q rfl rfl (q_load_elem (f := 0) ttok rfl h6.wht (Gives.of 1 rfl own_rd) (by decide : (0 : Int) ≤ 0) (by decide : (0 : Int) < ((2 : Nat) : Int)) rfl rfl rfl rfl rfl) ?_
        obtain ⟨r3, q3, H⟩ := bind_t H
        refine RJ.op rfl rfl (op_call [] (dev_Device_Blocks_nil.spec q3) rfl rfl rfl h6 rfl gnil) ?_
        rintro _ w5 ⟨_, ⟨rfl, rfl⟩, h8⟩
        replace h8 : St w0 F0 [ownC 5 (.int .u8) r1.1 (.slice A2 r1.1.length c_2), ownC 24 .val ([.pointer none, .pointer (some ⟨b1, 0, none⟩)] : List Value) (.slice (some ⟨b2, 0, none⟩) ([.pointer none, .pointer (some ⟨b1, 0, none⟩)] : List Value).length 2), boxC b1 51 [.int .i64 0, .slice none ([] : List (Int)).length 0, .int .u64 0, .int .u64 0]] _ _ := h8
        refine RJ.run ttok 3 rfl ?_
        rcases Bool.eq_false_or_eq_true (!decide (r3 = 0)) with c4 | c4
        · replace H := ite_t c4 H
          refine RJ.know (t := 54) rfl (congrArg Value.bool c4) ?_
          refine RJ.run ttok 25 rfl ?_
          refine RJ.fin [(0, .int .u32 a0), (1, .slice A1 a1.length c_1), (6, .slice (some ⟨b2, 0, none⟩) ([.pointer none, .pointer (some ⟨b1, 0, none⟩)] : List Value).length 2), (7, .int .i64 0), (79, .bool true)] rfl ?_
          refine J.condT rfl ?_
          refine J.seq ?_
          refine J.region ?_
          refine RJ.run ttok 1 rfl ?_
          refine RJ.fin [(4, .bool false)] rfl ?_
          have h9 := h8.only [] rfl
          replace h9 : St w0 F0 [] _ _ := h9
          refine J.ret ?_
          obtain rfl := Option.some.inj H
          exact ⟨_, _, _, (results_slots rfl), ⟨rfl, rfl⟩, h9.only [] rfl⟩
        · replace H := ite_f c4 H
          refine RJ.know (t := 54) rfl (congrArg Value.bool c4) ?_
          refine RJ.run ttok 2 rfl ?_
          refine RJ.q rfl rfl (q_index ttok rfl rfl rfl rfl rfl e1 (by decide : (0 : Int) ≤ 0) (by decide : (0 : Int) < ((2 : Nat) : Int))) ?_
          refine RJ.q rfl rfl (q_load_elem (f := 0) ttok rfl h8.wht (Gives.of 1 rfl own_rd) (by decide : (0 : Int) ≤ 0) (by decide : (0 : Int) < ((2 : Nat) : Int)) rfl rfl rfl rfl rfl) ?_
          obtain ⟨r4, q4, H⟩ := bind_t H
          refine RJ.op rfl rfl (op_call [] (dev_Device_Bytes_nil.spec q4) rfl rfl rfl h8 rfl gnil) ?_
          rintro _ w6 ⟨_, ⟨rfl, rfl⟩, h10⟩
          replace h10 : St w0 F0 [ownC 5 (.int .u8) r1.1 (.slice A2 r1.1.length c_2), ownC 24 .val ([.pointer none, .pointer (some ⟨b1, 0, none⟩)] : List Value) (.slice (some ⟨b2, 0, none⟩) ([.pointer none, .pointer (some ⟨b1, 0, none⟩)] : List Value).length 2), boxC b1 51 [.int .i64 0, .slice none ([] : List (Int)).length 0, .int .u64 0, .int .u64 0]] _ _ := h10
          refine RJ.run ttok 3 rfl ?_
          rcases Bool.eq_false_or_eq_true (!decide (r4 = 0)) with c5 | c5
          · replace H := ite_t c5 H
            refine RJ.know (t := 62) rfl (congrArg Value.bool c5) ?_
            refine RJ.run ttok 17 rfl ?_
            refine RJ.fin [(0, .int .u32 a0), (1, .slice A1 a1.length c_1), (6, .slice (some ⟨b2, 0, none⟩) ([.pointer none, .pointer (some ⟨b1, 0, none⟩)] : List Value).length 2), (7, .int .i64 0), (79, .bool true)] rfl ?_
            refine J.condT rfl ?_
            refine J.seq ?_
            refine J.region ?_
            refine RJ.run ttok 1 rfl ?_
            refine RJ.fin [(4, .bool false)] rfl ?_
            have h11 := h10.only [] rfl
            replace h11 : St w0 F0 [] _ _ := h11
            refine J.ret ?_
            obtain rfl := Option.some.inj H
            exact ⟨_, _, _, (results_slots rfl), ⟨rfl, rfl⟩, h11.only [] rfl⟩
          · replace H := ite_f c5 H
            refine RJ.know (t := 62) rfl (congrArg Value.bool c5) ?_
            refine RJ.run ttok 2 rfl ?_
            refine RJ.q rfl rfl (q_index ttok rfl rfl rfl rfl rfl e1 (by decide : (0 : Int) ≤ 0) (by decide : (0 : Int) < ((2 : Nat) : Int))) ?_
            refine RJ.q rfl rfl (q_load_elem (f := 0) ttok rfl h10.wht (Gives.of 1 rfl own_rd) (by decide : (0 : Int) ≤ 0) (by decide : (0 : Int) < ((2 : Nat) : Int)) rfl rfl rfl rfl rfl) ?_
            obtain ⟨r5, q5, H⟩ := bind_t H
            refine RJ.op rfl rfl (op_call [] (dev_Device_Stats_nil.spec q5) rfl rfl rfl h10 rfl gnil) ?_
            rintro _ w7 ⟨_, ⟨rfl, rfl⟩, h12⟩
            replace h12 : St w0 F0 [ownC 5 (.int .u8) r1.1 (.slice A2 r1.1.length c_2), ownC 24 .val ([.pointer none, .pointer (some ⟨b1, 0, none⟩)] : List Value) (.slice (some ⟨b2, 0, none⟩) ([.pointer none, .pointer (some ⟨b1, 0, none⟩)] : List Value).length 2), boxC b1 51 [.int .i64 0, .slice none ([] : List (Int)).length 0, .int .u64 0, .int .u64 0]] _ _ := h12
            refine RJ.run ttok 4 rfl ?_
            rcases Bool.eq_false_or_eq_true (!((decide (r5.1 = 0)) && ((decide (r5.2 = 0)) && true))) with c6 | c6
            · replace H := ite_t c6 H
              refine RJ.know (t := 71) rfl (congrArg Value.bool c6) ?_
              refine RJ.run ttok 8 rfl ?_
              refine RJ.fin [(0, .int .u32 a0), (1, .slice A1 a1.length c_1), (6, .slice (some ⟨b2, 0, none⟩) ([.pointer none, .pointer (some ⟨b1, 0, none⟩)] : List Value).length 2), (7, .int .i64 0), (79, .bool true)] rfl ?_
              refine J.condT rfl ?_
              refine J.seq ?_
              refine J.region ?_
              refine RJ.run ttok 1 rfl ?_
              refine RJ.fin [(4, .bool false)] rfl ?_
              have h13 := h12.only [] rfl
              replace h13 : St w0 F0 [] _ _ := h13
              refine J.ret ?_
              obtain rfl := Option.some.inj H
              exact ⟨_, _, _, (results_slots rfl), ⟨rfl, rfl⟩, h13.only [] rfl⟩
            · replace H := ite_f c6 H
              refine RJ.know (t := 71) rfl (congrArg Value.bool c6) ?_
              refine RJ.run ttok 2 rfl ?_
              refine RJ.q rfl rfl (q_index ttok rfl rfl rfl rfl rfl e1 (by decide : (0 : Int) ≤ 0) (by decide : (0 : Int) < ((2 : Nat) : Int))) ?_
              refine RJ.q rfl rfl (q_load_elem (f := 0) ttok rfl h12.wht (Gives.of 1 rfl own_rd) (by decide : (0 : Int) ≤ 0) (by decide : (0 : Int) < ((2 : Nat) : Int)) rfl rfl rfl rfl rfl) ?_
              obtain ⟨r6, q6, H⟩ := bind_t H
              refine RJ.op rfl rfl (op_call [] (dev_Device_Image_nil.spec q6) rfl rfl rfl h12 rfl gnil) ?_
              rintro _ w8 ⟨_, ⟨A3, c_3, rfl, rfl⟩, h14⟩
              replace h14 : St w0 F0 [ownC 5 (.int .u8) r6 (.slice A3 r6.length c_3), ownC 5 (.int .u8) r1.1 (.slice A2 r1.1.length c_2), ownC 24 .val ([.pointer none, .pointer (some ⟨b1, 0, none⟩)] : List Value) (.slice (some ⟨b2, 0, none⟩) ([.pointer none, .pointer (some ⟨b1, 0, none⟩)] : List Value).length 2), boxC b1 51 [.int .i64 0, .slice none ([] : List (Int)).length 0, .int .u64 0, .int .u64 0]] _ _ := h14
              refine RJ.run ttok 3 rfl ?_
              refine RJ.fin [(0, .int .u32 a0), (1, .slice A1 a1.length c_1), (6, .slice (some ⟨b2, 0, none⟩) ([.pointer none, .pointer (some ⟨b1, 0, none⟩)] : List Value).length 2), (7, .int .i64 0), (79, .bool (!decide ((r6.length : Int) = 0)))] rfl ?_
              have h15 := h14.only [2, 2] rfl
              replace h15 : St w0 F0 [ownC 24 .val ([.pointer none, .pointer (some ⟨b1, 0, none⟩)] : List Value) (.slice (some ⟨b2, 0, none⟩) ([.pointer none, .pointer (some ⟨b1, 0, none⟩)] : List Value).length 2), boxC b1 51 [.int .i64 0, .slice none ([] : List (Int)).length 0, .int .u64 0, .int .u64 0]] _ _ := h15
              refine J.cond rfl (fun c7 => ?_) (fun c7 => ?_)
              · replace H := ite_t c7 H
                refine J.seq ?_
                refine J.region ?_
                refine RJ.run ttok 1 rfl ?_
                refine RJ.fin [(4, .bool false)] rfl ?_
                have h16 := h15.only [] rfl
                replace h16 : St w0 F0 [] _ _ := h16
                refine J.ret ?_
                obtain rfl := Option.some.inj H
                exact ⟨_, _, _, (results_slots rfl), ⟨rfl, rfl⟩, h16.only [] rfl⟩
              · replace H := ite_f c7 H
                refine J.skip ?_
                refine J.region ?_
                refine RJ.run ttok 3 rfl ?_
                refine RJ.fin [(0, .int .u32 a0), (1, .slice A1 a1.length c_1), (6, .slice (some ⟨b2, 0, none⟩) ([.pointer none, .pointer (some ⟨b1, 0, none⟩)] : List Value).length 2), (7, .int .i64 1)] rfl ?_
                refine J.roundN ?_
                refine J.seq ?_
                refine J.seq ?_
                refine J.region ?_
                refine RJ.run ttok 4 rfl ?_
                refine RJ.fin [(0, .int .u32 a0), (1, .slice A1 a1.length c_1), (6, .slice (some ⟨b2, 0, none⟩) ([.pointer none, .pointer (some ⟨b1, 0, none⟩)] : List Value).length 2), (7, .int .i64 1), (17, .bool true)] rfl ?_
                refine J.condT rfl ?_
                refine J.skip ?_
                refine J.seq ?_
                refine J.block ?_
                refine J.seq ?_
                refine J.region ?_
                refine RJ.run ttok 2 rfl ?_
                refine RJ.q rfl rfl (q_index ttok rfl rfl rfl rfl rfl e1 (by decide : (0 : Int) ≤ 1) (by decide : (1 : Int) < ((2 : Nat) : Int))) ?_
                refine RJ.q rfl rfl (q_load_elem (f := 0) ttok rfl h15.wht (Gives.of 0 rfl own_rd) (by decide : (0 : Int) ≤ 1) (by decide : (1 : Int) < ((2 : Nat) : Int)) rfl rfl rfl rfl rfl) ?_
                refine RJ.run ttok 1 rfl ?_
                have h17 := h15.addNil 5 (.int .u8)
                obtain ⟨r7, q7, H⟩ := bind_t H
                refine RJ.op rfl rfl (op_call [2, 0] (dev_Device_Read.spec q7) rfl rfl rfl h17 rfl gnil) ?_
                rintro _ w9 ⟨_, ⟨A4, c_4, A5, c_5, rfl, rfl⟩, h18⟩
                replace h18 : St w0 F0 [ownC 5 (.int .u8) r7.1 (.slice A4 r7.1.length c_4), boxC b1 51 [.int .i64 r7.2.2.1, .slice A5 r7.2.2.2.1.length c_5, .int .u64 r7.2.2.2.2.1, .int .u64 r7.2.2.2.2.2], ownC 5 (.int .u8) r7.2.2.2.1 (.slice A5 r7.2.2.2.1.length c_5), ownC 24 .val ([.pointer none, .pointer (some ⟨b1, 0, none⟩)] : List Value) (.slice (some ⟨b2, 0, none⟩) ([.pointer none, .pointer (some ⟨b1, 0, none⟩)] : List Value).length 2)] _ _ := h18
                refine RJ.run ttok 5 rfl ?_
                refine RJ.fin [(0, .int .u32 a0), (1, .slice A1 a1.length c_1), (6, .slice (some ⟨b2, 0, none⟩) ([.pointer none, .pointer (some ⟨b1, 0, none⟩)] : List Value).length 2), (7, .int .i64 1), (8, .slice A4 r7.1.length c_4), (9, .int .i64 r7.2.1)] rfl ?_
                refine J.seq ?_
                refine J.region ?_
                refine RJ.run ttok 4 rfl ?_
                rcases Bool.eq_false_or_eq_true (decide (0 < (r7.1.length : Int))) with c8 | c8
                · replace H := ite_t c8 H
                  refine RJ.know (t := 32) rfl (congrArg Value.bool c8) ?_
                  refine RJ.run ttok 47 rfl ?_
                  refine RJ.fin [(0, .int .u32 a0), (1, .slice A1 a1.length c_1), (6, .slice (some ⟨b2, 0, none⟩) ([.pointer none, .pointer (some ⟨b1, 0, none⟩)] : List Value).length 2), (7, .int .i64 1), (79, .bool true)] rfl ?_
                  refine J.condT rfl ?_
                  refine J.seq ?_
                  refine J.region ?_
                  refine RJ.run ttok 1 rfl ?_
                  refine RJ.fin [(4, .bool false)] rfl ?_
                  have h19 := h18.only [] rfl
                  replace h19 : St w0 F0 [] _ _ := h19
                  refine J.ret ?_
                  obtain rfl := Option.some.inj H
                  exact ⟨_, _, _, (results_slots rfl), ⟨rfl, rfl⟩, h19.only [] rfl⟩
                · replace H := ite_f c8 H
                  refine RJ.know (t := 32) rfl (congrArg Value.bool c8) ?_
                  refine RJ.run ttok 4 rfl ?_
                  rcases Bool.eq_false_or_eq_true (!decide (r7.2.1 = 1)) with c9 | c9
                  · replace H := ite_t c9 H
                    refine RJ.know (t := 36) rfl (congrArg Value.bool c9) ?_
                    refine RJ.run ttok 43 rfl ?_
                    refine RJ.fin [(0, .int .u32 a0), (1, .slice A1 a1.length c_1), (6, .slice (some ⟨b2, 0, none⟩) ([.pointer none, .pointer (some ⟨b1, 0, none⟩)] : List Value).length 2), (7, .int .i64 1), (79, .bool true)] rfl ?_
                    refine J.condT rfl ?_
                    refine J.seq ?_
                    refine J.region ?_
                    refine RJ.run ttok 1 rfl ?_
                    refine RJ.fin [(4, .bool false)] rfl ?_
                    have h20 := h18.only [] rfl
                    replace h20 : St w0 F0 [] _ _ := h20
                    refine J.ret ?_
                    obtain rfl := Option.some.inj H
                    exact ⟨_, _, _, (results_slots rfl), ⟨rfl, rfl⟩, h20.only [] rfl⟩
                  · replace H := ite_f c9 H
                    refine RJ.know (t := 36) rfl (congrArg Value.bool c9) ?_
                    refine RJ.run ttok 2 rfl ?_
                    refine RJ.q rfl rfl (q_index ttok rfl rfl rfl rfl rfl e1 (by decide : (0 : Int) ≤ 1) (by decide : (1 : Int) < ((2 : Nat) : Int))) ?_
                    refine RJ.q rfl rfl (q_load_elem (f := 0) ttok rfl h18.wht (Gives.of 3 rfl own_rd) (by decide : (0 : Int) ≤ 1) (by decide : (1 : Int) < ((2 : Nat) : Int)) rfl rfl rfl rfl rfl) ?_
                    refine RJ.run ttok 2 rfl ?_
                    obtain ⟨r8, q8, H⟩ := bind_t H
                    refine RJ.op rfl rfl (op_call [1, 1] (dev_Device_Write.spec q8) rfl rfl rfl h18 rfl (gcons (Gives.self 2 rfl) gnil)) ?_
                    rintro _ w10 ⟨_, ⟨A6, c_6, rfl, rfl⟩, h21⟩
                    replace h21 : St w0 F0 [boxC b1 51 [.int .i64 r8.2.1, .slice A6 r8.2.2.1.length c_6, .int .u64 r8.2.2.2.1, .int .u64 r8.2.2.2.2], ownC 5 (.int .u8) r8.2.2.1 (.slice A6 r8.2.2.1.length c_6), ownC 5 (.int .u8) r7.1 (.slice A4 r7.1.length c_4), ownC 24 .val ([.pointer none, .pointer (some ⟨b1, 0, none⟩)] : List Value) (.slice (some ⟨b2, 0, none⟩) ([.pointer none, .pointer (some ⟨b1, 0, none⟩)] : List Value).length 2)] _ _ := h21
                    refine RJ.run ttok 3 rfl ?_
                    rcases Bool.eq_false_or_eq_true (!decide (r8.1 = 1)) with c10 | c10
                    · replace H := ite_t c10 H
                      refine RJ.know (t := 46) rfl (congrArg Value.bool c10) ?_
                      refine RJ.run ttok 33 rfl ?_
                      refine RJ.fin [(0, .int .u32 a0), (1, .slice A1 a1.length c_1), (6, .slice (some ⟨b2, 0, none⟩) ([.pointer none, .pointer (some ⟨b1, 0, none⟩)] : List Value).length 2), (7, .int .i64 1), (79, .bool true)] rfl ?_
                      refine J.condT rfl ?_
                      refine J.seq ?_
                      refine J.region ?_
                      refine RJ.run ttok 1 rfl ?_
                      refine RJ.fin [(4, .bool false)] rfl ?_
                      have h22 := h21.only [] rfl
                      replace h22 : St w0 F0 [] _ _ := h22
                      refine J.ret ?_
                      obtain rfl := Option.some.inj H
                      exact ⟨_, _, _, (results_slots rfl), ⟨rfl, rfl⟩, h22.only [] rfl⟩
                    · replace H := ite_f c10 H
                      refine RJ.know (t := 46) rfl (congrArg Value.bool c10) ?_
                      refine RJ.run ttok 2 rfl ?_
                      refine RJ.q rfl rfl (q_index ttok rfl rfl rfl rfl rfl e1 (by decide : (0 : Int) ≤ 1) (by decide : (1 : Int) < ((2 : Nat) : Int))) ?_
                      refine RJ.q rfl rfl (q_load_elem (f := 0) ttok rfl h21.wht (Gives.of 3 rfl own_rd) (by decide : (0 : Int) ≤ 1) (by decide : (1 : Int) < ((2 : Nat) : Int)) rfl rfl rfl rfl rfl) ?_
                      obtain ⟨r9, q9, H⟩ := bind_t H
                      refine RJ.op rfl rfl (op_call [0, 0] (dev_Device_Blocks.spec q9) rfl rfl rfl h21 rfl gnil) ?_
                      rintro _ w11 ⟨_, ⟨rfl, rfl⟩, h23⟩
                      replace h23 : St w0 F0 [boxC b1 51 [.int .i64 r8.2.1, .slice A6 r8.2.2.1.length c_6, .int .u64 r8.2.2.2.1, .int .u64 r8.2.2.2.2], ownC 5 (.int .u8) r8.2.2.1 (.slice A6 r8.2.2.1.length c_6), ownC 5 (.int .u8) r7.1 (.slice A4 r7.1.length c_4), ownC 24 .val ([.pointer none, .pointer (some ⟨b1, 0, none⟩)] : List Value) (.slice (some ⟨b2, 0, none⟩) ([.pointer none, .pointer (some ⟨b1, 0, none⟩)] : List Value).length 2)] _ _ := h23
                      refine RJ.run ttok 3 rfl ?_
                      rcases Bool.eq_false_or_eq_true (!decide (r9 = 0)) with c11 | c11
                      · replace H := ite_t c11 H
                        refine RJ.know (t := 54) rfl (congrArg Value.bool c11) ?_
                        refine RJ.run ttok 25 rfl ?_
                        refine RJ.fin [(0, .int .u32 a0), (1, .slice A1 a1.length c_1), (6, .slice (some ⟨b2, 0, none⟩) ([.pointer none, .pointer (some ⟨b1, 0, none⟩)] : List Value).length 2), (7, .int .i64 1), (79, .bool true)] rfl ?_
                        refine J.condT rfl ?_
                        refine J.seq ?_
                        refine J.region ?_
                        refine RJ.run ttok 1 rfl ?_
                        refine RJ.fin [(4, .bool false)] rfl ?_
                        have h24 := h23.only [] rfl
                        replace h24 : St w0 F0 [] _ _ := h24
                        refine J.ret ?_
                        obtain rfl := Option.some.inj H
                        exact ⟨_, _, _, (results_slots rfl), ⟨rfl, rfl⟩, h24.only [] rfl⟩
                      · replace H := ite_f c11 H
                        refine RJ.know (t := 54) rfl (congrArg Value.bool c11) ?_
                        refine RJ.run ttok 2 rfl ?_
                        refine RJ.q rfl rfl (q_index ttok rfl rfl rfl rfl rfl e1 (by decide : (0 : Int) ≤ 1) (by decide : (1 : Int) < ((2 : Nat) : Int))) ?_
                        refine RJ.q rfl rfl (q_load_elem (f := 0) ttok rfl h23.wht (Gives.of 3 rfl own_rd) (by decide : (0 : Int) ≤ 1) (by decide : (1 : Int) < ((2 : Nat) : Int)) rfl rfl rfl rfl rfl) ?_
                        obtain ⟨r10, q10, H⟩ := bind_t H
                        refine RJ.op rfl rfl (op_call [0, 0] (dev_Device_Bytes.spec q10) rfl rfl rfl h23 rfl gnil) ?_
                        rintro _ w12 ⟨_, ⟨rfl, rfl⟩, h25⟩
                        replace h25 : St w0 F0 [boxC b1 51 [.int .i64 r8.2.1, .slice A6 r8.2.2.1.length c_6, .int .u64 r8.2.2.2.1, .int .u64 r8.2.2.2.2], ownC 5 (.int .u8) r8.2.2.1 (.slice A6 r8.2.2.1.length c_6), ownC 5 (.int .u8) r7.1 (.slice A4 r7.1.length c_4), ownC 24 .val ([.pointer none, .pointer (some ⟨b1, 0, none⟩)] : List Value) (.slice (some ⟨b2, 0, none⟩) ([.pointer none, .pointer (some ⟨b1, 0, none⟩)] : List Value).length 2)] _ _ := h25
                        refine RJ.run ttok 3 rfl ?_
                        rcases Bool.eq_false_or_eq_true (!decide (r10 = 0)) with c12 | c12
                        · replace H := ite_t c12 H
                          refine RJ.know (t := 62) rfl (congrArg Value.bool c12) ?_
                          refine RJ.run ttok 17 rfl ?_
                          refine RJ.fin [(0, .int .u32 a0), (1, .slice A1 a1.length c_1), (6, .slice (some ⟨b2, 0, none⟩) ([.pointer none, .pointer (some ⟨b1, 0, none⟩)] : List Value).length 2), (7, .int .i64 1), (79, .bool true)] rfl ?_
                          refine J.condT rfl ?_
                          refine J.seq ?_
                          refine J.region ?_
                          refine RJ.run ttok 1 rfl ?_
                          refine RJ.fin [(4, .bool false)] rfl ?_
                          have h26 := h25.only [] rfl
                          replace h26 : St w0 F0 [] _ _ := h26
                          refine J.ret ?_
                          obtain rfl := Option.some.inj H
                          exact ⟨_, _, _, (results_slots rfl), ⟨rfl, rfl⟩, h26.only [] rfl⟩
                        · replace H := ite_f c12 H
                          refine RJ.know (t := 62) rfl (congrArg Value.bool c12) ?_
                          refine RJ.run ttok 2 rfl ?_
                          refine RJ.q rfl rfl (q_index ttok rfl rfl rfl rfl rfl e1 (by decide : (0 : Int) ≤ 1) (by decide : (1 : Int) < ((2 : Nat) : Int))) ?_
                          refine RJ.q rfl rfl (q_load_elem (f := 0) ttok rfl h25.wht (Gives.of 3 rfl own_rd) (by decide : (0 : Int) ≤ 1) (by decide : (1 : Int) < ((2 : Nat) : Int)) rfl rfl rfl rfl rfl) ?_
                          obtain ⟨r11, q11, H⟩ := bind_t H
                          refine RJ.op rfl rfl (op_call [0, 0] (dev_Device_Stats.spec q11) rfl rfl rfl h25 rfl gnil) ?_
                          rintro _ w13 ⟨_, ⟨rfl, rfl⟩, h27⟩
                          replace h27 : St w0 F0 [boxC b1 51 [.int .i64 r8.2.1, .slice A6 r8.2.2.1.length c_6, .int .u64 r8.2.2.2.1, .int .u64 r8.2.2.2.2], ownC 5 (.int .u8) r8.2.2.1 (.slice A6 r8.2.2.1.length c_6), ownC 5 (.int .u8) r7.1 (.slice A4 r7.1.length c_4), ownC 24 .val ([.pointer none, .pointer (some ⟨b1, 0, none⟩)] : List Value) (.slice (some ⟨b2, 0, none⟩) ([.pointer none, .pointer (some ⟨b1, 0, none⟩)] : List Value).length 2)] _ _ := h27
                          refine RJ.run ttok 4 rfl ?_
                          rcases Bool.eq_false_or_eq_true (!((decide (r11.1 = 0)) && ((decide (r11.2 = 0)) && true))) with c13 | c13
                          · replace H := ite_t c13 H
                            refine RJ.know (t := 71) rfl (congrArg Value.bool c13) ?_
                            refine RJ.run ttok 8 rfl ?_
                            refine RJ.fin [(0, .int .u32 a0), (1, .slice A1 a1.length c_1), (6, .slice (some ⟨b2, 0, none⟩) ([.pointer none, .pointer (some ⟨b1, 0, none⟩)] : List Value).length 2), (7, .int .i64 1), (79, .bool true)] rfl ?_
                            refine J.condT rfl ?_
                            refine J.seq ?_
                            refine J.region ?_
                            refine RJ.run ttok 1 rfl ?_
                            refine RJ.fin [(4, .bool false)] rfl ?_
                            have h28 := h27.only [] rfl
                            replace h28 : St w0 F0 [] _ _ := h28
                            refine J.ret ?_
                            obtain rfl := Option.some.inj H
                            exact ⟨_, _, _, (results_slots rfl), ⟨rfl, rfl⟩, h28.only [] rfl⟩
                          · replace H := ite_f c13 H
                            refine RJ.know (t := 71) rfl (congrArg Value.bool c13) ?_
                            refine RJ.run ttok 2 rfl ?_
                            refine RJ.q rfl rfl (q_index ttok rfl rfl rfl rfl rfl e1 (by decide : (0 : Int) ≤ 1) (by decide : (1 : Int) < ((2 : Nat) : Int))) ?_
                            refine RJ.q rfl rfl (q_load_elem (f := 0) ttok rfl h27.wht (Gives.of 3 rfl own_rd) (by decide : (0 : Int) ≤ 1) (by decide : (1 : Int) < ((2 : Nat) : Int)) rfl rfl rfl rfl rfl) ?_
                            obtain ⟨r12, q12, H⟩ := bind_t H
                            refine RJ.op rfl rfl (op_call [0, 0] (dev_Device_Image.spec q12) rfl rfl rfl h27 rfl gnil) ?_
                            rintro _ w14 ⟨_, ⟨A7, c_7, rfl, rfl⟩, h29⟩
                            replace h29 : St w0 F0 [ownC 5 (.int .u8) r12 (.slice A7 r12.length c_7), boxC b1 51 [.int .i64 r8.2.1, .slice A6 r8.2.2.1.length c_6, .int .u64 r8.2.2.2.1, .int .u64 r8.2.2.2.2], ownC 5 (.int .u8) r8.2.2.1 (.slice A6 r8.2.2.1.length c_6), ownC 5 (.int .u8) r7.1 (.slice A4 r7.1.length c_4), ownC 24 .val ([.pointer none, .pointer (some ⟨b1, 0, none⟩)] : List Value) (.slice (some ⟨b2, 0, none⟩) ([.pointer none, .pointer (some ⟨b1, 0, none⟩)] : List Value).length 2)] _ _ := h29
                            refine RJ.run ttok 3 rfl ?_
                            refine RJ.fin [(0, .int .u32 a0), (1, .slice A1 a1.length c_1), (6, .slice (some ⟨b2, 0, none⟩) ([.pointer none, .pointer (some ⟨b1, 0, none⟩)] : List Value).length 2), (7, .int .i64 1), (79, .bool (!decide ((r12.length : Int) = 0)))] rfl ?_
                            have h30 := h29.only [1, 1, 2] rfl
                            replace h30 : St w0 F0 [boxC b1 51 [.int .i64 r8.2.1, .slice A6 r8.2.2.1.length c_6, .int .u64 r8.2.2.2.1, .int .u64 r8.2.2.2.2], ownC 5 (.int .u8) r8.2.2.1 (.slice A6 r8.2.2.1.length c_6), ownC 24 .val ([.pointer none, .pointer (some ⟨b1, 0, none⟩)] : List Value) (.slice (some ⟨b2, 0, none⟩) ([.pointer none, .pointer (some ⟨b1, 0, none⟩)] : List Value).length 2)] _ _ := h30
                            refine J.cond rfl (fun c14 => ?_) (fun c14 => ?_)
                            · replace H := ite_t c14 H
                              refine J.seq ?_
                              refine J.region ?_
                              refine RJ.run ttok 1 rfl ?_
                              refine RJ.fin [(4, .bool false)] rfl ?_
                              have h31 := h30.only [] rfl
                              replace h31 : St w0 F0 [] _ _ := h31
                              refine J.ret ?_
                              obtain rfl := Option.some.inj H
                              exact ⟨_, _, _, (results_slots rfl), ⟨rfl, rfl⟩, h31.only [] rfl⟩
                            · replace H := ite_f c14 H
                              refine J.skip ?_
                              refine J.region ?_
                              refine RJ.run ttok 3 rfl ?_
                              refine RJ.fin [(0, .int .u32 a0), (1, .slice A1 a1.length c_1), (6, .slice (some ⟨b2, 0, none⟩) ([.pointer none, .pointer (some ⟨b1, 0, none⟩)] : List Value).length 2), (7, .int .i64 2)] rfl ?_
                              refine J.roundN ?_
                              refine J.seq ?_
                              refine J.seq ?_
                              refine J.region ?_
                              refine RJ.run ttok 4 rfl ?_
                              refine RJ.fin [(0, .int .u32 a0), (1, .slice A1 a1.length c_1), (6, .slice (some ⟨b2, 0, none⟩) ([.pointer none, .pointer (some ⟨b1, 0, none⟩)] : List Value).length 2), (7, .int .i64 2), (17, .bool false)] rfl ?_
                              refine J.condF rfl ?_
                              refine J.exit ?_
                              refine J.seq ?_
                              refine J.region ?_
                              obtain ⟨r13, q13, H⟩ := bind_t H
                              refine RJ.op rfl rfl (op_call [] (sluicegatelaw06_awake.spec q13) rfl rfl rfl h30 rfl gnil) ?_
                              rintro _ w15 ⟨_, ⟨rfl, rfl⟩, h32⟩
                              replace h32 : St w0 F0 [boxC b1 51 [.int .i64 r8.2.1, .slice A6 r8.2.2.1.length c_6, .int .u64 r8.2.2.2.1, .int .u64 r8.2.2.2.2], ownC 5 (.int .u8) r8.2.2.1 (.slice A6 r8.2.2.1.length c_6), ownC 24 .val ([.pointer none, .pointer (some ⟨b1, 0, none⟩)] : List Value) (.slice (some ⟨b2, 0, none⟩) ([.pointer none, .pointer (some ⟨b1, 0, none⟩)] : List Value).length 2)] _ _ := h32
                              refine RJ.run ttok 1 rfl ?_
                              refine RJ.fin [(4, .bool r13)] rfl ?_
                              have h33 := h32.only [] rfl
                              replace h33 : St w0 F0 [] _ _ := h33
                              refine J.ret ?_
                              obtain rfl := Option.some.inj H
                              exact ⟨_, _, _, (results_slots rfl), ⟨rfl, rfl⟩, h33.only [] rfl⟩

end Go.SK.T
