/- The types of the program, and its functions as the code computes them, each proved. -/
import Derived.Test.YtoemkinhdomnpaaKu
import Derived.Test.YtoemkinhdomnpaaProg
set_option linter.unusedVariables false
set_option linter.unusedSimpArgs false
namespace Go.SK.T
open Go Go.SK Go.Proofs
def tt : TT := [(1, ⟨.func, 1, 8, .nilFunc⟩),
  (2, ⟨.int .i64, 1, 8, .int .i64 0⟩),
  (3, ⟨.int .i64, 1, 8, .int .i64 0⟩),
  (4, ⟨.bool, 1, 1, .bool false⟩),
  (5, ⟨.int .u8, 1, 1, .int .u8 0⟩),
  (6, ⟨.int .u8, 1, 1, .int .u8 0⟩),
  (9, ⟨.str, 1, 16, .string ⟨⟨[]⟩⟩⟩),
  (10, ⟨.str, 1, 16, .string ⟨⟨[]⟩⟩⟩),
  (11, ⟨.str, 1, 16, .string ⟨⟨[]⟩⟩⟩),
  (12, ⟨.int .u64, 1, 8, .int .u64 0⟩),
  (15, ⟨.ptr 244, 1, 8, .pointer none⟩),
  (16, ⟨.ptr 247, 1, 8, .pointer none⟩),
  (17, ⟨.ptr 255, 1, 8, .pointer none⟩),
  (20, ⟨.iface, 1, 16, .nilIface⟩),
  (21, ⟨.int .i32, 1, 4, .int .i32 0⟩),
  (22, ⟨.slice 30, 1, 24, .slice none 0 0⟩),
  (23, ⟨.int .u32, 1, 4, .int .u32 0⟩),
  (24, ⟨.ptr 51, 1, 8, .pointer none⟩),
  (25, ⟨.int .i64, 1, 8, .int .i64 0⟩),
  (27, ⟨.func, 1, 8, .nilFunc⟩),
  (28, ⟨.slice 5, 1, 24, .slice none 0 0⟩),
  (29, ⟨.struct [(3, 0, 1), (23, 1, 1), (28, 2, 1)], 3, 40, .agg #[.int .i64 0, .int .u32 0, .slice none 0 0]⟩),
  (30, ⟨.struct [(3, 0, 1), (23, 1, 1), (28, 2, 1)], 3, 40, .agg #[.int .i64 0, .int .u32 0, .slice none 0 0]⟩),
  (31, ⟨.func, 1, 8, .nilFunc⟩),
  (33, ⟨.func, 1, 8, .nilFunc⟩),
  (34, ⟨.func, 1, 8, .nilFunc⟩),
  (35, ⟨.func, 1, 8, .nilFunc⟩),
  (36, ⟨.func, 1, 8, .nilFunc⟩),
  (37, ⟨.func, 1, 8, .nilFunc⟩),
  (38, ⟨.slice 9, 1, 24, .slice none 0 0⟩),
  (39, ⟨.struct [(3, 0, 1), (38, 1, 1), (3, 2, 1), (3, 3, 1)], 4, 48, .agg #[.int .i64 0, .slice none 0 0, .int .i64 0, .int .i64 0]⟩),
  (40, ⟨.struct [(3, 0, 1), (38, 1, 1), (3, 2, 1), (3, 3, 1)], 4, 48, .agg #[.int .i64 0, .slice none 0 0, .int .i64 0, .int .i64 0]⟩),
  (42, ⟨.func, 1, 8, .nilFunc⟩),
  (43, ⟨.func, 1, 8, .nilFunc⟩),
  (44, ⟨.func, 1, 8, .nilFunc⟩),
  (45, ⟨.func, 1, 8, .nilFunc⟩),
  (46, ⟨.func, 1, 8, .nilFunc⟩),
  (47, ⟨.int .u64, 1, 8, .int .u64 0⟩),
  (48, ⟨.struct [(47, 0, 1), (47, 1, 1)], 2, 16, .agg #[.int .u64 0, .int .u64 0]⟩),
  (49, ⟨.struct [(47, 0, 1), (47, 1, 1)], 2, 16, .agg #[.int .u64 0, .int .u64 0]⟩),
  (50, ⟨.struct [(3, 0, 1), (28, 1, 1), (49, 2, 2)], 4, 48, .agg #[.int .i64 0, .slice none 0 0, .int .u64 0, .int .u64 0]⟩),
  (51, ⟨.struct [(3, 0, 1), (28, 1, 1), (49, 2, 2)], 4, 48, .agg #[.int .i64 0, .slice none 0 0, .int .u64 0, .int .u64 0]⟩),
  (52, ⟨.slice 24, 1, 24, .slice none 0 0⟩),
  (53, ⟨.func, 1, 8, .nilFunc⟩),
  (54, ⟨.func, 1, 8, .nilFunc⟩),
  (55, ⟨.func, 1, 8, .nilFunc⟩),
  (57, ⟨.func, 1, 8, .nilFunc⟩),
  (58, ⟨.func, 1, 8, .nilFunc⟩),
  (59, ⟨.func, 1, 8, .nilFunc⟩),
  (60, ⟨.struct [(3, 0, 1), (3, 1, 1), (3, 2, 1), (3, 3, 1), (3, 4, 1), (3, 5, 1), (3, 6, 1), (3, 7, 1)], 8, 64, .agg #[.int .i64 0, .int .i64 0, .int .i64 0, .int .i64 0, .int .i64 0, .int .i64 0, .int .i64 0, .int .i64 0]⟩),
  (61, ⟨.struct [(3, 0, 1), (3, 1, 1), (3, 2, 1), (3, 3, 1), (3, 4, 1), (3, 5, 1), (3, 6, 1), (3, 7, 1)], 8, 64, .agg #[.int .i64 0, .int .i64 0, .int .i64 0, .int .i64 0, .int .i64 0, .int .i64 0, .int .i64 0, .int .i64 0]⟩),
  (62, ⟨.slice 64, 1, 24, .slice none 0 0⟩),
  (63, ⟨.struct [(3, 0, 1), (9, 1, 1), (9, 2, 1), (3, 3, 1)], 4, 48, .agg #[.int .i64 0, .string ⟨⟨[]⟩⟩, .string ⟨⟨[]⟩⟩, .int .i64 0]⟩),
  (64, ⟨.struct [(3, 0, 1), (9, 1, 1), (9, 2, 1), (3, 3, 1)], 4, 48, .agg #[.int .i64 0, .string ⟨⟨[]⟩⟩, .string ⟨⟨[]⟩⟩, .int .i64 0]⟩),
  (65, ⟨.ptr 132, 1, 8, .pointer none⟩),
  (66, ⟨.func, 1, 8, .nilFunc⟩),
  (67, ⟨.func, 1, 8, .nilFunc⟩),
  (68, ⟨.slice 75, 1, 24, .slice none 0 0⟩),
  (69, ⟨.struct [(25, 0, 1), (9, 1, 1), (68, 2, 1)], 3, 48, .agg #[.int .i64 0, .string ⟨⟨[]⟩⟩, .slice none 0 0]⟩),
  (70, ⟨.struct [(25, 0, 1), (9, 1, 1), (68, 2, 1)], 3, 48, .agg #[.int .i64 0, .string ⟨⟨[]⟩⟩, .slice none 0 0]⟩),
  (71, ⟨.func, 1, 8, .nilFunc⟩),
  (72, ⟨.func, 1, 8, .nilFunc⟩),
  (73, ⟨.func, 1, 8, .nilFunc⟩),
  (74, ⟨.struct [(9, 0, 1), (9, 1, 1)], 2, 32, .agg #[.string ⟨⟨[]⟩⟩, .string ⟨⟨[]⟩⟩]⟩),
  (75, ⟨.struct [(9, 0, 1), (9, 1, 1)], 2, 32, .agg #[.string ⟨⟨[]⟩⟩, .string ⟨⟨[]⟩⟩]⟩),
  (76, ⟨.func, 1, 8, .nilFunc⟩),
  (77, ⟨.func, 1, 8, .nilFunc⟩),
  (78, ⟨.func, 1, 8, .nilFunc⟩),
  (79, ⟨.struct [(3, 0, 1), (9, 1, 1), (68, 2, 1)], 3, 48, .agg #[.int .i64 0, .string ⟨⟨[]⟩⟩, .slice none 0 0]⟩),
  (80, ⟨.struct [(3, 0, 1), (9, 1, 1), (68, 2, 1)], 3, 48, .agg #[.int .i64 0, .string ⟨⟨[]⟩⟩, .slice none 0 0]⟩),
  (81, ⟨.func, 1, 8, .nilFunc⟩),
  (82, ⟨.func, 1, 8, .nilFunc⟩),
  (83, ⟨.slice 23, 1, 24, .slice none 0 0⟩),
  (84, ⟨.slice 135, 1, 24, .slice none 0 0⟩),
  (85, ⟨.struct [(3, 0, 1), (83, 1, 1), (38, 2, 1), (84, 3, 1), (68, 4, 1)], 5, 104, .agg #[.int .i64 0, .slice none 0 0, .slice none 0 0, .slice none 0 0, .slice none 0 0]⟩),
  (86, ⟨.struct [(3, 0, 1), (83, 1, 1), (38, 2, 1), (84, 3, 1), (68, 4, 1)], 5, 104, .agg #[.int .i64 0, .slice none 0 0, .slice none 0 0, .slice none 0 0, .slice none 0 0]⟩),
  (87, ⟨.func, 1, 8, .nilFunc⟩),
  (89, ⟨.func, 1, 8, .nilFunc⟩),
  (90, ⟨.func, 1, 8, .nilFunc⟩),
  (91, ⟨.func, 1, 8, .nilFunc⟩),
  (92, ⟨.struct [(9, 0, 1), (9, 1, 1), (4, 2, 1)], 3, 40, .agg #[.string ⟨⟨[]⟩⟩, .string ⟨⟨[]⟩⟩, .bool false]⟩),
  (93, ⟨.struct [(9, 0, 1), (9, 1, 1), (4, 2, 1)], 3, 40, .agg #[.string ⟨⟨[]⟩⟩, .string ⟨⟨[]⟩⟩, .bool false]⟩),
  (95, ⟨.func, 1, 8, .nilFunc⟩),
  (96, ⟨.func, 1, 8, .nilFunc⟩),
  (97, ⟨.slice 102, 1, 24, .slice none 0 0⟩),
  (98, ⟨.ptr 113, 1, 8, .pointer none⟩),
  (100, ⟨.func, 1, 8, .nilFunc⟩),
  (101, ⟨.func, 1, 8, .nilFunc⟩),
  (102, ⟨.struct [(3, 0, 1), (23, 1, 1), (28, 2, 1)], 3, 40, .agg #[.int .i64 0, .int .u32 0, .slice none 0 0]⟩),
  (103, ⟨.func, 1, 8, .nilFunc⟩),
  (105, ⟨.func, 1, 8, .nilFunc⟩),
  (106, ⟨.func, 1, 8, .nilFunc⟩),
  (107, ⟨.func, 1, 8, .nilFunc⟩),
  (108, ⟨.slice 162, 1, 24, .slice none 0 0⟩),
  (109, ⟨.map 23 3, 1, 8, .map none⟩),
  (110, ⟨.slice 3, 1, 24, .slice none 0 0⟩),
  (111, ⟨.ptr 203, 1, 8, .pointer none⟩),
  (112, ⟨.struct [(24, 0, 1), (108, 1, 1), (109, 2, 1), (110, 3, 1), (111, 4, 1)], 5, 72, .agg #[.pointer none, .slice none 0 0, .map none, .slice none 0 0, .pointer none]⟩),
  (113, ⟨.struct [(24, 0, 1), (108, 1, 1), (109, 2, 1), (110, 3, 1), (111, 4, 1)], 5, 72, .agg #[.pointer none, .slice none 0 0, .map none, .slice none 0 0, .pointer none]⟩),
  (114, ⟨.slice 98, 1, 24, .slice none 0 0⟩),
  (115, ⟨.func, 1, 8, .nilFunc⟩),
  (116, ⟨.func, 1, 8, .nilFunc⟩),
  (117, ⟨.func, 1, 8, .nilFunc⟩),
  (118, ⟨.slice 178, 1, 24, .slice none 0 0⟩),
  (119, ⟨.struct [(40, 0, 4), (118, 4, 1), (3, 5, 1), (83, 6, 1)], 7, 104, .agg #[.int .i64 0, .slice none 0 0, .int .i64 0, .int .i64 0, .slice none 0 0, .int .i64 0, .slice none 0 0]⟩),
  (120, ⟨.struct [(40, 0, 4), (118, 4, 1), (3, 5, 1), (83, 6, 1)], 7, 104, .agg #[.int .i64 0, .slice none 0 0, .int .i64 0, .int .i64 0, .slice none 0 0, .int .i64 0, .slice none 0 0]⟩),
  (122, ⟨.func, 1, 8, .nilFunc⟩),
  (124, ⟨.func, 1, 8, .nilFunc⟩),
  (125, ⟨.func, 1, 8, .nilFunc⟩),
  (126, ⟨.func, 1, 8, .nilFunc⟩),
  (127, ⟨.func, 1, 8, .nilFunc⟩),
  (128, ⟨.func, 1, 8, .nilFunc⟩),
  (129, ⟨.func, 1, 8, .nilFunc⟩),
  (130, ⟨.func, 1, 8, .nilFunc⟩),
  (131, ⟨.struct [(61, 0, 8), (68, 8, 1)], 9, 88, .agg #[.int .i64 0, .int .i64 0, .int .i64 0, .int .i64 0, .int .i64 0, .int .i64 0, .int .i64 0, .int .i64 0, .slice none 0 0]⟩),
  (132, ⟨.struct [(61, 0, 8), (68, 8, 1)], 9, 88, .agg #[.int .i64 0, .int .i64 0, .int .i64 0, .int .i64 0, .int .i64 0, .int .i64 0, .int .i64 0, .int .i64 0, .slice none 0 0]⟩),
  (133, ⟨.func, 1, 8, .nilFunc⟩),
  (134, ⟨.struct [(9, 0, 1), (4, 1, 1), (9, 2, 1)], 3, 40, .agg #[.string ⟨⟨[]⟩⟩, .bool false, .string ⟨⟨[]⟩⟩]⟩),
  (135, ⟨.struct [(9, 0, 1), (4, 1, 1), (9, 2, 1)], 3, 40, .agg #[.string ⟨⟨[]⟩⟩, .bool false, .string ⟨⟨[]⟩⟩]⟩),
  (136, ⟨.func, 1, 8, .nilFunc⟩),
  (137, ⟨.func, 1, 8, .nilFunc⟩),
  (138, ⟨.func, 1, 8, .nilFunc⟩),
  (140, ⟨.func, 1, 8, .nilFunc⟩),
  (141, ⟨.func, 1, 8, .nilFunc⟩),
  (142, ⟨.func, 1, 8, .nilFunc⟩),
  (143, ⟨.func, 1, 8, .nilFunc⟩),
  (144, ⟨.slice 86, 1, 24, .slice none 0 0⟩),
  (145, ⟨.func, 1, 8, .nilFunc⟩),
  (146, ⟨.func, 1, 8, .nilFunc⟩),
  (148, ⟨.func, 1, 8, .nilFunc⟩),
  (149, ⟨.func, 1, 8, .nilFunc⟩),
  (150, ⟨.func, 1, 8, .nilFunc⟩),
  (151, ⟨.func, 1, 8, .nilFunc⟩),
  (152, ⟨.func, 1, 8, .nilFunc⟩),
  (153, ⟨.func, 1, 8, .nilFunc⟩),
  (154, ⟨.func, 1, 8, .nilFunc⟩),
  (155, ⟨.func, 1, 8, .nilFunc⟩),
  (157, ⟨.func, 1, 8, .nilFunc⟩),
  (158, ⟨.ptr 162, 1, 8, .pointer none⟩),
  (160, ⟨.func, 1, 8, .nilFunc⟩),
  (161, ⟨.struct [(23, 0, 1), (28, 1, 1), (4, 2, 1), (3, 3, 1)], 4, 48, .agg #[.int .u32 0, .slice none 0 0, .bool false, .int .i64 0]⟩),
  (162, ⟨.struct [(23, 0, 1), (28, 1, 1), (4, 2, 1), (3, 3, 1)], 4, 48, .agg #[.int .u32 0, .slice none 0 0, .bool false, .int .i64 0]⟩),
  (163, ⟨.func, 1, 8, .nilFunc⟩),
  (164, ⟨.func, 1, 8, .nilFunc⟩),
  (165, ⟨.func, 1, 8, .nilFunc⟩),
  (166, ⟨.func, 1, 8, .nilFunc⟩),
  (167, ⟨.func, 1, 8, .nilFunc⟩),
  (169, ⟨.func, 1, 8, .nilFunc⟩),
  (170, ⟨.func, 1, 8, .nilFunc⟩),
  (171, ⟨.func, 1, 8, .nilFunc⟩),
  (172, ⟨.func, 1, 8, .nilFunc⟩),
  (173, ⟨.func, 1, 8, .nilFunc⟩),
  (174, ⟨.func, 1, 8, .nilFunc⟩),
  (175, ⟨.func, 1, 8, .nilFunc⟩),
  (176, ⟨.func, 1, 8, .nilFunc⟩),
  (177, ⟨.struct [(23, 0, 1), (9, 1, 1), (4, 2, 1), (3, 3, 1)], 4, 40, .agg #[.int .u32 0, .string ⟨⟨[]⟩⟩, .bool false, .int .i64 0]⟩),
  (178, ⟨.struct [(23, 0, 1), (9, 1, 1), (4, 2, 1), (3, 3, 1)], 4, 40, .agg #[.int .u32 0, .string ⟨⟨[]⟩⟩, .bool false, .int .i64 0]⟩),
  (179, ⟨.func, 1, 8, .nilFunc⟩),
  (180, ⟨.func, 1, 8, .nilFunc⟩),
  (181, ⟨.func, 1, 8, .nilFunc⟩),
  (182, ⟨.func, 1, 8, .nilFunc⟩),
  (183, ⟨.func, 1, 8, .nilFunc⟩),
  (184, ⟨.func, 1, 8, .nilFunc⟩),
  (185, ⟨.func, 1, 8, .nilFunc⟩),
  (187, ⟨.func, 1, 8, .nilFunc⟩),
  (188, ⟨.func, 1, 8, .nilFunc⟩),
  (189, ⟨.func, 1, 8, .nilFunc⟩),
  (190, ⟨.func, 1, 8, .nilFunc⟩),
  (191, ⟨.func, 1, 8, .nilFunc⟩),
  (193, ⟨.func, 1, 8, .nilFunc⟩),
  (194, ⟨.func, 1, 8, .nilFunc⟩),
  (195, ⟨.func, 1, 8, .nilFunc⟩),
  (196, ⟨.func, 1, 8, .nilFunc⟩),
  (197, ⟨.func, 1, 8, .nilFunc⟩),
  (198, ⟨.func, 1, 8, .nilFunc⟩),
  (199, ⟨.func, 1, 8, .nilFunc⟩),
  (200, ⟨.func, 1, 8, .nilFunc⟩),
  (201, ⟨.slice 205, 1, 24, .slice none 0 0⟩),
  (202, ⟨.struct [(201, 0, 1), (3, 1, 1)], 2, 32, .agg #[.slice none 0 0, .int .i64 0]⟩),
  (203, ⟨.struct [(201, 0, 1), (3, 1, 1)], 2, 32, .agg #[.slice none 0 0, .int .i64 0]⟩),
  (204, ⟨.struct [(3, 0, 1), (3, 1, 1), (4, 2, 1)], 3, 24, .agg #[.int .i64 0, .int .i64 0, .bool false]⟩),
  (205, ⟨.struct [(3, 0, 1), (3, 1, 1), (4, 2, 1)], 3, 24, .agg #[.int .i64 0, .int .i64 0, .bool false]⟩),
  (206, ⟨.func, 1, 8, .nilFunc⟩),
  (207, ⟨.func, 1, 8, .nilFunc⟩),
  (208, ⟨.func, 1, 8, .nilFunc⟩),
  (209, ⟨.func, 1, 8, .nilFunc⟩),
  (210, ⟨.func, 1, 8, .nilFunc⟩),
  (212, ⟨.func, 1, 8, .nilFunc⟩),
  (213, ⟨.func, 1, 8, .nilFunc⟩),
  (214, ⟨.int .u64, 1, 8, .int .u64 0⟩),
  (215, ⟨.func, 1, 8, .nilFunc⟩),
  (216, ⟨.func, 1, 8, .nilFunc⟩),
  (217, ⟨.func, 1, 8, .nilFunc⟩),
  (218, ⟨.slice 84, 1, 24, .slice none 0 0⟩),
  (219, ⟨.func, 1, 8, .nilFunc⟩),
  (220, ⟨.func, 1, 8, .nilFunc⟩),
  (221, ⟨.func, 1, 8, .nilFunc⟩),
  (222, ⟨.func, 1, 8, .nilFunc⟩),
  (223, ⟨.func, 1, 8, .nilFunc⟩),
  (224, ⟨.func, 1, 8, .nilFunc⟩),
  (225, ⟨.int .i64, 1, 8, .int .i64 0⟩),
  (227, ⟨.func, 1, 8, .nilFunc⟩),
  (228, ⟨.func, 1, 8, .nilFunc⟩),
  (229, ⟨.func, 1, 8, .nilFunc⟩),
  (230, ⟨.func, 1, 8, .nilFunc⟩),
  (231, ⟨.func, 1, 8, .nilFunc⟩),
  (232, ⟨.func, 1, 8, .nilFunc⟩),
  (233, ⟨.func, 1, 8, .nilFunc⟩),
  (234, ⟨.int .u64, 1, 8, .int .u64 0⟩),
  (235, ⟨.func, 1, 8, .nilFunc⟩),
  (236, ⟨.func, 1, 8, .nilFunc⟩),
  (237, ⟨.func, 1, 8, .nilFunc⟩),
  (238, ⟨.ptr 3, 1, 8, .pointer none⟩),
  (239, ⟨.func, 1, 8, .nilFunc⟩),
  (240, ⟨.ptr 234, 1, 8, .pointer none⟩),
  (241, ⟨.func, 1, 8, .nilFunc⟩),
  (242, ⟨.func, 1, 8, .nilFunc⟩),
  (248, ⟨.int .u8, 1, 1, .int .u8 0⟩),
  (249, ⟨.int .u8, 1, 1, .int .u8 0⟩),
  (250, ⟨.func, 1, 8, .nilFunc⟩),
  (251, ⟨.ptr 5, 1, 8, .pointer none⟩),
  (252, ⟨.int .i32, 1, 4, .int .i32 0⟩),
  (253, ⟨.int .i32, 1, 4, .int .i32 0⟩)]
theorem ttok : TTok Try.prog tt := by
  refine ttok_cons ⟨by kernel_rfl, ⟨_, _, _, Try.underlying1⟩⟩ ?_
  refine ttok_cons ⟨by kernel_rfl, Try.underlying2⟩ ?_
  refine ttok_cons ⟨by kernel_rfl, Try.underlying3⟩ ?_
  refine ttok_cons ⟨by kernel_rfl, Try.underlying4⟩ ?_
  refine ttok_cons ⟨by kernel_rfl, Try.underlying5⟩ ?_
  refine ttok_cons ⟨by kernel_rfl, Try.underlying6⟩ ?_
  refine ttok_cons ⟨by kernel_rfl, Try.underlying9⟩ ?_
  refine ttok_cons ⟨by kernel_rfl, Try.underlying10⟩ ?_
  refine ttok_cons ⟨by kernel_rfl, Try.underlying11⟩ ?_
  refine ttok_cons ⟨by kernel_rfl, Try.underlying12⟩ ?_
  refine ttok_cons ⟨by kernel_rfl, Try.underlying15⟩ ?_
  refine ttok_cons ⟨by kernel_rfl, Try.underlying16⟩ ?_
  refine ttok_cons ⟨by kernel_rfl, Try.underlying17⟩ ?_
  refine ttok_cons ⟨by kernel_rfl, ⟨_, Try.underlying20⟩⟩ ?_
  refine ttok_cons ⟨by kernel_rfl, Try.underlying21⟩ ?_
  refine ttok_cons ⟨by kernel_rfl, Try.underlying22⟩ ?_
  refine ttok_cons ⟨by kernel_rfl, Try.underlying23⟩ ?_
  refine ttok_cons ⟨by kernel_rfl, Try.underlying24⟩ ?_
  refine ttok_cons ⟨by kernel_rfl, Try.underlying25⟩ ?_
  refine ttok_cons ⟨by kernel_rfl, ⟨_, _, _, Try.underlying27⟩⟩ ?_
  refine ttok_cons ⟨by kernel_rfl, Try.underlying28⟩ ?_
  refine ttok_cons ⟨by kernel_rfl, ⟨_, Try.underlying29, by kernel_rfl, by kernel_rfl, by kernel_rfl, by kernel_rfl, by kernel_rfl, by kernel_rfl⟩⟩ ?_
  refine ttok_cons ⟨by kernel_rfl, ⟨_, Try.underlying30, by kernel_rfl, by kernel_rfl, by kernel_rfl, by kernel_rfl, by kernel_rfl, by kernel_rfl⟩⟩ ?_
  refine ttok_cons ⟨by kernel_rfl, ⟨_, _, _, Try.underlying31⟩⟩ ?_
  refine ttok_cons ⟨by kernel_rfl, ⟨_, _, _, Try.underlying33⟩⟩ ?_
  refine ttok_cons ⟨by kernel_rfl, ⟨_, _, _, Try.underlying34⟩⟩ ?_
  refine ttok_cons ⟨by kernel_rfl, ⟨_, _, _, Try.underlying35⟩⟩ ?_
  refine ttok_cons ⟨by kernel_rfl, ⟨_, _, _, Try.underlying36⟩⟩ ?_
  refine ttok_cons ⟨by kernel_rfl, ⟨_, _, _, Try.underlying37⟩⟩ ?_
  refine ttok_cons ⟨by kernel_rfl, Try.underlying38⟩ ?_
  refine ttok_cons ⟨by kernel_rfl, ⟨_, Try.underlying39, by kernel_rfl, by kernel_rfl, by kernel_rfl, by kernel_rfl, by kernel_rfl, by kernel_rfl⟩⟩ ?_
  refine ttok_cons ⟨by kernel_rfl, ⟨_, Try.underlying40, by kernel_rfl, by kernel_rfl, by kernel_rfl, by kernel_rfl, by kernel_rfl, by kernel_rfl⟩⟩ ?_
  refine ttok_cons ⟨by kernel_rfl, ⟨_, _, _, Try.underlying42⟩⟩ ?_
  refine ttok_cons ⟨by kernel_rfl, ⟨_, _, _, Try.underlying43⟩⟩ ?_
  refine ttok_cons ⟨by kernel_rfl, ⟨_, _, _, Try.underlying44⟩⟩ ?_
  refine ttok_cons ⟨by kernel_rfl, ⟨_, _, _, Try.underlying45⟩⟩ ?_
  refine ttok_cons ⟨by kernel_rfl, ⟨_, _, _, Try.underlying46⟩⟩ ?_
  refine ttok_cons ⟨by kernel_rfl, Try.underlying47⟩ ?_
  refine ttok_cons ⟨by kernel_rfl, ⟨_, Try.underlying48, by kernel_rfl, by kernel_rfl, by kernel_rfl, by kernel_rfl, by kernel_rfl, by kernel_rfl⟩⟩ ?_
  refine ttok_cons ⟨by kernel_rfl, ⟨_, Try.underlying49, by kernel_rfl, by kernel_rfl, by kernel_rfl, by kernel_rfl, by kernel_rfl, by kernel_rfl⟩⟩ ?_
  refine ttok_cons ⟨by kernel_rfl, ⟨_, Try.underlying50, by kernel_rfl, by kernel_rfl, by kernel_rfl, by kernel_rfl, by kernel_rfl, by kernel_rfl⟩⟩ ?_
  refine ttok_cons ⟨by kernel_rfl, ⟨_, Try.underlying51, by kernel_rfl, by kernel_rfl, by kernel_rfl, by kernel_rfl, by kernel_rfl, by kernel_rfl⟩⟩ ?_
  refine ttok_cons ⟨by kernel_rfl, Try.underlying52⟩ ?_
  refine ttok_cons ⟨by kernel_rfl, ⟨_, _, _, Try.underlying53⟩⟩ ?_
  refine ttok_cons ⟨by kernel_rfl, ⟨_, _, _, Try.underlying54⟩⟩ ?_
  refine ttok_cons ⟨by kernel_rfl, ⟨_, _, _, Try.underlying55⟩⟩ ?_
  refine ttok_cons ⟨by kernel_rfl, ⟨_, _, _, Try.underlying57⟩⟩ ?_
  refine ttok_cons ⟨by kernel_rfl, ⟨_, _, _, Try.underlying58⟩⟩ ?_
  refine ttok_cons ⟨by kernel_rfl, ⟨_, _, _, Try.underlying59⟩⟩ ?_
  refine ttok_cons ⟨by kernel_rfl, ⟨_, Try.underlying60, by kernel_rfl, by kernel_rfl, by kernel_rfl, by kernel_rfl, by kernel_rfl, by kernel_rfl⟩⟩ ?_
  refine ttok_cons ⟨by kernel_rfl, ⟨_, Try.underlying61, by kernel_rfl, by kernel_rfl, by kernel_rfl, by kernel_rfl, by kernel_rfl, by kernel_rfl⟩⟩ ?_
  refine ttok_cons ⟨by kernel_rfl, Try.underlying62⟩ ?_
  refine ttok_cons ⟨by kernel_rfl, ⟨_, Try.underlying63, by kernel_rfl, by kernel_rfl, by kernel_rfl, by kernel_rfl, by kernel_rfl, by kernel_rfl⟩⟩ ?_
  refine ttok_cons ⟨by kernel_rfl, ⟨_, Try.underlying64, by kernel_rfl, by kernel_rfl, by kernel_rfl, by kernel_rfl, by kernel_rfl, by kernel_rfl⟩⟩ ?_
  refine ttok_cons ⟨by kernel_rfl, Try.underlying65⟩ ?_
  refine ttok_cons ⟨by kernel_rfl, ⟨_, _, _, Try.underlying66⟩⟩ ?_
  refine ttok_cons ⟨by kernel_rfl, ⟨_, _, _, Try.underlying67⟩⟩ ?_
  refine ttok_cons ⟨by kernel_rfl, Try.underlying68⟩ ?_
  refine ttok_cons ⟨by kernel_rfl, ⟨_, Try.underlying69, by kernel_rfl, by kernel_rfl, by kernel_rfl, by kernel_rfl, by kernel_rfl, by kernel_rfl⟩⟩ ?_
  refine ttok_cons ⟨by kernel_rfl, ⟨_, Try.underlying70, by kernel_rfl, by kernel_rfl, by kernel_rfl, by kernel_rfl, by kernel_rfl, by kernel_rfl⟩⟩ ?_
  refine ttok_cons ⟨by kernel_rfl, ⟨_, _, _, Try.underlying71⟩⟩ ?_
  refine ttok_cons ⟨by kernel_rfl, ⟨_, _, _, Try.underlying72⟩⟩ ?_
  refine ttok_cons ⟨by kernel_rfl, ⟨_, _, _, Try.underlying73⟩⟩ ?_
  refine ttok_cons ⟨by kernel_rfl, ⟨_, Try.underlying74, by kernel_rfl, by kernel_rfl, by kernel_rfl, by kernel_rfl, by kernel_rfl, by kernel_rfl⟩⟩ ?_
  refine ttok_cons ⟨by kernel_rfl, ⟨_, Try.underlying75, by kernel_rfl, by kernel_rfl, by kernel_rfl, by kernel_rfl, by kernel_rfl, by kernel_rfl⟩⟩ ?_
  refine ttok_cons ⟨by kernel_rfl, ⟨_, _, _, Try.underlying76⟩⟩ ?_
  refine ttok_cons ⟨by kernel_rfl, ⟨_, _, _, Try.underlying77⟩⟩ ?_
  refine ttok_cons ⟨by kernel_rfl, ⟨_, _, _, Try.underlying78⟩⟩ ?_
  refine ttok_cons ⟨by kernel_rfl, ⟨_, Try.underlying79, by kernel_rfl, by kernel_rfl, by kernel_rfl, by kernel_rfl, by kernel_rfl, by kernel_rfl⟩⟩ ?_
  refine ttok_cons ⟨by kernel_rfl, ⟨_, Try.underlying80, by kernel_rfl, by kernel_rfl, by kernel_rfl, by kernel_rfl, by kernel_rfl, by kernel_rfl⟩⟩ ?_
  refine ttok_cons ⟨by kernel_rfl, ⟨_, _, _, Try.underlying81⟩⟩ ?_
  refine ttok_cons ⟨by kernel_rfl, ⟨_, _, _, Try.underlying82⟩⟩ ?_
  refine ttok_cons ⟨by kernel_rfl, Try.underlying83⟩ ?_
  refine ttok_cons ⟨by kernel_rfl, Try.underlying84⟩ ?_
  refine ttok_cons ⟨by kernel_rfl, ⟨_, Try.underlying85, by kernel_rfl, by kernel_rfl, by kernel_rfl, by kernel_rfl, by kernel_rfl, by kernel_rfl⟩⟩ ?_
  refine ttok_cons ⟨by kernel_rfl, ⟨_, Try.underlying86, by kernel_rfl, by kernel_rfl, by kernel_rfl, by kernel_rfl, by kernel_rfl, by kernel_rfl⟩⟩ ?_
  refine ttok_cons ⟨by kernel_rfl, ⟨_, _, _, Try.underlying87⟩⟩ ?_
  refine ttok_cons ⟨by kernel_rfl, ⟨_, _, _, Try.underlying89⟩⟩ ?_
  refine ttok_cons ⟨by kernel_rfl, ⟨_, _, _, Try.underlying90⟩⟩ ?_
  refine ttok_cons ⟨by kernel_rfl, ⟨_, _, _, Try.underlying91⟩⟩ ?_
  refine ttok_cons ⟨by kernel_rfl, ⟨_, Try.underlying92, by kernel_rfl, by kernel_rfl, by kernel_rfl, by kernel_rfl, by kernel_rfl, by kernel_rfl⟩⟩ ?_
  refine ttok_cons ⟨by kernel_rfl, ⟨_, Try.underlying93, by kernel_rfl, by kernel_rfl, by kernel_rfl, by kernel_rfl, by kernel_rfl, by kernel_rfl⟩⟩ ?_
  refine ttok_cons ⟨by kernel_rfl, ⟨_, _, _, Try.underlying95⟩⟩ ?_
  refine ttok_cons ⟨by kernel_rfl, ⟨_, _, _, Try.underlying96⟩⟩ ?_
  refine ttok_cons ⟨by kernel_rfl, Try.underlying97⟩ ?_
  refine ttok_cons ⟨by kernel_rfl, Try.underlying98⟩ ?_
  refine ttok_cons ⟨by kernel_rfl, ⟨_, _, _, Try.underlying100⟩⟩ ?_
  refine ttok_cons ⟨by kernel_rfl, ⟨_, _, _, Try.underlying101⟩⟩ ?_
  refine ttok_cons ⟨by kernel_rfl, ⟨_, Try.underlying102, by kernel_rfl, by kernel_rfl, by kernel_rfl, by kernel_rfl, by kernel_rfl, by kernel_rfl⟩⟩ ?_
  refine ttok_cons ⟨by kernel_rfl, ⟨_, _, _, Try.underlying103⟩⟩ ?_
  refine ttok_cons ⟨by kernel_rfl, ⟨_, _, _, Try.underlying105⟩⟩ ?_
  refine ttok_cons ⟨by kernel_rfl, ⟨_, _, _, Try.underlying106⟩⟩ ?_
  refine ttok_cons ⟨by kernel_rfl, ⟨_, _, _, Try.underlying107⟩⟩ ?_
  refine ttok_cons ⟨by kernel_rfl, Try.underlying108⟩ ?_
  refine ttok_cons ⟨by kernel_rfl, Try.underlying109⟩ ?_
  refine ttok_cons ⟨by kernel_rfl, Try.underlying110⟩ ?_
  refine ttok_cons ⟨by kernel_rfl, Try.underlying111⟩ ?_
  refine ttok_cons ⟨by kernel_rfl, ⟨_, Try.underlying112, by kernel_rfl, by kernel_rfl, by kernel_rfl, by kernel_rfl, by kernel_rfl, by kernel_rfl⟩⟩ ?_
  refine ttok_cons ⟨by kernel_rfl, ⟨_, Try.underlying113, by kernel_rfl, by kernel_rfl, by kernel_rfl, by kernel_rfl, by kernel_rfl, by kernel_rfl⟩⟩ ?_
  refine ttok_cons ⟨by kernel_rfl, Try.underlying114⟩ ?_
  refine ttok_cons ⟨by kernel_rfl, ⟨_, _, _, Try.underlying115⟩⟩ ?_
  refine ttok_cons ⟨by kernel_rfl, ⟨_, _, _, Try.underlying116⟩⟩ ?_
  refine ttok_cons ⟨by kernel_rfl, ⟨_, _, _, Try.underlying117⟩⟩ ?_
  refine ttok_cons ⟨by kernel_rfl, Try.underlying118⟩ ?_
  refine ttok_cons ⟨by kernel_rfl, ⟨_, Try.underlying119, by kernel_rfl, by kernel_rfl, by kernel_rfl, by kernel_rfl, by kernel_rfl, by kernel_rfl⟩⟩ ?_
  refine ttok_cons ⟨by kernel_rfl, ⟨_, Try.underlying120, by kernel_rfl, by kernel_rfl, by kernel_rfl, by kernel_rfl, by kernel_rfl, by kernel_rfl⟩⟩ ?_
  refine ttok_cons ⟨by kernel_rfl, ⟨_, _, _, Try.underlying122⟩⟩ ?_
  refine ttok_cons ⟨by kernel_rfl, ⟨_, _, _, Try.underlying124⟩⟩ ?_
  refine ttok_cons ⟨by kernel_rfl, ⟨_, _, _, Try.underlying125⟩⟩ ?_
  refine ttok_cons ⟨by kernel_rfl, ⟨_, _, _, Try.underlying126⟩⟩ ?_
  refine ttok_cons ⟨by kernel_rfl, ⟨_, _, _, Try.underlying127⟩⟩ ?_
  refine ttok_cons ⟨by kernel_rfl, ⟨_, _, _, Try.underlying128⟩⟩ ?_
  refine ttok_cons ⟨by kernel_rfl, ⟨_, _, _, Try.underlying129⟩⟩ ?_
  refine ttok_cons ⟨by kernel_rfl, ⟨_, _, _, Try.underlying130⟩⟩ ?_
  refine ttok_cons ⟨by kernel_rfl, ⟨_, Try.underlying131, by kernel_rfl, by kernel_rfl, by kernel_rfl, by kernel_rfl, by kernel_rfl, by kernel_rfl⟩⟩ ?_
  refine ttok_cons ⟨by kernel_rfl, ⟨_, Try.underlying132, by kernel_rfl, by kernel_rfl, by kernel_rfl, by kernel_rfl, by kernel_rfl, by kernel_rfl⟩⟩ ?_
  refine ttok_cons ⟨by kernel_rfl, ⟨_, _, _, Try.underlying133⟩⟩ ?_
  refine ttok_cons ⟨by kernel_rfl, ⟨_, Try.underlying134, by kernel_rfl, by kernel_rfl, by kernel_rfl, by kernel_rfl, by kernel_rfl, by kernel_rfl⟩⟩ ?_
  refine ttok_cons ⟨by kernel_rfl, ⟨_, Try.underlying135, by kernel_rfl, by kernel_rfl, by kernel_rfl, by kernel_rfl, by kernel_rfl, by kernel_rfl⟩⟩ ?_
  refine ttok_cons ⟨by kernel_rfl, ⟨_, _, _, Try.underlying136⟩⟩ ?_
  refine ttok_cons ⟨by kernel_rfl, ⟨_, _, _, Try.underlying137⟩⟩ ?_
  refine ttok_cons ⟨by kernel_rfl, ⟨_, _, _, Try.underlying138⟩⟩ ?_
  refine ttok_cons ⟨by kernel_rfl, ⟨_, _, _, Try.underlying140⟩⟩ ?_
  refine ttok_cons ⟨by kernel_rfl, ⟨_, _, _, Try.underlying141⟩⟩ ?_
  refine ttok_cons ⟨by kernel_rfl, ⟨_, _, _, Try.underlying142⟩⟩ ?_
  refine ttok_cons ⟨by kernel_rfl, ⟨_, _, _, Try.underlying143⟩⟩ ?_
  refine ttok_cons ⟨by kernel_rfl, Try.underlying144⟩ ?_
  refine ttok_cons ⟨by kernel_rfl, ⟨_, _, _, Try.underlying145⟩⟩ ?_
  refine ttok_cons ⟨by kernel_rfl, ⟨_, _, _, Try.underlying146⟩⟩ ?_
  refine ttok_cons ⟨by kernel_rfl, ⟨_, _, _, Try.underlying148⟩⟩ ?_
  refine ttok_cons ⟨by kernel_rfl, ⟨_, _, _, Try.underlying149⟩⟩ ?_
  refine ttok_cons ⟨by kernel_rfl, ⟨_, _, _, Try.underlying150⟩⟩ ?_
  refine ttok_cons ⟨by kernel_rfl, ⟨_, _, _, Try.underlying151⟩⟩ ?_
  refine ttok_cons ⟨by kernel_rfl, ⟨_, _, _, Try.underlying152⟩⟩ ?_
  refine ttok_cons ⟨by kernel_rfl, ⟨_, _, _, Try.underlying153⟩⟩ ?_
  refine ttok_cons ⟨by kernel_rfl, ⟨_, _, _, Try.underlying154⟩⟩ ?_
  refine ttok_cons ⟨by kernel_rfl, ⟨_, _, _, Try.underlying155⟩⟩ ?_
  refine ttok_cons ⟨by kernel_rfl, ⟨_, _, _, Try.underlying157⟩⟩ ?_
  refine ttok_cons ⟨by kernel_rfl, Try.underlying158⟩ ?_
  refine ttok_cons ⟨by kernel_rfl, ⟨_, _, _, Try.underlying160⟩⟩ ?_
  refine ttok_cons ⟨by kernel_rfl, ⟨_, Try.underlying161, by kernel_rfl, by kernel_rfl, by kernel_rfl, by kernel_rfl, by kernel_rfl, by kernel_rfl⟩⟩ ?_
  refine ttok_cons ⟨by kernel_rfl, ⟨_, Try.underlying162, by kernel_rfl, by kernel_rfl, by kernel_rfl, by kernel_rfl, by kernel_rfl, by kernel_rfl⟩⟩ ?_
  refine ttok_cons ⟨by kernel_rfl, ⟨_, _, _, Try.underlying163⟩⟩ ?_
  refine ttok_cons ⟨by kernel_rfl, ⟨_, _, _, Try.underlying164⟩⟩ ?_
  refine ttok_cons ⟨by kernel_rfl, ⟨_, _, _, Try.underlying165⟩⟩ ?_
  refine ttok_cons ⟨by kernel_rfl, ⟨_, _, _, Try.underlying166⟩⟩ ?_
  refine ttok_cons ⟨by kernel_rfl, ⟨_, _, _, Try.underlying167⟩⟩ ?_
  refine ttok_cons ⟨by kernel_rfl, ⟨_, _, _, Try.underlying169⟩⟩ ?_
  refine ttok_cons ⟨by kernel_rfl, ⟨_, _, _, Try.underlying170⟩⟩ ?_
  refine ttok_cons ⟨by kernel_rfl, ⟨_, _, _, Try.underlying171⟩⟩ ?_
  refine ttok_cons ⟨by kernel_rfl, ⟨_, _, _, Try.underlying172⟩⟩ ?_
  refine ttok_cons ⟨by kernel_rfl, ⟨_, _, _, Try.underlying173⟩⟩ ?_
  refine ttok_cons ⟨by kernel_rfl, ⟨_, _, _, Try.underlying174⟩⟩ ?_
  refine ttok_cons ⟨by kernel_rfl, ⟨_, _, _, Try.underlying175⟩⟩ ?_
  refine ttok_cons ⟨by kernel_rfl, ⟨_, _, _, Try.underlying176⟩⟩ ?_
  refine ttok_cons ⟨by kernel_rfl, ⟨_, Try.underlying177, by kernel_rfl, by kernel_rfl, by kernel_rfl, by kernel_rfl, by kernel_rfl, by kernel_rfl⟩⟩ ?_
  refine ttok_cons ⟨by kernel_rfl, ⟨_, Try.underlying178, by kernel_rfl, by kernel_rfl, by kernel_rfl, by kernel_rfl, by kernel_rfl, by kernel_rfl⟩⟩ ?_
  refine ttok_cons ⟨by kernel_rfl, ⟨_, _, _, Try.underlying179⟩⟩ ?_
  refine ttok_cons ⟨by kernel_rfl, ⟨_, _, _, Try.underlying180⟩⟩ ?_
  refine ttok_cons ⟨by kernel_rfl, ⟨_, _, _, Try.underlying181⟩⟩ ?_
  refine ttok_cons ⟨by kernel_rfl, ⟨_, _, _, Try.underlying182⟩⟩ ?_
  refine ttok_cons ⟨by kernel_rfl, ⟨_, _, _, Try.underlying183⟩⟩ ?_
  refine ttok_cons ⟨by kernel_rfl, ⟨_, _, _, Try.underlying184⟩⟩ ?_
  refine ttok_cons ⟨by kernel_rfl, ⟨_, _, _, Try.underlying185⟩⟩ ?_
  refine ttok_cons ⟨by kernel_rfl, ⟨_, _, _, Try.underlying187⟩⟩ ?_
  refine ttok_cons ⟨by kernel_rfl, ⟨_, _, _, Try.underlying188⟩⟩ ?_
  refine ttok_cons ⟨by kernel_rfl, ⟨_, _, _, Try.underlying189⟩⟩ ?_
  refine ttok_cons ⟨by kernel_rfl, ⟨_, _, _, Try.underlying190⟩⟩ ?_
  refine ttok_cons ⟨by kernel_rfl, ⟨_, _, _, Try.underlying191⟩⟩ ?_
  refine ttok_cons ⟨by kernel_rfl, ⟨_, _, _, Try.underlying193⟩⟩ ?_
  refine ttok_cons ⟨by kernel_rfl, ⟨_, _, _, Try.underlying194⟩⟩ ?_
  refine ttok_cons ⟨by kernel_rfl, ⟨_, _, _, Try.underlying195⟩⟩ ?_
  refine ttok_cons ⟨by kernel_rfl, ⟨_, _, _, Try.underlying196⟩⟩ ?_
  refine ttok_cons ⟨by kernel_rfl, ⟨_, _, _, Try.underlying197⟩⟩ ?_
  refine ttok_cons ⟨by kernel_rfl, ⟨_, _, _, Try.underlying198⟩⟩ ?_
  refine ttok_cons ⟨by kernel_rfl, ⟨_, _, _, Try.underlying199⟩⟩ ?_
  refine ttok_cons ⟨by kernel_rfl, ⟨_, _, _, Try.underlying200⟩⟩ ?_
  refine ttok_cons ⟨by kernel_rfl, Try.underlying201⟩ ?_
  refine ttok_cons ⟨by kernel_rfl, ⟨_, Try.underlying202, by kernel_rfl, by kernel_rfl, by kernel_rfl, by kernel_rfl, by kernel_rfl, by kernel_rfl⟩⟩ ?_
  refine ttok_cons ⟨by kernel_rfl, ⟨_, Try.underlying203, by kernel_rfl, by kernel_rfl, by kernel_rfl, by kernel_rfl, by kernel_rfl, by kernel_rfl⟩⟩ ?_
  refine ttok_cons ⟨by kernel_rfl, ⟨_, Try.underlying204, by kernel_rfl, by kernel_rfl, by kernel_rfl, by kernel_rfl, by kernel_rfl, by kernel_rfl⟩⟩ ?_
  refine ttok_cons ⟨by kernel_rfl, ⟨_, Try.underlying205, by kernel_rfl, by kernel_rfl, by kernel_rfl, by kernel_rfl, by kernel_rfl, by kernel_rfl⟩⟩ ?_
  refine ttok_cons ⟨by kernel_rfl, ⟨_, _, _, Try.underlying206⟩⟩ ?_
  refine ttok_cons ⟨by kernel_rfl, ⟨_, _, _, Try.underlying207⟩⟩ ?_
  refine ttok_cons ⟨by kernel_rfl, ⟨_, _, _, Try.underlying208⟩⟩ ?_
  refine ttok_cons ⟨by kernel_rfl, ⟨_, _, _, Try.underlying209⟩⟩ ?_
  refine ttok_cons ⟨by kernel_rfl, ⟨_, _, _, Try.underlying210⟩⟩ ?_
  refine ttok_cons ⟨by kernel_rfl, ⟨_, _, _, Try.underlying212⟩⟩ ?_
  refine ttok_cons ⟨by kernel_rfl, ⟨_, _, _, Try.underlying213⟩⟩ ?_
  refine ttok_cons ⟨by kernel_rfl, Try.underlying214⟩ ?_
  refine ttok_cons ⟨by kernel_rfl, ⟨_, _, _, Try.underlying215⟩⟩ ?_
  refine ttok_cons ⟨by kernel_rfl, ⟨_, _, _, Try.underlying216⟩⟩ ?_
  refine ttok_cons ⟨by kernel_rfl, ⟨_, _, _, Try.underlying217⟩⟩ ?_
  refine ttok_cons ⟨by kernel_rfl, Try.underlying218⟩ ?_
  refine ttok_cons ⟨by kernel_rfl, ⟨_, _, _, Try.underlying219⟩⟩ ?_
  refine ttok_cons ⟨by kernel_rfl, ⟨_, _, _, Try.underlying220⟩⟩ ?_
  refine ttok_cons ⟨by kernel_rfl, ⟨_, _, _, Try.underlying221⟩⟩ ?_
  refine ttok_cons ⟨by kernel_rfl, ⟨_, _, _, Try.underlying222⟩⟩ ?_
  refine ttok_cons ⟨by kernel_rfl, ⟨_, _, _, Try.underlying223⟩⟩ ?_
  refine ttok_cons ⟨by kernel_rfl, ⟨_, _, _, Try.underlying224⟩⟩ ?_
  refine ttok_cons ⟨by kernel_rfl, Try.underlying225⟩ ?_
  refine ttok_cons ⟨by kernel_rfl, ⟨_, _, _, Try.underlying227⟩⟩ ?_
  refine ttok_cons ⟨by kernel_rfl, ⟨_, _, _, Try.underlying228⟩⟩ ?_
  refine ttok_cons ⟨by kernel_rfl, ⟨_, _, _, Try.underlying229⟩⟩ ?_
  refine ttok_cons ⟨by kernel_rfl, ⟨_, _, _, Try.underlying230⟩⟩ ?_
  refine ttok_cons ⟨by kernel_rfl, ⟨_, _, _, Try.underlying231⟩⟩ ?_
  refine ttok_cons ⟨by kernel_rfl, ⟨_, _, _, Try.underlying232⟩⟩ ?_
  refine ttok_cons ⟨by kernel_rfl, ⟨_, _, _, Try.underlying233⟩⟩ ?_
  refine ttok_cons ⟨by kernel_rfl, Try.underlying234⟩ ?_
  refine ttok_cons ⟨by kernel_rfl, ⟨_, _, _, Try.underlying235⟩⟩ ?_
  refine ttok_cons ⟨by kernel_rfl, ⟨_, _, _, Try.underlying236⟩⟩ ?_
  refine ttok_cons ⟨by kernel_rfl, ⟨_, _, _, Try.underlying237⟩⟩ ?_
  refine ttok_cons ⟨by kernel_rfl, Try.underlying238⟩ ?_
  refine ttok_cons ⟨by kernel_rfl, ⟨_, _, _, Try.underlying239⟩⟩ ?_
  refine ttok_cons ⟨by kernel_rfl, Try.underlying240⟩ ?_
  refine ttok_cons ⟨by kernel_rfl, ⟨_, _, _, Try.underlying241⟩⟩ ?_
  refine ttok_cons ⟨by kernel_rfl, ⟨_, _, _, Try.underlying242⟩⟩ ?_
  refine ttok_cons ⟨by kernel_rfl, Try.underlying248⟩ ?_
  refine ttok_cons ⟨by kernel_rfl, Try.underlying249⟩ ?_
  refine ttok_cons ⟨by kernel_rfl, ⟨_, _, _, Try.underlying250⟩⟩ ?_
  refine ttok_cons ⟨by kernel_rfl, Try.underlying251⟩ ?_
  refine ttok_cons ⟨by kernel_rfl, Try.underlying252⟩ ?_
  refine ttok_cons ⟨by kernel_rfl, Try.underlying253⟩ ?_
  exact ttok_nil _
theorem mix : Try.prog.follows .mixedOrders = true := by kernel_rfl
theorem cmpstr : CmpStr Try.prog 167 := CmpStr.of Try.func167 (by kernel_rfl) (by kernel_rfl) (by kernel_rfl) rfl
/-! sluicegate/truth.New -/
def truth_New.f (a0 : Int × Int × Int × Int × Int × Int × Int × Int) : Option (((Int × Int × Int × Int × Int × Int × Int × Int) × (List (List UInt8 × List UInt8)))) := some ((a0.1, a0.2.1, a0.2.2.1, a0.2.2.2.1, a0.2.2.2.2.1, a0.2.2.2.2.2.1, a0.2.2.2.2.2.2.1, a0.2.2.2.2.2.2.2), ([] : List (List UInt8 × List UInt8)))
set_option maxRecDepth 20000 in
set_option maxHeartbeats 40000000 in
theorem truth_New.spec {a0 : Int × Int × Int × Int × Int × Int × Int × Int}  {r : ((Int × Int × Int × Int × Int × Int × Int × Int) × (List (List UInt8 × List UInt8)))} (H : truth_New.f a0 = some r) :
    Spec Try.prog 31 [.agg #[.int .i64 a0.1, .int .i64 a0.2.1, .int .i64 a0.2.2.1, .int .i64 a0.2.2.2.1, .int .i64 a0.2.2.2.2.1, .int .i64 a0.2.2.2.2.2.1, .int .i64 a0.2.2.2.2.2.2.1, .int .i64 a0.2.2.2.2.2.2.2]] [] [] (fun v l => ∃ (b_0 : Nat) (A_1 : Option Addr) (c_1 : Nat), v = .pointer (some ⟨b_0, 0, none⟩) ∧ l = [boxC b_0 132 [.int .i64 r.1.1, .int .i64 r.1.2.1, .int .i64 r.1.2.2.1, .int .i64 r.1.2.2.2.1, .int .i64 r.1.2.2.2.2.1, .int .i64 r.1.2.2.2.2.2.1, .int .i64 r.1.2.2.2.2.2.2.1, .int .i64 r.1.2.2.2.2.2.2.2, .slice A_1 r.2.length c_1], ownC 75 (.pair .str .str) r.2 (.slice A_1 r.2.length c_1)]) := by
  refine Spec.enter Try.func31 rfl (by kernel_rfl) (by kernel_rfl) fun w0 F0 h0 => ?_
  unfold truth_New.f at H
  refine J.seq ?_
  refine J.region ?_
  refine RJ.op rfl rfl (op_box rfl rfl h0) ?_
  rintro _ w1 ⟨b1, rfl, h1⟩
  replace h1 : St w0 F0 [boxC b1 61 [.int .i64 a0.1, .int .i64 a0.2.1, .int .i64 a0.2.2.1, .int .i64 a0.2.2.2.1, .int .i64 a0.2.2.2.2.1, .int .i64 a0.2.2.2.2.2.1, .int .i64 a0.2.2.2.2.2.2.1, .int .i64 a0.2.2.2.2.2.2.2]] _ _ := h1
  refine RJ.run ttok 1 rfl ?_
  refine RJ.fin [(1, .pointer (some ⟨b1, 0, none⟩))] rfl ?_
  refine J.seq ?_
  refine J.region ?_
  refine RJ.q rfl rfl (q_load_box ttok 0 h1.wht rfl rfl rfl rfl rfl) ?_
  refine RJ.run ttok 1 rfl ?_
  refine RJ.op rfl rfl (op_box rfl rfl h1) ?_
  rintro _ w2 ⟨b2, rfl, h2⟩
  replace h2 : St w0 F0 [boxC b2 132 [.int .i64 a0.1, .int .i64 a0.2.1, .int .i64 a0.2.2.1, .int .i64 a0.2.2.2.1, .int .i64 a0.2.2.2.2.1, .int .i64 a0.2.2.2.2.2.1, .int .i64 a0.2.2.2.2.2.2.1, .int .i64 a0.2.2.2.2.2.2.2, .slice none ([] : List (List UInt8 × List UInt8)).length 0], boxC b1 61 [.int .i64 a0.1, .int .i64 a0.2.1, .int .i64 a0.2.2.1, .int .i64 a0.2.2.2.1, .int .i64 a0.2.2.2.2.1, .int .i64 a0.2.2.2.2.2.1, .int .i64 a0.2.2.2.2.2.2.1, .int .i64 a0.2.2.2.2.2.2.2]] _ _ := h2
  refine RJ.run ttok 1 rfl ?_
  refine RJ.fin [(2, .pointer (some ⟨b2, 0, none⟩))] rfl ?_
  refine J.ret ?_
  have h3 := h2.addNil 75 (.pair .str .str)
  obtain rfl := Option.some.inj H
  exact ⟨_, _, _, (results_slots rfl), ⟨_, _, _, rfl, rfl⟩, h3.only [1, 0] rfl⟩

/-! sluicegate/sluicegatelaw27.Long -/
def sluicegatelaw27_Long.f (a0 : Int × List UInt8 × List UInt8 × Int) : Option (Bool) := if (decide (200 < (a0.2.1.length : Int))) = true then (some true) else (some (decide (400 < (a0.2.2.1.length : Int))))
set_option maxRecDepth 20000 in
set_option maxHeartbeats 40000000 in
theorem sluicegatelaw27_Long.spec {a0 : Int × List UInt8 × List UInt8 × Int}  {r : Bool} (H : sluicegatelaw27_Long.f a0 = some r) :
    Spec Try.prog 32 [.agg #[.int .i64 a0.1, .string ⟨⟨a0.2.1⟩⟩, .string ⟨⟨a0.2.2.1⟩⟩, .int .i64 a0.2.2.2]] [] [] (fun v l => v = .bool r ∧ l = []) := by
  refine Spec.enter Try.func32 rfl (by kernel_rfl) (by kernel_rfl) fun w0 F0 h0 => ?_
  unfold sluicegatelaw27_Long.f at H
  refine J.seq ?_
  refine J.region ?_
  refine RJ.op rfl rfl (op_box rfl rfl h0) ?_
  rintro _ w1 ⟨b1, rfl, h1⟩
  replace h1 : St w0 F0 [boxC b1 64 [.int .i64 a0.1, .string ⟨⟨a0.2.1⟩⟩, .string ⟨⟨a0.2.2.1⟩⟩, .int .i64 a0.2.2.2]] _ _ := h1
  refine RJ.run ttok 1 rfl ?_
  refine RJ.fin [(1, .pointer (some ⟨b1, 0, none⟩))] rfl ?_
  refine J.seq ?_
  refine J.region ?_
  refine RJ.run ttok 1 rfl ?_
  refine RJ.q rfl rfl (q_load_box ttok 0 h1.wht rfl rfl rfl rfl rfl) ?_
  refine RJ.run ttok 3 rfl ?_
  rcases Bool.eq_false_or_eq_true (decide (200 < (a0.2.1.length : Int))) with c1 | c1
  · replace H := ite_t c1 H
    refine RJ.know (t := 7) rfl (congrArg Value.bool c1) ?_
    refine RJ.run ttok 6 rfl ?_
    refine RJ.fin [(2, .bool true)] rfl ?_
    refine J.ret ?_
    obtain rfl := Option.some.inj H
    exact ⟨_, _, _, (results_slots rfl), ⟨rfl, rfl⟩, h1.only [] rfl⟩
  · replace H := ite_f c1 H
    refine RJ.know (t := 7) rfl (congrArg Value.bool c1) ?_
    refine RJ.run ttok 1 rfl ?_
    refine RJ.q rfl rfl (q_load_box ttok 0 h1.wht rfl rfl rfl rfl rfl) ?_
    refine RJ.run ttok 4 rfl ?_
    refine RJ.fin [(2, .bool (decide (400 < (a0.2.2.1.length : Int))))] rfl ?_
    refine J.ret ?_
    obtain rfl := Option.some.inj H
    exact ⟨_, _, _, (results_slots rfl), ⟨rfl, rfl⟩, h1.only [] rfl⟩

/-! sluicegate/node.Key -/
def node_Key.f (a0 : Int × Int × Int × Int × Int × Int × Int × Int) (a1 : List UInt8) : Option (Bool) := if (decide (1 ≤ (a1.length : Int))) = true then (some (decide ((a1.length : Int) ≤ a0.2.2.2.2.2.2.1))) else (some false)
set_option maxRecDepth 20000 in
set_option maxHeartbeats 40000000 in
theorem node_Key.spec {a0 : Int × Int × Int × Int × Int × Int × Int × Int} {a1 : List UInt8}  {r : Bool} (H : node_Key.f a0 a1 = some r) :
    Spec Try.prog 122 [.agg #[.int .i64 a0.1, .int .i64 a0.2.1, .int .i64 a0.2.2.1, .int .i64 a0.2.2.2.1, .int .i64 a0.2.2.2.2.1, .int .i64 a0.2.2.2.2.2.1, .int .i64 a0.2.2.2.2.2.2.1, .int .i64 a0.2.2.2.2.2.2.2], .string ⟨⟨a1⟩⟩] [] [] (fun v l => v = .bool r ∧ l = []) := by
  refine Spec.enter Try.func122 rfl (by kernel_rfl) (by kernel_rfl) fun w0 F0 h0 => ?_
  unfold node_Key.f at H
  refine J.seq ?_
  refine J.region ?_
  refine RJ.op rfl rfl (op_box rfl rfl h0) ?_
  rintro _ w1 ⟨b1, rfl, h1⟩
  replace h1 : St w0 F0 [boxC b1 61 [.int .i64 a0.1, .int .i64 a0.2.1, .int .i64 a0.2.2.1, .int .i64 a0.2.2.2.1, .int .i64 a0.2.2.2.2.1, .int .i64 a0.2.2.2.2.2.1, .int .i64 a0.2.2.2.2.2.2.1, .int .i64 a0.2.2.2.2.2.2.2]] _ _ := h1
  refine RJ.run ttok 1 rfl ?_
  refine RJ.fin [(1, .string ⟨⟨a1⟩⟩), (2, .pointer (some ⟨b1, 0, none⟩))] rfl ?_
  refine J.seq ?_
  refine J.region ?_
  refine RJ.run ttok 4 rfl ?_
  rcases Bool.eq_false_or_eq_true (decide (1 ≤ (a1.length : Int))) with c1 | c1
  · replace H := ite_t c1 H
    refine RJ.know (t := 8) rfl (congrArg Value.bool c1) ?_
    refine RJ.run ttok 3 rfl ?_
    refine RJ.q rfl rfl (q_load_box ttok 0 h1.wht rfl rfl rfl rfl rfl) ?_
    refine RJ.run ttok 3 rfl ?_
    refine RJ.fin [(4, .bool (decide ((a1.length : Int) ≤ a0.2.2.2.2.2.2.1)))] rfl ?_
    refine J.ret ?_
    obtain rfl := Option.some.inj H
    exact ⟨_, _, _, (results_slots rfl), ⟨rfl, rfl⟩, h1.only [] rfl⟩
  · replace H := ite_f c1 H
    refine RJ.know (t := 8) rfl (congrArg Value.bool c1) ?_
    refine RJ.run ttok 7 rfl ?_
    refine RJ.fin [(4, .bool false)] rfl ?_
    refine J.ret ?_
    obtain rfl := Option.some.inj H
    exact ⟨_, _, _, (results_slots rfl), ⟨rfl, rfl⟩, h1.only [] rfl⟩

/-! (*sluicegate/truth.Truth).may -/
def truth_Truth_may.f (a0 : (Int × Int × Int × Int × Int × Int × Int × Int) × (List (List UInt8 × List UInt8))) (a1 : Int × List UInt8 × List UInt8 × Int) : Option (Bool) := (node_Key.f (a0.1.1, a0.1.2.1, a0.1.2.2.1, a0.1.2.2.2.1, a0.1.2.2.2.2.1, a0.1.2.2.2.2.2.1, a0.1.2.2.2.2.2.2.1, a0.1.2.2.2.2.2.2.2) a1.2.1).bind fun r1 => (if r1 = true then (if (!decide (a1.1 = 1)) = true then (some true) else (some (decide ((a1.2.2.1.length : Int) ≤ a0.1.2.2.2.2.2.2.2)))) else (some false))
set_option maxRecDepth 20000 in
set_option maxHeartbeats 40000000 in
theorem truth_Truth_may.spec {a0 : (Int × Int × Int × Int × Int × Int × Int × Int) × (List (List UInt8 × List UInt8))} {a1 : Int × List UInt8 × List UInt8 × Int} {b1 : Nat} {A1 : Option Addr} {c_1 : Nat} {r : Bool} (H : truth_Truth_may.f a0 a1 = some r) :
    Spec Try.prog 74 [.pointer (some ⟨b1, 0, none⟩), .agg #[.int .i64 a1.1, .string ⟨⟨a1.2.1⟩⟩, .string ⟨⟨a1.2.2.1⟩⟩, .int .i64 a1.2.2.2]] [boxC b1 132 [.int .i64 a0.1.1, .int .i64 a0.1.2.1, .int .i64 a0.1.2.2.1, .int .i64 a0.1.2.2.2.1, .int .i64 a0.1.2.2.2.2.1, .int .i64 a0.1.2.2.2.2.2.1, .int .i64 a0.1.2.2.2.2.2.2.1, .int .i64 a0.1.2.2.2.2.2.2.2, .slice A1 a0.2.length c_1], ownC 75 (.pair .str .str) a0.2 (.slice A1 a0.2.length c_1)] [] (fun v l => v = .bool r ∧ l = [boxC b1 132 [.int .i64 a0.1.1, .int .i64 a0.1.2.1, .int .i64 a0.1.2.2.1, .int .i64 a0.1.2.2.2.1, .int .i64 a0.1.2.2.2.2.1, .int .i64 a0.1.2.2.2.2.2.1, .int .i64 a0.1.2.2.2.2.2.2.1, .int .i64 a0.1.2.2.2.2.2.2.2, .slice A1 a0.2.length c_1], ownC 75 (.pair .str .str) a0.2 (.slice A1 a0.2.length c_1)]) := by
  refine Spec.enter Try.func74 rfl (by kernel_rfl) (by kernel_rfl) fun w0 F0 h0 => ?_
  unfold truth_Truth_may.f at H
  refine J.seq ?_
  refine J.region ?_
  refine RJ.op rfl rfl (op_box rfl rfl h0) ?_
  rintro _ w1 ⟨b2, rfl, h1⟩
  replace h1 : St w0 F0 [boxC b2 64 [.int .i64 a1.1, .string ⟨⟨a1.2.1⟩⟩, .string ⟨⟨a1.2.2.1⟩⟩, .int .i64 a1.2.2.2], boxC b1 132 [.int .i64 a0.1.1, .int .i64 a0.1.2.1, .int .i64 a0.1.2.2.1, .int .i64 a0.1.2.2.2.1, .int .i64 a0.1.2.2.2.2.1, .int .i64 a0.1.2.2.2.2.2.1, .int .i64 a0.1.2.2.2.2.2.2.1, .int .i64 a0.1.2.2.2.2.2.2.2, .slice A1 a0.2.length c_1], ownC 75 (.pair .str .str) a0.2 (.slice A1 a0.2.length c_1)] _ _ := h1
  refine RJ.run ttok 1 rfl ?_
  refine RJ.fin [(0, .pointer (some ⟨b1, 0, none⟩)), (3, .pointer (some ⟨b2, 0, none⟩))] rfl ?_
  refine J.seq ?_
  refine J.heldSt mix h1 ?_
  have h2 := h1.drew
  refine HJ.run ttok rfl [0, 1, 2, 4] rfl ?_
  refine HJ.q (i := 3) rfl rfl rfl rfl rfl rfl (q_load_box ttok 1 (fun w e => e) rfl rfl rfl rfl rfl) ?_
  refine HJ.q (i := 5) rfl rfl rfl rfl rfl rfl (q_load_box ttok 0 (fun w e => e) rfl rfl rfl rfl rfl) ?_
  obtain ⟨r1, q1, H⟩ := bind_t H
  refine HJ.op (i := 6) rfl rfl rfl rfl rfl (op_call [] (node_Key.spec q1) rfl rfl rfl h2 rfl gnil) ?_
  rintro _ w2 ⟨_, ⟨rfl, rfl⟩, h3⟩
  replace h3 : St w0 F0 [boxC b2 64 [.int .i64 a1.1, .string ⟨⟨a1.2.1⟩⟩, .string ⟨⟨a1.2.2.1⟩⟩, .int .i64 a1.2.2.2], boxC b1 132 [.int .i64 a0.1.1, .int .i64 a0.1.2.1, .int .i64 a0.1.2.2.1, .int .i64 a0.1.2.2.2.1, .int .i64 a0.1.2.2.2.2.1, .int .i64 a0.1.2.2.2.2.2.1, .int .i64 a0.1.2.2.2.2.2.2.1, .int .i64 a0.1.2.2.2.2.2.2.2, .slice A1 a0.2.length c_1], ownC 75 (.pair .str .str) a0.2 (.slice A1 a0.2.length c_1)] _ _ := h3
  refine ⟨⟨[], h3⟩, ?_⟩
  refine HJ.run ttok rfl [7] rfl ?_
  rcases Bool.eq_false_or_eq_true r1 with c1 | c1
  · replace H := ite_t c1 H
    refine HJ.know (t := 12) rfl (congrArg Value.bool c1) ?_
    refine HJ.run ttok rfl [8] rfl ?_
    refine HJ.q (i := 9) rfl rfl rfl rfl rfl rfl (q_load_box ttok 0 (fun w e => e) rfl rfl rfl rfl rfl) ?_
    refine HJ.run ttok rfl [10, 11] rfl ?_
    rcases Bool.eq_false_or_eq_true (!decide (a1.1 = 1)) with c2 | c2
    · replace H := ite_t c2 H
      refine HJ.know (t := 16) rfl (congrArg Value.bool c2) ?_
      refine HJ.run ttok rfl [12, 13, 14, 15, 16, 17, 18, 19, 20, 21, 22, 23] rfl ?_
      refine HJ.fin [(4, .bool true)] rfl rfl ?_
      refine J.ret ?_
      obtain rfl := Option.some.inj H
      exact ⟨_, _, _, (results_slots rfl), ⟨rfl, rfl⟩, h3.only [1, 1] rfl⟩
    · replace H := ite_f c2 H
      refine HJ.know (t := 16) rfl (congrArg Value.bool c2) ?_
      refine HJ.run ttok rfl [12, 15, 16, 17, 18] rfl ?_
      refine HJ.q (i := 13) rfl rfl rfl rfl rfl rfl (q_load_box ttok 0 (fun w e => e) rfl rfl rfl rfl rfl) ?_
      refine HJ.run ttok rfl [14] rfl ?_
      refine HJ.q (i := 19) rfl rfl rfl rfl rfl rfl (q_load_box ttok 1 (fun w e => e) rfl rfl rfl rfl rfl) ?_
      refine HJ.run ttok rfl [20, 21, 22, 23] rfl ?_
      refine HJ.fin [(4, .bool (decide ((a1.2.2.1.length : Int) ≤ a0.1.2.2.2.2.2.2.2)))] rfl rfl ?_
      refine J.ret ?_
      obtain rfl := Option.some.inj H
      exact ⟨_, _, _, (results_slots rfl), ⟨rfl, rfl⟩, h3.only [1, 1] rfl⟩
  · replace H := ite_f c1 H
    refine HJ.know (t := 12) rfl (congrArg Value.bool c1) ?_
    refine HJ.run ttok rfl [8, 9, 10, 11, 12, 13, 14, 15, 16, 17, 18, 19, 20, 21, 22, 23] rfl ?_
    refine HJ.fin [(4, .bool false)] rfl rfl ?_
    refine J.ret ?_
    obtain rfl := Option.some.inj H
    exact ⟨_, _, _, (results_slots rfl), ⟨rfl, rfl⟩, h3.only [1, 1] rfl⟩

/-! internal/bytealg.CompareString -/
def bytealg_CompareString.f (a0 : List UInt8) (a1 : List UInt8) : Option (Int) := some (scmp a0 a1)
set_option maxRecDepth 20000 in
set_option maxHeartbeats 40000000 in
theorem bytealg_CompareString.spec {a0 : List UInt8} {a1 : List UInt8}  {r : Int} (H : bytealg_CompareString.f a0 a1 = some r) :
    Spec Try.prog 158 [.string ⟨⟨a0⟩⟩, .string ⟨⟨a1⟩⟩] [] [] (fun v l => v = .int .i64 r ∧ l = []) := by
  refine Spec.enter Try.func158 rfl (by kernel_rfl) (by kernel_rfl) fun w0 F0 h0 => ?_
  unfold bytealg_CompareString.f at H
  refine J.seq ?_
  refine J.region ?_
  refine RJ.run ttok 1 rfl ?_
  refine RJ.fin [(0, .string ⟨⟨a0⟩⟩), (1, .string ⟨⟨a1⟩⟩)] rfl ?_
  refine J.seq ?_
  refine J.region ?_
  refine RJ.run ttok 2 rfl ?_
  refine RJ.q rfl rfl (q_cmpstr cmpstr rfl rfl rfl) ?_
  refine RJ.run ttok 1 rfl ?_
  refine RJ.fin [(4, .int .i64 (scmp a0 a1))] rfl ?_
  refine J.ret ?_
  obtain rfl := Option.some.inj H
  exact ⟨_, _, _, (results_slots rfl), ⟨rfl, rfl⟩, h0.only [] rfl⟩

/-! strings.Compare -/
def strings_Compare.f (a0 : List UInt8) (a1 : List UInt8) : Option (Int) := (bytealg_CompareString.f a0 a1).bind fun r1 => (some r1)
set_option maxRecDepth 20000 in
set_option maxHeartbeats 40000000 in
theorem strings_Compare.spec {a0 : List UInt8} {a1 : List UInt8}  {r : Int} (H : strings_Compare.f a0 a1 = some r) :
    Spec Try.prog 123 [.string ⟨⟨a0⟩⟩, .string ⟨⟨a1⟩⟩] [] [] (fun v l => v = .int .i64 r ∧ l = []) := by
  refine Spec.enter Try.func123 rfl (by kernel_rfl) (by kernel_rfl) fun w0 F0 h0 => ?_
  unfold strings_Compare.f at H
  refine J.seq ?_
  refine J.region ?_
  refine RJ.run ttok 1 rfl ?_
  refine RJ.fin [(0, .string ⟨⟨a0⟩⟩), (1, .string ⟨⟨a1⟩⟩)] rfl ?_
  refine J.seq ?_
  refine J.region ?_
  refine RJ.run ttok 2 rfl ?_
  obtain ⟨r1, q1, H⟩ := bind_t H
  refine RJ.op rfl rfl (op_call [] (bytealg_CompareString.spec q1) rfl rfl rfl h0 rfl gnil) ?_
  rintro _ w1 ⟨_, ⟨rfl, rfl⟩, h1⟩
  replace h1 : St w0 F0 [] _ _ := h1
  refine RJ.run ttok 1 rfl ?_
  refine RJ.fin [(4, .int .i64 r1)] rfl ?_
  refine J.ret ?_
  obtain rfl := Option.some.inj H
  exact ⟨_, _, _, (results_slots rfl), ⟨rfl, rfl⟩, h1.only [] rfl⟩

/-! sluicegate/lex.Compare -/
def lex_Compare.f (a0 : List UInt8) (a1 : List UInt8) : Option (Int) := (strings_Compare.f a0 a1).bind fun r1 => (some r1)
set_option maxRecDepth 20000 in
set_option maxHeartbeats 40000000 in
theorem lex_Compare.spec {a0 : List UInt8} {a1 : List UInt8}  {r : Int} (H : lex_Compare.f a0 a1 = some r) :
    Spec Try.prog 75 [.string ⟨⟨a0⟩⟩, .string ⟨⟨a1⟩⟩] [] [] (fun v l => v = .int .i64 r ∧ l = []) := by
  refine Spec.enter Try.func75 rfl (by kernel_rfl) (by kernel_rfl) fun w0 F0 h0 => ?_
  unfold lex_Compare.f at H
  refine J.seq ?_
  refine J.region ?_
  refine RJ.run ttok 1 rfl ?_
  refine RJ.fin [(0, .string ⟨⟨a0⟩⟩), (1, .string ⟨⟨a1⟩⟩)] rfl ?_
  refine J.seq ?_
  refine J.region ?_
  refine RJ.run ttok 2 rfl ?_
  obtain ⟨r1, q1, H⟩ := bind_t H
  refine RJ.op rfl rfl (op_call [] (strings_Compare.spec q1) rfl rfl rfl h0 rfl gnil) ?_
  rintro _ w1 ⟨_, ⟨rfl, rfl⟩, h1⟩
  replace h1 : St w0 F0 [] _ _ := h1
  refine RJ.run ttok 1 rfl ?_
  refine RJ.fin [(4, .int .i64 r1)] rfl ?_
  refine J.ret ?_
  obtain rfl := Option.some.inj H
  exact ⟨_, _, _, (results_slots rfl), ⟨rfl, rfl⟩, h1.only [] rfl⟩

/-! sluicegate/leaf.compare -/
def leaf_compare.f (a0 : List UInt8 × List UInt8) (a1 : List UInt8) : Option (Int) := (lex_Compare.f a0.1 a1).bind fun r1 => (some r1)
set_option maxRecDepth 20000 in
set_option maxHeartbeats 40000000 in
theorem leaf_compare.spec {a0 : List UInt8 × List UInt8} {a1 : List UInt8}  {r : Int} (H : leaf_compare.f a0 a1 = some r) :
    Spec Try.prog 119 [.agg #[.string ⟨⟨a0.1⟩⟩, .string ⟨⟨a0.2⟩⟩], .string ⟨⟨a1⟩⟩] [] [] (fun v l => v = .int .i64 r ∧ l = []) := by
  refine Spec.enter Try.func119 rfl (by kernel_rfl) (by kernel_rfl) fun w0 F0 h0 => ?_
  unfold leaf_compare.f at H
  refine J.seq ?_
  refine J.region ?_
  refine RJ.op rfl rfl (op_box rfl rfl h0) ?_
  rintro _ w1 ⟨b1, rfl, h1⟩
  replace h1 : St w0 F0 [boxC b1 75 [.string ⟨⟨a0.1⟩⟩, .string ⟨⟨a0.2⟩⟩]] _ _ := h1
  refine RJ.run ttok 1 rfl ?_
  refine RJ.fin [(1, .string ⟨⟨a1⟩⟩), (2, .pointer (some ⟨b1, 0, none⟩))] rfl ?_
  refine J.seq ?_
  refine J.region ?_
  refine RJ.run ttok 1 rfl ?_
  refine RJ.q rfl rfl (q_load_box ttok 0 h1.wht rfl rfl rfl rfl rfl) ?_
  refine RJ.run ttok 1 rfl ?_
  obtain ⟨r1, q1, H⟩ := bind_t H
  refine RJ.op rfl rfl (op_call [] (lex_Compare.spec q1) rfl rfl rfl h1 rfl gnil) ?_
  rintro _ w2 ⟨_, ⟨rfl, rfl⟩, h2⟩
  replace h2 : St w0 F0 [boxC b1 75 [.string ⟨⟨a0.1⟩⟩, .string ⟨⟨a0.2⟩⟩]] _ _ := h2
  refine RJ.run ttok 1 rfl ?_
  refine RJ.fin [(4, .int .i64 r1)] rfl ?_
  refine J.ret ?_
  obtain rfl := Option.some.inj H
  exact ⟨_, _, _, (results_slots rfl), ⟨rfl, rfl⟩, h2.only [] rfl⟩

/-! slices.BinarySearchFunc[[]sluicegate/api.Pair,sluicegate/api.Pair,string] -/
def slices_BinarySearchFunc_api_Pair_api_Pair_string_leaf_compare.l0 : Nat → (List (List UInt8 × List UInt8)) → (List UInt8) → (Int) → (Int) → Option (Int × Bool)
  | 0, _, _, _, _ => none
  | k + 1, a0, a1, x1, x2 => if (decide (x1 < x2)) = true then (if 0 ≤ (w64 ((Int.fdiv (IntKind.u64.wrap ((w64 (x1 + x2)))) (2 ^ 1)))) ∧ (w64 ((Int.fdiv (IntKind.u64.wrap ((w64 (x1 + x2)))) (2 ^ 1)))) < (a0.length : Int) then ((leaf_compare.f ((gt a0 (w64 ((Int.fdiv (IntKind.u64.wrap ((w64 (x1 + x2)))) (2 ^ 1))))).1, (gt a0 (w64 ((Int.fdiv (IntKind.u64.wrap ((w64 (x1 + x2)))) (2 ^ 1))))).2) a1).bind fun r1 => (if (decide (r1 < 0)) = true then (slices_BinarySearchFunc_api_Pair_api_Pair_string_leaf_compare.l0 k a0 a1 (w64 ((w64 ((Int.fdiv (IntKind.u64.wrap ((w64 (x1 + x2)))) (2 ^ 1)))) + 1)) x2) else (slices_BinarySearchFunc_api_Pair_api_Pair_string_leaf_compare.l0 k a0 a1 x1 (w64 ((Int.fdiv (IntKind.u64.wrap ((w64 (x1 + x2)))) (2 ^ 1))))))) else none) else (if (decide (x1 < (a0.length : Int))) = true then (if 0 ≤ x1 ∧ x1 < (a0.length : Int) then ((leaf_compare.f ((gt a0 x1).1, (gt a0 x1).2) a1).bind fun r2 => (some (x1, (decide (r2 = 0))))) else none) else (some (x1, false)))
def slices_BinarySearchFunc_api_Pair_api_Pair_string_leaf_compare.f (k : Nat) (a0 : List (List UInt8 × List UInt8)) (a1 : List UInt8) : Option (Int × Bool) := slices_BinarySearchFunc_api_Pair_api_Pair_string_leaf_compare.l0 k a0 a1 0 (a0.length : Int)
set_option maxRecDepth 20000 in
set_option maxHeartbeats 40000000 in
theorem slices_BinarySearchFunc_api_Pair_api_Pair_string_leaf_compare.spec {k : Nat} {a0 : List (List UInt8 × List UInt8)} {a1 : List UInt8} {A1 : Option Addr} {c_1 : Nat} {r : Int × Bool} (H : slices_BinarySearchFunc_api_Pair_api_Pair_string_leaf_compare.f k a0 a1 = some r) :
    Spec Try.prog 118 [.slice A1 a0.length c_1, .string ⟨⟨a1⟩⟩, .func (.func 119) #[] #[]] [] [rdC 75 (.pair .str .str) a0 (.slice A1 a0.length c_1)] (fun v l => v = .tuple #[.int .i64 r.1, .bool r.2] ∧ l = []) := by
  refine Spec.enter Try.func118 rfl (by kernel_rfl) (by kernel_rfl) fun w0 F0 h0 => ?_
  unfold slices_BinarySearchFunc_api_Pair_api_Pair_string_leaf_compare.f at H
  refine J.seq ?_
  refine J.region ?_
  refine RJ.run ttok 2 rfl ?_
  refine RJ.fin [(0, .slice A1 a0.length c_1), (1, .string ⟨⟨a1⟩⟩), (2, .func (.func 119) #[] #[])] rfl ?_
  refine J.seq ?_
  refine J.region ?_
  refine RJ.run ttok 3 rfl ?_
  refine RJ.fin [(0, .slice A1 a0.length c_1), (1, .string ⟨⟨a1⟩⟩), (2, .func (.func 119) #[] #[]), (8, .int .i64 (a0.length : Int))] rfl ?_
  refine J.seq ?_
  refine J.region ?_
  refine RJ.run ttok 3 rfl ?_
  refine RJ.fin [(0, .slice A1 a0.length c_1), (1, .string ⟨⟨a1⟩⟩), (2, .func (.func 119) #[] #[]), (8, .int .i64 (a0.length : Int)), (9, .int .i64 0), (10, .int .i64 (a0.length : Int))] rfl ?_
  refine J.seq ?_
  refine J.block ?_
  have h6 := ((h0.only [] rfl).rds [0] rfl)
  refine J.loop (fun k env w => ∃ (x1 : Int) (x2 : Int), env = [(0, .slice A1 a0.length c_1), (1, .string ⟨⟨a1⟩⟩), (2, .func (.func 119) #[] #[]), (8, .int .i64 (a0.length : Int)), (9, .int .i64 x1), (10, .int .i64 x2)] ∧ St w0 F0 [] [rdC 75 (.pair .str .str) a0 (.slice A1 a0.length c_1)] w ∧ slices_BinarySearchFunc_api_Pair_api_Pair_string_leaf_compare.l0 k a0 a1 x1 x2 = some r) (k := k) ⟨0, (a0.length : Int), rfl, h6, H⟩ ?_
  rintro k1 env w1 ⟨x1, x2, rfl, h1, H⟩
  cases k1 with
  | zero => exact nomatch (show none = some r from H)
  | succ k1 =>
    rw [slices_BinarySearchFunc_api_Pair_api_Pair_string_leaf_compare.l0] at H
    refine J.seq ?_
    refine J.seq ?_
    refine J.region ?_
    refine RJ.run ttok 3 rfl ?_
    refine RJ.fin [(0, .slice A1 a0.length c_1), (1, .string ⟨⟨a1⟩⟩), (2, .func (.func 119) #[] #[]), (8, .int .i64 (a0.length : Int)), (9, .int .i64 x1), (10, .int .i64 x2), (17, .bool (decide (x1 < x2)))] rfl ?_
    refine J.cond rfl (fun c1 => ?_) (fun c1 => ?_)
    · replace H := ite_t c1 H
      refine J.skip ?_
      refine J.block ?_
      refine J.seq ?_
      refine J.region ?_
      refine RJ.run ttok 7 rfl ?_
      refine RJ.fin [(0, .slice A1 a0.length c_1), (1, .string ⟨⟨a1⟩⟩), (2, .func (.func 119) #[] #[]), (8, .int .i64 (a0.length : Int)), (9, .int .i64 x1), (10, .int .i64 x2), (11, .int .i64 (w64 ((Int.fdiv (IntKind.u64.wrap ((w64 (x1 + x2)))) (2 ^ 1)))))] rfl ?_
      refine J.seq ?_
      refine J.region ?_
      refine RJ.run ttok 3 rfl ?_
      obtain ⟨⟨p1, p2⟩, H⟩ := guard_t H
      have e1 := elem_A h1.wh (Gives.self 0 rfl) p1 p2
      refine RJ.q rfl rfl (q_index ttok rfl rfl rfl rfl rfl e1 p1 p2) ?_
      refine RJ.q rfl rfl (q_load_elem (f := 0) ttok rfl h1.wht (Gives.self 0 rfl) p1 p2 rfl rfl rfl rfl rfl) ?_
      refine RJ.run ttok 1 rfl ?_
      obtain ⟨r1, q1, H⟩ := bind_t H
      refine RJ.op rfl rfl (op_call [] (leaf_compare.spec q1) rfl rfl rfl h1 rfl gnil) ?_
      rintro _ w2 ⟨_, ⟨rfl, rfl⟩, h2⟩
      replace h2 : St w0 F0 [] _ _ := h2
      refine RJ.run ttok 1 rfl ?_
      refine RJ.fin [(0, .slice A1 a0.length c_1), (1, .string ⟨⟨a1⟩⟩), (2, .func (.func 119) #[] #[]), (8, .int .i64 (a0.length : Int)), (9, .int .i64 x1), (10, .int .i64 x2), (11, .int .i64 (w64 ((Int.fdiv (IntKind.u64.wrap ((w64 (x1 + x2)))) (2 ^ 1))))), (31, .bool (decide (r1 < 0)))] rfl ?_
      refine J.cond rfl (fun c2 => ?_) (fun c2 => ?_)
      · replace H := ite_t c2 H
        refine J.region ?_
        refine RJ.run ttok 3 rfl ?_
        refine RJ.fin [(0, .slice A1 a0.length c_1), (1, .string ⟨⟨a1⟩⟩), (2, .func (.func 119) #[] #[]), (8, .int .i64 (a0.length : Int)), (9, .int .i64 (w64 ((w64 ((Int.fdiv (IntKind.u64.wrap ((w64 (x1 + x2)))) (2 ^ 1)))) + 1))), (10, .int .i64 x2)] rfl ?_
        have h3 := ((h2.only [] rfl).rds [0] rfl)
        exact ⟨k1, by omega, (w64 ((w64 ((Int.fdiv (IntKind.u64.wrap ((w64 (x1 + x2)))) (2 ^ 1)))) + 1)), x2, rfl, h3, H⟩
      · replace H := ite_f c2 H
        refine J.region ?_
        refine RJ.run ttok 2 rfl ?_
        refine RJ.fin [(0, .slice A1 a0.length c_1), (1, .string ⟨⟨a1⟩⟩), (2, .func (.func 119) #[] #[]), (8, .int .i64 (a0.length : Int)), (9, .int .i64 x1), (10, .int .i64 (w64 ((Int.fdiv (IntKind.u64.wrap ((w64 (x1 + x2)))) (2 ^ 1)))))] rfl ?_
        have h4 := ((h2.only [] rfl).rds [0] rfl)
        exact ⟨k1, by omega, x1, (w64 ((Int.fdiv (IntKind.u64.wrap ((w64 (x1 + x2)))) (2 ^ 1)))), rfl, h4, H⟩
    · replace H := ite_f c1 H
      refine J.exit ?_
      refine J.seq ?_
      refine J.region ?_
      refine RJ.run ttok 5 rfl ?_
      rcases Bool.eq_false_or_eq_true (decide (x1 < (a0.length : Int))) with c3 | c3
      · replace H := ite_t c3 H
        refine RJ.know (t := 39) rfl (congrArg Value.bool c3) ?_
        refine RJ.run ttok 3 rfl ?_
        obtain ⟨⟨p3, p4⟩, H⟩ := guard_t H
        have e2 := elem_A h1.wh (Gives.self 0 rfl) p3 p4
        refine RJ.q rfl rfl (q_index ttok rfl rfl rfl rfl rfl e2 p3 p4) ?_
        refine RJ.q rfl rfl (q_load_elem (f := 0) ttok rfl h1.wht (Gives.self 0 rfl) p3 p4 rfl rfl rfl rfl rfl) ?_
        refine RJ.run ttok 1 rfl ?_
        obtain ⟨r2, q2, H⟩ := bind_t H
        refine RJ.op rfl rfl (op_call [] (leaf_compare.spec q2) rfl rfl rfl h1 rfl gnil) ?_
        rintro _ w3 ⟨_, ⟨rfl, rfl⟩, h5⟩
        replace h5 : St w0 F0 [] _ _ := h5
        refine RJ.run ttok 4 rfl ?_
        refine RJ.fin [(6, .int .i64 x1), (7, .bool (decide (r2 = 0)))] rfl ?_
        refine J.ret ?_
        obtain rfl := Option.some.inj H
        exact ⟨_, _, _, (results_slots rfl), ⟨rfl, rfl⟩, h5.only [] rfl⟩
      · replace H := ite_f c3 H
        refine RJ.know (t := 39) rfl (congrArg Value.bool c3) ?_
        refine RJ.run ttok 11 rfl ?_
        refine RJ.fin [(6, .int .i64 x1), (7, .bool false)] rfl ?_
        refine J.ret ?_
        obtain rfl := Option.some.inj H
        exact ⟨_, _, _, (results_slots rfl), ⟨rfl, rfl⟩, h1.only [] rfl⟩

/-! sluicegate/leaf.Get -/
def leaf_Get.f (k : Nat) (a0 : List (List UInt8 × List UInt8)) (a1 : List UInt8) : Option (List UInt8 × Bool) := (slices_BinarySearchFunc_api_Pair_api_Pair_string_leaf_compare.f k a0 a1).bind fun r1 => (if (!r1.2) = true then (some (([] : List UInt8), false)) else (if 0 ≤ r1.1 ∧ r1.1 < (a0.length : Int) then (some ((gt a0 r1.1).2, true)) else none))
set_option maxRecDepth 20000 in
set_option maxHeartbeats 40000000 in
theorem leaf_Get.spec {k : Nat} {a0 : List (List UInt8 × List UInt8)} {a1 : List UInt8} {A1 : Option Addr} {c_1 : Nat} {r : List UInt8 × Bool} (H : leaf_Get.f k a0 a1 = some r) :
    Spec Try.prog 77 [.slice A1 a0.length c_1, .string ⟨⟨a1⟩⟩] [] [rdC 75 (.pair .str .str) a0 (.slice A1 a0.length c_1)] (fun v l => v = .tuple #[.string ⟨⟨r.1⟩⟩, .bool r.2] ∧ l = []) := by
  refine Spec.enter Try.func77 rfl (by kernel_rfl) (by kernel_rfl) fun w0 F0 h0 => ?_
  unfold leaf_Get.f at H
  refine J.seq ?_
  refine J.region ?_
  refine RJ.run ttok 2 rfl ?_
  refine RJ.fin [(0, .slice A1 a0.length c_1), (1, .string ⟨⟨a1⟩⟩)] rfl ?_
  refine J.seq ?_
  refine J.region ?_
  refine RJ.run ttok 2 rfl ?_
  obtain ⟨r1, q1, H⟩ := bind_t H
  refine RJ.op rfl rfl (op_call [] (slices_BinarySearchFunc_api_Pair_api_Pair_string_leaf_compare.spec q1) rfl rfl rfl h0 rfl (gcons (Gives.self 0 rfl) gnil)) ?_
  rintro _ w1 ⟨_, ⟨rfl, rfl⟩, h1⟩
  replace h1 : St w0 F0 [] _ _ := h1
  refine RJ.run ttok 5 rfl ?_
  refine RJ.fin [(0, .slice A1 a0.length c_1), (6, .int .i64 r1.1), (7, .bool r1.2)] rfl ?_
  refine J.seq ?_
  refine J.seq ?_
  refine J.region ?_
  refine RJ.run ttok 2 rfl ?_
  refine RJ.fin [(0, .slice A1 a0.length c_1), (6, .int .i64 r1.1), (15, .bool (!r1.2))] rfl ?_
  refine J.cond rfl (fun c1 => ?_) (fun c1 => ?_)
  · replace H := ite_t c1 H
    refine J.seq ?_
    refine J.region ?_
    refine RJ.run ttok 2 rfl ?_
    refine RJ.fin [(4, .string ⟨⟨([] : List UInt8)⟩⟩), (5, .bool false)] rfl ?_
    refine J.ret ?_
    obtain rfl := Option.some.inj H
    exact ⟨_, _, _, (results_slots rfl), ⟨rfl, rfl⟩, h1.only [] rfl⟩
  · replace H := ite_f c1 H
    refine J.skip ?_
    refine J.seq ?_
    refine J.region ?_
    refine RJ.run ttok 2 rfl ?_
    obtain ⟨⟨p1, p2⟩, H⟩ := guard_t H
    have e1 := elem_A h1.wh (Gives.self 0 rfl) p1 p2
    refine RJ.q rfl rfl (q_index ttok rfl rfl rfl rfl rfl e1 p1 p2) ?_
    refine RJ.run ttok 1 rfl ?_
    refine RJ.q rfl rfl (q_load_elem (f := 1) ttok rfl h1.wht (Gives.self 0 rfl) p1 p2 rfl rfl rfl rfl rfl) ?_
    refine RJ.run ttok 2 rfl ?_
    refine RJ.fin [(4, .string ⟨⟨(gt a0 r1.1).2⟩⟩), (5, .bool true)] rfl ?_
    refine J.ret ?_
    obtain rfl := Option.some.inj H
    exact ⟨_, _, _, (results_slots rfl), ⟨rfl, rfl⟩, h1.only [] rfl⟩

/-! sluicegate/lex.Empty -/
def lex_Empty.f (a0 : List UInt8 × List UInt8 × Bool) : Option (Bool) := if (!a0.2.2) = true then (some (Op.bytesLess a0.2.1 a0.1 || decide (a0.2.1 = a0.1))) else (some false)
set_option maxRecDepth 20000 in
set_option maxHeartbeats 40000000 in
theorem lex_Empty.spec {a0 : List UInt8 × List UInt8 × Bool}  {r : Bool} (H : lex_Empty.f a0 = some r) :
    Spec Try.prog 124 [.agg #[.string ⟨⟨a0.1⟩⟩, .string ⟨⟨a0.2.1⟩⟩, .bool a0.2.2]] [] [] (fun v l => v = .bool r ∧ l = []) := by
  refine Spec.enter Try.func124 rfl (by kernel_rfl) (by kernel_rfl) fun w0 F0 h0 => ?_
  unfold lex_Empty.f at H
  refine J.seq ?_
  refine J.region ?_
  refine RJ.op rfl rfl (op_box rfl rfl h0) ?_
  rintro _ w1 ⟨b1, rfl, h1⟩
  replace h1 : St w0 F0 [boxC b1 93 [.string ⟨⟨a0.1⟩⟩, .string ⟨⟨a0.2.1⟩⟩, .bool a0.2.2]] _ _ := h1
  refine RJ.run ttok 1 rfl ?_
  refine RJ.fin [(1, .pointer (some ⟨b1, 0, none⟩))] rfl ?_
  refine J.seq ?_
  refine J.region ?_
  refine RJ.run ttok 1 rfl ?_
  refine RJ.q rfl rfl (q_load_box ttok 0 h1.wht rfl rfl rfl rfl rfl) ?_
  refine RJ.run ttok 2 rfl ?_
  rcases Bool.eq_false_or_eq_true (!a0.2.2) with c1 | c1
  · replace H := ite_t c1 H
    refine RJ.know (t := 6) rfl (congrArg Value.bool c1) ?_
    refine RJ.run ttok 1 rfl ?_
    refine RJ.q rfl rfl (q_load_box ttok 0 h1.wht rfl rfl rfl rfl rfl) ?_
    refine RJ.run ttok 1 rfl ?_
    refine RJ.q rfl rfl (q_load_box ttok 0 h1.wht rfl rfl rfl rfl rfl) ?_
    refine RJ.run ttok 3 rfl ?_
    refine RJ.fin [(2, .bool (Op.bytesLess a0.2.1 a0.1 || decide (a0.2.1 = a0.1)))] rfl ?_
    refine J.ret ?_
    obtain rfl := Option.some.inj H
    exact ⟨_, _, _, (results_slots rfl), ⟨rfl, rfl⟩, h1.only [] rfl⟩
  · replace H := ite_f c1 H
    refine RJ.know (t := 6) rfl (congrArg Value.bool c1) ?_
    refine RJ.run ttok 7 rfl ?_
    refine RJ.fin [(2, .bool false)] rfl ?_
    refine J.ret ?_
    obtain rfl := Option.some.inj H
    exact ⟨_, _, _, (results_slots rfl), ⟨rfl, rfl⟩, h1.only [] rfl⟩

/-! slices.Clone[[]sluicegate/api.Pair,sluicegate/api.Pair] -/
def slices_Clone_api_Pair_api_Pair.f (a0 : List (List UInt8 × List UInt8)) : Option ((List (List UInt8 × List UInt8))) := if (([] : List (List UInt8 × List UInt8)).length + a0.length) * 32 ≤ 140737488355328 then (some (([] : List (List UInt8 × List UInt8)) ++ a0)) else none
set_option maxRecDepth 20000 in
set_option maxHeartbeats 40000000 in
theorem slices_Clone_api_Pair_api_Pair.spec {a0 : List (List UInt8 × List UInt8)} {A1 : Option Addr} {c_1 : Nat} {r : (List (List UInt8 × List UInt8))} (H : slices_Clone_api_Pair_api_Pair.f a0 = some r) :
    Spec Try.prog 73 [.slice A1 a0.length c_1] [] [rdC 75 (.pair .str .str) a0 (.slice A1 a0.length c_1)] (fun v l => ∃ (A_0 : Option Addr) (c_0 : Nat), v = .slice A_0 r.length c_0 ∧ l = [ownC 75 (.pair .str .str) r (.slice A_0 r.length c_0)]) := by
  refine Spec.enter Try.func73 rfl (by kernel_rfl) (by kernel_rfl) fun w0 F0 h0 => ?_
  unfold slices_Clone_api_Pair_api_Pair.f at H
  refine J.seq ?_
  refine J.region ?_
  refine RJ.run ttok 1 rfl ?_
  refine RJ.fin [(0, .slice A1 a0.length c_1)] rfl ?_
  refine J.seq ?_
  refine J.seq ?_
  refine J.region ?_
  refine RJ.run ttok 2 rfl ?_
  refine RJ.fin [(0, .slice A1 a0.length c_1), (4, .bool A1.isNone)] rfl ?_
  refine J.cond rfl (fun c1 => ?_) (fun c1 => ?_)
  · have e1 := h0.nilrow (Gives.self 0 rfl) (by simpa using c1)
    replace H : (some ([] : List (List UInt8 × List UInt8))) = some r := by rw [e1] at H; simpa using H
    refine J.seq ?_
    refine J.region ?_
    refine RJ.run ttok 1 rfl ?_
    refine RJ.fin [(2, .slice none ([] : List (List UInt8 × List UInt8)).length 0)] rfl ?_
    refine J.ret ?_
    have h1 := h0.addNil 75 (.pair .str .str)
    obtain rfl := Option.some.inj H
    exact ⟨_, _, _, (results_slots rfl), ⟨_, _, rfl, rfl⟩, h1.only [0] rfl⟩
  · refine J.skip ?_
    refine J.seq ?_
    refine J.region ?_
    refine RJ.op rfl rfl (op_lit ttok (.pair .str .str) rfl ([] : List (List UInt8 × List UInt8)) rfl h0 rfl rfl (by decide) rfl rfl rfl rfl rfl rfl rfl) ?_
    rintro _ w1 ⟨b1, rfl, h2⟩
    replace h2 : St w0 F0 [ownC 75 (.pair .str .str) ([] : List (List UInt8 × List UInt8)) (.slice (some ⟨b1, 0, none⟩) ([] : List (List UInt8 × List UInt8)).length 0)] _ _ := h2
    refine RJ.run ttok 1 rfl ?_
    obtain ⟨p1, H⟩ := guard_t H
    refine RJ.op rfl rfl (op_append ttok rfl 0 rfl h2 rfl (Gives.self 0 rfl) rfl rfl rfl rfl rfl rfl (by decide) (by decide) p1) ?_
    rintro _ w2 ⟨A2, c_2, rfl, h3⟩
    replace h3 : St w0 F0 [ownC 75 (.pair .str .str) (([] : List (List UInt8 × List UInt8)) ++ a0) (.slice A2 (([] : List (List UInt8 × List UInt8)) ++ a0).length c_2)] _ _ := h3
    refine RJ.run ttok 1 rfl ?_
    refine RJ.fin [(2, .slice A2 (([] : List (List UInt8 × List UInt8)) ++ a0).length c_2)] rfl ?_
    refine J.ret ?_
    obtain rfl := Option.some.inj H
    exact ⟨_, _, _, (results_slots rfl), ⟨_, _, rfl, rfl⟩, h3.only [0] rfl⟩

/-! sluicegate/leaf.Part -/
def leaf_Part.f (k : Nat) (a0 : List (List UInt8 × List UInt8)) (a1 : List UInt8 × List UInt8 × Bool) (a2 : Int) : Option ((List (List UInt8 × List UInt8))) := (lex_Empty.f (a1.1, a1.2.1, a1.2.2)).bind fun r1 => (if r1 = true then (some ([] : List (List UInt8 × List UInt8))) else (if (decide (a2 < 1)) = true then (some ([] : List (List UInt8 × List UInt8))) else ((slices_BinarySearchFunc_api_Pair_api_Pair_string_leaf_compare.f k a0 a1.1).bind fun r2 => (if (!a1.2.2) = true then ((slices_BinarySearchFunc_api_Pair_api_Pair_string_leaf_compare.f k a0 a1.2.1).bind fun r3 => (if 0 ≤ r2.1 ∧ r2.1 ≤ (if (w64 (r2.1 + (if (a0.length : Int) < a2 then (a0.length : Int) else a2))) < r3.1 then (w64 (r2.1 + (if (a0.length : Int) < a2 then (a0.length : Int) else a2))) else r3.1) ∧ (if (w64 (r2.1 + (if (a0.length : Int) < a2 then (a0.length : Int) else a2))) < r3.1 then (w64 (r2.1 + (if (a0.length : Int) < a2 then (a0.length : Int) else a2))) else r3.1) ≤ (a0.length : Int) then ((slices_Clone_api_Pair_api_Pair.f ((a0.drop (r2.1).toNat).take (((if (w64 (r2.1 + (if (a0.length : Int) < a2 then (a0.length : Int) else a2))) < r3.1 then (w64 (r2.1 + (if (a0.length : Int) < a2 then (a0.length : Int) else a2))) else r3.1)).toNat - (r2.1).toNat))).bind fun r4 => (some r4)) else none)) else (if 0 ≤ r2.1 ∧ r2.1 ≤ (if (w64 (r2.1 + (if (a0.length : Int) < a2 then (a0.length : Int) else a2))) < (a0.length : Int) then (w64 (r2.1 + (if (a0.length : Int) < a2 then (a0.length : Int) else a2))) else (a0.length : Int)) ∧ (if (w64 (r2.1 + (if (a0.length : Int) < a2 then (a0.length : Int) else a2))) < (a0.length : Int) then (w64 (r2.1 + (if (a0.length : Int) < a2 then (a0.length : Int) else a2))) else (a0.length : Int)) ≤ (a0.length : Int) then ((slices_Clone_api_Pair_api_Pair.f ((a0.drop (r2.1).toNat).take (((if (w64 (r2.1 + (if (a0.length : Int) < a2 then (a0.length : Int) else a2))) < (a0.length : Int) then (w64 (r2.1 + (if (a0.length : Int) < a2 then (a0.length : Int) else a2))) else (a0.length : Int))).toNat - (r2.1).toNat))).bind fun r5 => (some r5)) else none)))))
set_option maxRecDepth 20000 in
set_option maxHeartbeats 40000000 in
theorem leaf_Part.spec {k : Nat} {a0 : List (List UInt8 × List UInt8)} {a1 : List UInt8 × List UInt8 × Bool} {a2 : Int} {A1 : Option Addr} {c_1 : Nat} {r : (List (List UInt8 × List UInt8))} (H : leaf_Part.f k a0 a1 a2 = some r) :
    Spec Try.prog 76 [.slice A1 a0.length c_1, .agg #[.string ⟨⟨a1.1⟩⟩, .string ⟨⟨a1.2.1⟩⟩, .bool a1.2.2], .int .i64 a2] [] [rdC 75 (.pair .str .str) a0 (.slice A1 a0.length c_1)] (fun v l => ∃ (A_0 : Option Addr) (c_0 : Nat), v = .slice A_0 r.length c_0 ∧ l = [ownC 75 (.pair .str .str) r (.slice A_0 r.length c_0)]) := by
  refine Spec.enter Try.func76 rfl (by kernel_rfl) (by kernel_rfl) fun w0 F0 h0 => ?_
  unfold leaf_Part.f at H
  refine J.seq ?_
  refine J.region ?_
  refine RJ.op rfl rfl (op_box rfl rfl h0) ?_
  rintro _ w1 ⟨b1, rfl, h1⟩
  replace h1 : St w0 F0 [boxC b1 93 [.string ⟨⟨a1.1⟩⟩, .string ⟨⟨a1.2.1⟩⟩, .bool a1.2.2]] _ _ := h1
  refine RJ.run ttok 1 rfl ?_
  refine RJ.fin [(0, .slice A1 a0.length c_1), (2, .int .i64 a2), (4, .pointer (some ⟨b1, 0, none⟩))] rfl ?_
  refine J.seq ?_
  refine J.seq ?_
  refine J.region ?_
  refine RJ.q rfl rfl (q_load_box ttok 0 h1.wht rfl rfl rfl rfl rfl) ?_
  obtain ⟨r1, q1, H⟩ := bind_t H
  refine RJ.op rfl rfl (op_call [] (lex_Empty.spec q1) rfl rfl rfl h1 rfl gnil) ?_
  rintro _ w2 ⟨_, ⟨rfl, rfl⟩, h2⟩
  replace h2 : St w0 F0 [boxC b1 93 [.string ⟨⟨a1.1⟩⟩, .string ⟨⟨a1.2.1⟩⟩, .bool a1.2.2]] _ _ := h2
  refine RJ.run ttok 1 rfl ?_
  rcases Bool.eq_false_or_eq_true r1 with c1 | c1
  · replace H := ite_t c1 H
    refine RJ.know (t := 12) rfl (congrArg Value.bool c1) ?_
    refine RJ.run ttok 3 rfl ?_
    refine RJ.fin [(0, .slice A1 a0.length c_1), (2, .int .i64 a2), (4, .pointer (some ⟨b1, 0, none⟩)), (15, .bool true)] rfl ?_
    refine J.condT rfl ?_
    refine J.seq ?_
    refine J.region ?_
    refine RJ.run ttok 1 rfl ?_
    refine RJ.fin [(6, .slice none ([] : List (List UInt8 × List UInt8)).length 0)] rfl ?_
    refine J.ret ?_
    have h3 := h2.addNil 75 (.pair .str .str)
    obtain rfl := Option.some.inj H
    exact ⟨_, _, _, (results_slots rfl), ⟨_, _, rfl, rfl⟩, h3.only [0] rfl⟩
  · replace H := ite_f c1 H
    refine RJ.know (t := 12) rfl (congrArg Value.bool c1) ?_
    refine RJ.run ttok 3 rfl ?_
    refine RJ.fin [(0, .slice A1 a0.length c_1), (2, .int .i64 a2), (4, .pointer (some ⟨b1, 0, none⟩)), (15, .bool (decide (a2 < 1)))] rfl ?_
    refine J.cond rfl (fun c2 => ?_) (fun c2 => ?_)
    · replace H := ite_t c2 H
      refine J.seq ?_
      refine J.region ?_
      refine RJ.run ttok 1 rfl ?_
      refine RJ.fin [(6, .slice none ([] : List (List UInt8 × List UInt8)).length 0)] rfl ?_
      refine J.ret ?_
      have h4 := h2.addNil 75 (.pair .str .str)
      obtain rfl := Option.some.inj H
      exact ⟨_, _, _, (results_slots rfl), ⟨_, _, rfl, rfl⟩, h4.only [0] rfl⟩
    · replace H := ite_f c2 H
      refine J.skip ?_
      refine J.seq ?_
      refine J.region ?_
      refine RJ.run ttok 2 rfl ?_
      refine RJ.q rfl rfl (q_load_box ttok 0 h2.wht rfl rfl rfl rfl rfl) ?_
      obtain ⟨r2, q2, H⟩ := bind_t H
      refine RJ.op rfl rfl (op_call [] (slices_BinarySearchFunc_api_Pair_api_Pair_string_leaf_compare.spec q2) rfl rfl rfl h2 rfl (gcons (Gives.self 1 rfl) gnil)) ?_
      rintro _ w3 ⟨_, ⟨rfl, rfl⟩, h5⟩
      replace h5 : St w0 F0 [boxC b1 93 [.string ⟨⟨a1.1⟩⟩, .string ⟨⟨a1.2.1⟩⟩, .bool a1.2.2]] _ _ := h5
      refine RJ.run ttok 5 rfl ?_
      refine RJ.fin [(0, .slice A1 a0.length c_1), (2, .int .i64 a2), (4, .pointer (some ⟨b1, 0, none⟩)), (7, .int .i64 r2.1)] rfl ?_
      refine J.seq ?_
      refine J.region ?_
      refine RJ.run ttok 3 rfl ?_
      refine RJ.fin [(0, .slice A1 a0.length c_1), (2, .int .i64 a2), (4, .pointer (some ⟨b1, 0, none⟩)), (7, .int .i64 r2.1), (9, .int .i64 (a0.length : Int))] rfl ?_
      refine J.seq ?_
      refine J.seq ?_
      refine J.region ?_
      refine RJ.run ttok 1 rfl ?_
      refine RJ.q rfl rfl (q_load_box ttok 0 h5.wht rfl rfl rfl rfl rfl) ?_
      refine RJ.run ttok 1 rfl ?_
      refine RJ.fin [(0, .slice A1 a0.length c_1), (2, .int .i64 a2), (4, .pointer (some ⟨b1, 0, none⟩)), (7, .int .i64 r2.1), (9, .int .i64 (a0.length : Int)), (27, .bool (!a1.2.2))] rfl ?_
      refine J.cond rfl (fun c3 => ?_) (fun c3 => ?_)
      · replace H := ite_t c3 H
        refine J.region ?_
        refine RJ.run ttok 2 rfl ?_
        refine RJ.q rfl rfl (q_load_box ttok 0 h5.wht rfl rfl rfl rfl rfl) ?_
        obtain ⟨r3, q3, H⟩ := bind_t H
        refine RJ.op rfl rfl (op_call [] (slices_BinarySearchFunc_api_Pair_api_Pair_string_leaf_compare.spec q3) rfl rfl rfl h5 rfl (gcons (Gives.self 1 rfl) gnil)) ?_
        rintro _ w4 ⟨_, ⟨rfl, rfl⟩, h6⟩
        replace h6 : St w0 F0 [boxC b1 93 [.string ⟨⟨a1.1⟩⟩, .string ⟨⟨a1.2.1⟩⟩, .bool a1.2.2]] _ _ := h6
        refine RJ.run ttok 4 rfl ?_
        refine RJ.fin [(0, .slice A1 a0.length c_1), (2, .int .i64 a2), (7, .int .i64 r2.1), (9, .int .i64 r3.1)] rfl ?_
        refine J.seq ?_
        refine J.region ?_
        refine RJ.run ttok 10 rfl ?_
        obtain ⟨⟨p1, p2, p3⟩, H⟩ := guard_t H
        have e1 := h6.cap (Gives.self 1 rfl)
        refine RJ.q rfl rfl (q_cut (l := r2.1) (h := (if (w64 (r2.1 + (if (a0.length : Int) < a2 then (a0.length : Int) else a2))) < r3.1 then (w64 (r2.1 + (if (a0.length : Int) < a2 then (a0.length : Int) else a2))) else r3.1)) (sub := ((a0.drop (r2.1).toNat).take (((if (w64 (r2.1 + (if (a0.length : Int) < a2 then (a0.length : Int) else a2))) < r3.1 then (w64 (r2.1 + (if (a0.length : Int) < a2 then (a0.length : Int) else a2))) else r3.1)).toNat - (r2.1).toNat))) ttok rfl rfl rfl rfl e1 ⟨_, rfl⟩ ⟨_, rfl⟩ p1 p2 p3 rfl) ?_
        obtain ⟨r4, q4, H⟩ := bind_t H
        refine RJ.op rfl rfl (op_call [] (slices_Clone_api_Pair_api_Pair.spec q4) rfl rfl rfl h6 rfl (gcons ((Gives.self 1 rfl).trans (rd_cut (ty := (.pair .str .str)) (l := r2.1) (h := (if (w64 (r2.1 + (if (a0.length : Int) < a2 then (a0.length : Int) else a2))) < r3.1 then (w64 (r2.1 + (if (a0.length : Int) < a2 then (a0.length : Int) else a2))) else r3.1)) (sub := ((a0.drop (r2.1).toNat).take (((if (w64 (r2.1 + (if (a0.length : Int) < a2 then (a0.length : Int) else a2))) < r3.1 then (w64 (r2.1 + (if (a0.length : Int) < a2 then (a0.length : Int) else a2))) else r3.1)).toNat - (r2.1).toNat))) rfl p1 p2 p3 rfl)) gnil)) ?_
        rintro _ w5 ⟨_, ⟨A2, c_2, rfl, rfl⟩, h7⟩
        replace h7 : St w0 F0 [ownC 75 (.pair .str .str) r4 (.slice A2 r4.length c_2), boxC b1 93 [.string ⟨⟨a1.1⟩⟩, .string ⟨⟨a1.2.1⟩⟩, .bool a1.2.2]] _ _ := h7
        refine RJ.run ttok 1 rfl ?_
        refine RJ.fin [(6, .slice A2 r4.length c_2)] rfl ?_
        refine J.ret ?_
        obtain rfl := Option.some.inj H
        exact ⟨_, _, _, (results_slots rfl), ⟨_, _, rfl, rfl⟩, h7.only [0] rfl⟩
      · replace H := ite_f c3 H
        refine J.skip ?_
        refine J.seq ?_
        refine J.region ?_
        refine RJ.run ttok 10 rfl ?_
        obtain ⟨⟨p4, p5, p6⟩, H⟩ := guard_t H
        have e2 := h5.cap (Gives.self 1 rfl)
        refine RJ.q rfl rfl (q_cut (l := r2.1) (h := (if (w64 (r2.1 + (if (a0.length : Int) < a2 then (a0.length : Int) else a2))) < (a0.length : Int) then (w64 (r2.1 + (if (a0.length : Int) < a2 then (a0.length : Int) else a2))) else (a0.length : Int))) (sub := ((a0.drop (r2.1).toNat).take (((if (w64 (r2.1 + (if (a0.length : Int) < a2 then (a0.length : Int) else a2))) < (a0.length : Int) then (w64 (r2.1 + (if (a0.length : Int) < a2 then (a0.length : Int) else a2))) else (a0.length : Int))).toNat - (r2.1).toNat))) ttok rfl rfl rfl rfl e2 ⟨_, rfl⟩ ⟨_, rfl⟩ p4 p5 p6 rfl) ?_
        obtain ⟨r5, q5, H⟩ := bind_t H
        refine RJ.op rfl rfl (op_call [] (slices_Clone_api_Pair_api_Pair.spec q5) rfl rfl rfl h5 rfl (gcons ((Gives.self 1 rfl).trans (rd_cut (ty := (.pair .str .str)) (l := r2.1) (h := (if (w64 (r2.1 + (if (a0.length : Int) < a2 then (a0.length : Int) else a2))) < (a0.length : Int) then (w64 (r2.1 + (if (a0.length : Int) < a2 then (a0.length : Int) else a2))) else (a0.length : Int))) (sub := ((a0.drop (r2.1).toNat).take (((if (w64 (r2.1 + (if (a0.length : Int) < a2 then (a0.length : Int) else a2))) < (a0.length : Int) then (w64 (r2.1 + (if (a0.length : Int) < a2 then (a0.length : Int) else a2))) else (a0.length : Int))).toNat - (r2.1).toNat))) rfl p4 p5 p6 rfl)) gnil)) ?_
        rintro _ w6 ⟨_, ⟨A3, c_3, rfl, rfl⟩, h8⟩
        replace h8 : St w0 F0 [ownC 75 (.pair .str .str) r5 (.slice A3 r5.length c_3), boxC b1 93 [.string ⟨⟨a1.1⟩⟩, .string ⟨⟨a1.2.1⟩⟩, .bool a1.2.2]] _ _ := h8
        refine RJ.run ttok 1 rfl ?_
        refine RJ.fin [(6, .slice A3 r5.length c_3)] rfl ?_
        refine J.ret ?_
        obtain rfl := Option.some.inj H
        exact ⟨_, _, _, (results_slots rfl), ⟨_, _, rfl, rfl⟩, h8.only [0] rfl⟩

/-! (*sluicegate/truth.Truth).Would -/
def truth_Truth_Would.f (k : Nat) (a0 : (Int × Int × Int × Int × Int × Int × Int × Int) × (List (List UInt8 × List UInt8))) (a1 : Int × List UInt8 × List UInt8 × Int) : Option ((Int × List UInt8 × (List (List UInt8 × List UInt8)))) := if (decide (a1.1 = 1)) = true then ((truth_Truth_may.f ((a0.1.1, a0.1.2.1, a0.1.2.2.1, a0.1.2.2.2.1, a0.1.2.2.2.2.1, a0.1.2.2.2.2.2.1, a0.1.2.2.2.2.2.2.1, a0.1.2.2.2.2.2.2.2), a0.2) (a1.1, a1.2.1, a1.2.2.1, a1.2.2.2)).bind fun r1 => (if (!r1) = true then (some (2, ([] : List UInt8), ([] : List (List UInt8 × List UInt8)))) else (if (!decide (a1.1 = 3)) = true then (some (0, ([] : List UInt8), ([] : List (List UInt8 × List UInt8)))) else ((leaf_Get.f k a0.2 a1.2.1).bind fun r2 => (if (!r2.2) = true then (some (9, ([] : List UInt8), ([] : List (List UInt8 × List UInt8)))) else (some (0, r2.1, ([] : List (List UInt8 × List UInt8))))))))) else (if (decide (a1.1 = 2)) = true then ((truth_Truth_may.f ((a0.1.1, a0.1.2.1, a0.1.2.2.1, a0.1.2.2.2.1, a0.1.2.2.2.2.1, a0.1.2.2.2.2.2.1, a0.1.2.2.2.2.2.2.1, a0.1.2.2.2.2.2.2.2), a0.2) (a1.1, a1.2.1, a1.2.2.1, a1.2.2.2)).bind fun r3 => (if (!r3) = true then (some (2, ([] : List UInt8), ([] : List (List UInt8 × List UInt8)))) else (if (!decide (a1.1 = 3)) = true then (some (0, ([] : List UInt8), ([] : List (List UInt8 × List UInt8)))) else ((leaf_Get.f k a0.2 a1.2.1).bind fun r4 => (if (!r4.2) = true then (some (9, ([] : List UInt8), ([] : List (List UInt8 × List UInt8)))) else (some (0, r4.1, ([] : List (List UInt8 × List UInt8))))))))) else (if (decide (a1.1 = 3)) = true then ((truth_Truth_may.f ((a0.1.1, a0.1.2.1, a0.1.2.2.1, a0.1.2.2.2.1, a0.1.2.2.2.2.1, a0.1.2.2.2.2.2.1, a0.1.2.2.2.2.2.2.1, a0.1.2.2.2.2.2.2.2), a0.2) (a1.1, a1.2.1, a1.2.2.1, a1.2.2.2)).bind fun r5 => (if (!r5) = true then (some (2, ([] : List UInt8), ([] : List (List UInt8 × List UInt8)))) else (if (!decide (a1.1 = 3)) = true then (some (0, ([] : List UInt8), ([] : List (List UInt8 × List UInt8)))) else ((leaf_Get.f k a0.2 a1.2.1).bind fun r6 => (if (!r6.2) = true then (some (9, ([] : List UInt8), ([] : List (List UInt8 × List UInt8)))) else (some (0, r6.1, ([] : List (List UInt8 × List UInt8))))))))) else (if (decide (a1.1 = 4)) = true then ((lex_Compare.f a1.2.1 a1.2.2.1).bind fun r7 => (if (decide (r7 < 0)) = true then ((leaf_Part.f k a0.2 (a1.2.1, a1.2.2.1, false) a1.2.2.2).bind fun r8 => (some (0, ([] : List UInt8), r8))) else (if (!decide (a1.1 = 3)) = true then (some (0, ([] : List UInt8), ([] : List (List UInt8 × List UInt8)))) else ((leaf_Get.f k a0.2 a1.2.1).bind fun r9 => (if (!r9.2) = true then (some (9, ([] : List UInt8), ([] : List (List UInt8 × List UInt8)))) else (some (0, r9.1, ([] : List (List UInt8 × List UInt8))))))))) else (if (!decide (a1.1 = 3)) = true then (some (0, ([] : List UInt8), ([] : List (List UInt8 × List UInt8)))) else ((leaf_Get.f k a0.2 a1.2.1).bind fun r10 => (if (!r10.2) = true then (some (9, ([] : List UInt8), ([] : List (List UInt8 × List UInt8)))) else (some (0, r10.1, ([] : List (List UInt8 × List UInt8))))))))))
set_option maxRecDepth 20000 in
set_option maxHeartbeats 40000000 in
theorem truth_Truth_Would.spec {k : Nat} {a0 : (Int × Int × Int × Int × Int × Int × Int × Int) × (List (List UInt8 × List UInt8))} {a1 : Int × List UInt8 × List UInt8 × Int} {b1 : Nat} {A1 : Option Addr} {c_1 : Nat} {r : (Int × List UInt8 × (List (List UInt8 × List UInt8)))} (H : truth_Truth_Would.f k a0 a1 = some r) :
    Spec Try.prog 36 [.pointer (some ⟨b1, 0, none⟩), .agg #[.int .i64 a1.1, .string ⟨⟨a1.2.1⟩⟩, .string ⟨⟨a1.2.2.1⟩⟩, .int .i64 a1.2.2.2]] [boxC b1 132 [.int .i64 a0.1.1, .int .i64 a0.1.2.1, .int .i64 a0.1.2.2.1, .int .i64 a0.1.2.2.2.1, .int .i64 a0.1.2.2.2.2.1, .int .i64 a0.1.2.2.2.2.2.1, .int .i64 a0.1.2.2.2.2.2.2.1, .int .i64 a0.1.2.2.2.2.2.2.2, .slice A1 a0.2.length c_1], ownC 75 (.pair .str .str) a0.2 (.slice A1 a0.2.length c_1)] [] (fun v l => ∃ (A_0 : Option Addr) (c_0 : Nat), v = .agg #[.int .i64 r.1, .string ⟨⟨r.2.1⟩⟩, .slice A_0 r.2.2.length c_0] ∧ l = [ownC 75 (.pair .str .str) r.2.2 (.slice A_0 r.2.2.length c_0), boxC b1 132 [.int .i64 a0.1.1, .int .i64 a0.1.2.1, .int .i64 a0.1.2.2.1, .int .i64 a0.1.2.2.2.1, .int .i64 a0.1.2.2.2.2.1, .int .i64 a0.1.2.2.2.2.2.1, .int .i64 a0.1.2.2.2.2.2.2.1, .int .i64 a0.1.2.2.2.2.2.2.2, .slice A1 a0.2.length c_1], ownC 75 (.pair .str .str) a0.2 (.slice A1 a0.2.length c_1)]) := by
  refine Spec.enter Try.func36 rfl (by kernel_rfl) (by kernel_rfl) fun w0 F0 h0 => ?_
  unfold truth_Truth_Would.f at H
  refine J.seq ?_
  refine J.region ?_
  refine RJ.op rfl rfl (op_box rfl rfl h0) ?_
  rintro _ w1 ⟨b2, rfl, h1⟩
  replace h1 : St w0 F0 [boxC b2 64 [.int .i64 a1.1, .string ⟨⟨a1.2.1⟩⟩, .string ⟨⟨a1.2.2.1⟩⟩, .int .i64 a1.2.2.2], boxC b1 132 [.int .i64 a0.1.1, .int .i64 a0.1.2.1, .int .i64 a0.1.2.2.1, .int .i64 a0.1.2.2.2.1, .int .i64 a0.1.2.2.2.2.1, .int .i64 a0.1.2.2.2.2.2.1, .int .i64 a0.1.2.2.2.2.2.2.1, .int .i64 a0.1.2.2.2.2.2.2.2, .slice A1 a0.2.length c_1], ownC 75 (.pair .str .str) a0.2 (.slice A1 a0.2.length c_1)] _ _ := h1
  refine RJ.op rfl rfl (op_alloc ttok rfl rfl h1) ?_
  rintro _ w2 ⟨b3, rfl, h2⟩
  replace h2 : St w0 F0 [boxC b3 70 [.int .i64 0, .string ⟨⟨([] : List UInt8)⟩⟩, .slice none ([] : List (List UInt8 × List UInt8)).length 0], boxC b2 64 [.int .i64 a1.1, .string ⟨⟨a1.2.1⟩⟩, .string ⟨⟨a1.2.2.1⟩⟩, .int .i64 a1.2.2.2], boxC b1 132 [.int .i64 a0.1.1, .int .i64 a0.1.2.1, .int .i64 a0.1.2.2.1, .int .i64 a0.1.2.2.2.1, .int .i64 a0.1.2.2.2.2.1, .int .i64 a0.1.2.2.2.2.2.1, .int .i64 a0.1.2.2.2.2.2.2.1, .int .i64 a0.1.2.2.2.2.2.2.2, .slice A1 a0.2.length c_1], ownC 75 (.pair .str .str) a0.2 (.slice A1 a0.2.length c_1)] _ _ := h2
  refine RJ.fin [(0, .pointer (some ⟨b1, 0, none⟩)), (3, .pointer (some ⟨b2, 0, none⟩)), (4, .pointer (some ⟨b3, 0, none⟩))] rfl ?_
  refine J.seq ?_
  refine J.seq ?_
  refine J.region ?_
  refine RJ.run ttok 2 rfl ?_
  refine RJ.fin [(0, .pointer (some ⟨b1, 0, none⟩)), (3, .pointer (some ⟨b2, 0, none⟩)), (4, .pointer (some ⟨b3, 0, none⟩)), (8, .bool false)] rfl ?_
  refine J.condF rfl ?_
  refine J.skip ?_
  refine J.seq ?_
  refine J.seq ?_
  refine J.region ?_
  refine RJ.run ttok 1 rfl ?_
  refine RJ.q rfl rfl (q_load_box ttok 1 h2.wht rfl rfl rfl rfl rfl) ?_
  refine RJ.fin [(0, .pointer (some ⟨b1, 0, none⟩)), (3, .pointer (some ⟨b2, 0, none⟩)), (4, .pointer (some ⟨b3, 0, none⟩)), (11, .int .i64 a1.1)] rfl ?_
  refine J.block ?_
  refine J.seq ?_
  refine J.seq ?_
  refine J.region ?_
  refine RJ.run ttok 2 rfl ?_
  refine RJ.fin [(0, .pointer (some ⟨b1, 0, none⟩)), (3, .pointer (some ⟨b2, 0, none⟩)), (4, .pointer (some ⟨b3, 0, none⟩)), (11, .int .i64 a1.1), (12, .bool (decide (a1.1 = 1)))] rfl ?_
  refine J.cond rfl (fun c1 => ?_) (fun c1 => ?_)
  · replace H := ite_t c1 H
    refine J.skip ?_
    refine J.cond rfl (fun e => ?_) (fun e => ?_)
    · refine J.seq ?_
      refine J.region ?_
      refine RJ.run ttok 1 rfl ?_
      refine RJ.q rfl rfl (q_load_box ttok 1 h2.wht rfl rfl rfl rfl rfl) ?_
      obtain ⟨r1, q1, H⟩ := bind_t H
      refine RJ.op rfl rfl (op_call [2, 2] (truth_Truth_may.spec q1) rfl rfl rfl h2 rfl gnil) ?_
      rintro _ w3 ⟨_, ⟨rfl, rfl⟩, h3⟩
      replace h3 : St w0 F0 [boxC b1 132 [.int .i64 a0.1.1, .int .i64 a0.1.2.1, .int .i64 a0.1.2.2.1, .int .i64 a0.1.2.2.2.1, .int .i64 a0.1.2.2.2.2.1, .int .i64 a0.1.2.2.2.2.2.1, .int .i64 a0.1.2.2.2.2.2.2.1, .int .i64 a0.1.2.2.2.2.2.2.2, .slice A1 a0.2.length c_1], ownC 75 (.pair .str .str) a0.2 (.slice A1 a0.2.length c_1), boxC b3 70 [.int .i64 0, .string ⟨⟨([] : List UInt8)⟩⟩, .slice none ([] : List (List UInt8 × List UInt8)).length 0], boxC b2 64 [.int .i64 a1.1, .string ⟨⟨a1.2.1⟩⟩, .string ⟨⟨a1.2.2.1⟩⟩, .int .i64 a1.2.2.2]] _ _ := h3
      refine RJ.run ttok 1 rfl ?_
      refine RJ.fin [(0, .pointer (some ⟨b1, 0, none⟩)), (3, .pointer (some ⟨b2, 0, none⟩)), (4, .pointer (some ⟨b3, 0, none⟩)), (19, .bool (!r1))] rfl ?_
      refine J.cond rfl (fun c2 => ?_) (fun c2 => ?_)
      · replace H := ite_t c2 H
        refine J.seq ?_
        refine J.region ?_
        refine RJ.run ttok 1 rfl ?_
        refine RJ.op rfl rfl (op_store ttok 2 rfl h3 rfl rfl rfl rfl rfl rfl rfl) ?_
        intro _ w4 h4
        replace h4 : St w0 F0 [boxC b3 70 [.int .i64 2, .string ⟨⟨([] : List UInt8)⟩⟩, .slice none ([] : List (List UInt8 × List UInt8)).length 0], boxC b1 132 [.int .i64 a0.1.1, .int .i64 a0.1.2.1, .int .i64 a0.1.2.2.1, .int .i64 a0.1.2.2.2.1, .int .i64 a0.1.2.2.2.2.1, .int .i64 a0.1.2.2.2.2.2.1, .int .i64 a0.1.2.2.2.2.2.2.1, .int .i64 a0.1.2.2.2.2.2.2.2, .slice A1 a0.2.length c_1], ownC 75 (.pair .str .str) a0.2 (.slice A1 a0.2.length c_1), boxC b2 64 [.int .i64 a1.1, .string ⟨⟨a1.2.1⟩⟩, .string ⟨⟨a1.2.2.1⟩⟩, .int .i64 a1.2.2.2]] _ _ := h4
        refine RJ.fin [(4, .pointer (some ⟨b3, 0, none⟩))] rfl ?_
        refine J.ret ?_
        have h5 := h4.addNil 75 (.pair .str .str)
        obtain rfl := Option.some.inj H
        exact ⟨_, _, _, (results_two rfl (rvcons (RV.cell ttok 1 h5 rfl rfl rfl rfl) rvnil) rfl), ⟨_, _, rfl, rfl⟩, h5.only [0, 1, 1] rfl⟩
      · replace H := ite_f c2 H
        refine J.skip ?_
        refine J.seq ?_
        refine J.seq ?_
        refine J.region ?_
        refine RJ.run ttok 1 rfl ?_
        refine RJ.q rfl rfl (q_load_box ttok 3 h3.wht rfl rfl rfl rfl rfl) ?_
        refine RJ.run ttok 1 rfl ?_
        refine RJ.fin [(0, .pointer (some ⟨b1, 0, none⟩)), (3, .pointer (some ⟨b2, 0, none⟩)), (4, .pointer (some ⟨b3, 0, none⟩)), (44, .bool (!decide (a1.1 = 3)))] rfl ?_
        refine J.cond rfl (fun c3 => ?_) (fun c3 => ?_)
        · replace H := ite_t c3 H
          refine J.seq ?_
          refine J.region ?_
          refine RJ.run ttok 1 rfl ?_
          refine RJ.op rfl rfl (op_store ttok 2 rfl h3 rfl rfl rfl rfl rfl rfl rfl) ?_
          intro _ w5 h6
          replace h6 : St w0 F0 [boxC b3 70 [.int .i64 0, .string ⟨⟨([] : List UInt8)⟩⟩, .slice none ([] : List (List UInt8 × List UInt8)).length 0], boxC b1 132 [.int .i64 a0.1.1, .int .i64 a0.1.2.1, .int .i64 a0.1.2.2.1, .int .i64 a0.1.2.2.2.1, .int .i64 a0.1.2.2.2.2.1, .int .i64 a0.1.2.2.2.2.2.1, .int .i64 a0.1.2.2.2.2.2.2.1, .int .i64 a0.1.2.2.2.2.2.2.2, .slice A1 a0.2.length c_1], ownC 75 (.pair .str .str) a0.2 (.slice A1 a0.2.length c_1), boxC b2 64 [.int .i64 a1.1, .string ⟨⟨a1.2.1⟩⟩, .string ⟨⟨a1.2.2.1⟩⟩, .int .i64 a1.2.2.2]] _ _ := h6
          refine RJ.fin [(4, .pointer (some ⟨b3, 0, none⟩))] rfl ?_
          refine J.ret ?_
          have h7 := h6.addNil 75 (.pair .str .str)
          obtain rfl := Option.some.inj H
          exact ⟨_, _, _, (results_two rfl (rvcons (RV.cell ttok 1 h7 rfl rfl rfl rfl) rvnil) rfl), ⟨_, _, rfl, rfl⟩, h7.only [0, 1, 1] rfl⟩
        · replace H := ite_f c3 H
          refine J.skip ?_
          refine J.seq ?_
          refine J.heldSt mix h3 ?_
          have h8 := h3.drew
          refine HJ.run ttok rfl [0, 1, 2, 4] rfl ?_
          refine HJ.q (i := 3) rfl rfl rfl rfl rfl rfl (q_load_box ttok 0 (fun w e => e) rfl rfl rfl rfl rfl) ?_
          refine HJ.q (i := 5) rfl rfl rfl rfl rfl rfl (q_load_box ttok 3 (fun w e => e) rfl rfl rfl rfl rfl) ?_
          obtain ⟨r2, q2, H⟩ := bind_t H
          refine HJ.op (i := 6) rfl rfl rfl rfl rfl (op_call [] (leaf_Get.spec q2) rfl rfl rfl h8 rfl (gcons (Gives.of 1 rfl own_rd) gnil)) ?_
          rintro _ w6 ⟨_, ⟨rfl, rfl⟩, h9⟩
          replace h9 : St w0 F0 [boxC b1 132 [.int .i64 a0.1.1, .int .i64 a0.1.2.1, .int .i64 a0.1.2.2.1, .int .i64 a0.1.2.2.2.1, .int .i64 a0.1.2.2.2.2.1, .int .i64 a0.1.2.2.2.2.2.1, .int .i64 a0.1.2.2.2.2.2.2.1, .int .i64 a0.1.2.2.2.2.2.2.2, .slice A1 a0.2.length c_1], ownC 75 (.pair .str .str) a0.2 (.slice A1 a0.2.length c_1), boxC b3 70 [.int .i64 0, .string ⟨⟨([] : List UInt8)⟩⟩, .slice none ([] : List (List UInt8 × List UInt8)).length 0], boxC b2 64 [.int .i64 a1.1, .string ⟨⟨a1.2.1⟩⟩, .string ⟨⟨a1.2.2.1⟩⟩, .int .i64 a1.2.2.2]] _ _ := h9
          refine ⟨⟨[], h9⟩, ?_⟩
          refine HJ.run ttok rfl [7, 8, 9, 10, 11] rfl ?_
          refine HJ.fin [(4, .pointer (some ⟨b3, 0, none⟩)), (5, .string ⟨⟨r2.1⟩⟩), (6, .bool r2.2)] rfl rfl ?_
          refine J.seq ?_
          refine J.seq ?_
          refine J.region ?_
          refine RJ.run ttok 2 rfl ?_
          refine RJ.fin [(4, .pointer (some ⟨b3, 0, none⟩)), (5, .string ⟨⟨r2.1⟩⟩), (57, .bool (!r2.2))] rfl ?_
          refine J.cond rfl (fun c4 => ?_) (fun c4 => ?_)
          · replace H := ite_t c4 H
            refine J.seq ?_
            refine J.region ?_
            refine RJ.run ttok 1 rfl ?_
            refine RJ.op rfl rfl (op_store ttok 2 rfl h9 rfl rfl rfl rfl rfl rfl rfl) ?_
            intro _ w7 h10
            replace h10 : St w0 F0 [boxC b3 70 [.int .i64 9, .string ⟨⟨([] : List UInt8)⟩⟩, .slice none ([] : List (List UInt8 × List UInt8)).length 0], boxC b1 132 [.int .i64 a0.1.1, .int .i64 a0.1.2.1, .int .i64 a0.1.2.2.1, .int .i64 a0.1.2.2.2.1, .int .i64 a0.1.2.2.2.2.1, .int .i64 a0.1.2.2.2.2.2.1, .int .i64 a0.1.2.2.2.2.2.2.1, .int .i64 a0.1.2.2.2.2.2.2.2, .slice A1 a0.2.length c_1], ownC 75 (.pair .str .str) a0.2 (.slice A1 a0.2.length c_1), boxC b2 64 [.int .i64 a1.1, .string ⟨⟨a1.2.1⟩⟩, .string ⟨⟨a1.2.2.1⟩⟩, .int .i64 a1.2.2.2]] _ _ := h10
            refine RJ.fin [(4, .pointer (some ⟨b3, 0, none⟩))] rfl ?_
            refine J.ret ?_
            have h11 := h10.addNil 75 (.pair .str .str)
            obtain rfl := Option.some.inj H
            exact ⟨_, _, _, (results_two rfl (rvcons (RV.cell ttok 1 h11 rfl rfl rfl rfl) rvnil) rfl), ⟨_, _, rfl, rfl⟩, h11.only [0, 1, 1] rfl⟩
          · replace H := ite_f c4 H
            refine J.skip ?_
            refine J.seq ?_
            refine J.region ?_
            refine RJ.run ttok 2 rfl ?_
            refine RJ.op rfl rfl (op_store ttok 2 rfl h9 rfl rfl rfl rfl rfl rfl rfl) ?_
            intro _ w8 h12
            replace h12 : St w0 F0 [boxC b3 70 [.int .i64 0, .string ⟨⟨r2.1⟩⟩, .slice none ([] : List (List UInt8 × List UInt8)).length 0], boxC b1 132 [.int .i64 a0.1.1, .int .i64 a0.1.2.1, .int .i64 a0.1.2.2.1, .int .i64 a0.1.2.2.2.1, .int .i64 a0.1.2.2.2.2.1, .int .i64 a0.1.2.2.2.2.2.1, .int .i64 a0.1.2.2.2.2.2.2.1, .int .i64 a0.1.2.2.2.2.2.2.2, .slice A1 a0.2.length c_1], ownC 75 (.pair .str .str) a0.2 (.slice A1 a0.2.length c_1), boxC b2 64 [.int .i64 a1.1, .string ⟨⟨a1.2.1⟩⟩, .string ⟨⟨a1.2.2.1⟩⟩, .int .i64 a1.2.2.2]] _ _ := h12
            refine RJ.fin [(4, .pointer (some ⟨b3, 0, none⟩))] rfl ?_
            refine J.ret ?_
            have h13 := h12.addNil 75 (.pair .str .str)
            obtain rfl := Option.some.inj H
            exact ⟨_, _, _, (results_two rfl (rvcons (RV.cell ttok 1 h13 rfl rfl rfl rfl) rvnil) rfl), ⟨_, _, rfl, rfl⟩, h13.only [0, 1, 1] rfl⟩
    · rw [c1] at e; cases e
  · replace H := ite_f c1 H
    refine J.seq ?_
    refine J.region ?_
    refine RJ.run ttok 2 rfl ?_
    refine RJ.fin [(0, .pointer (some ⟨b1, 0, none⟩)), (3, .pointer (some ⟨b2, 0, none⟩)), (4, .pointer (some ⟨b3, 0, none⟩)), (11, .int .i64 a1.1), (12, .bool (decide (a1.1 = 2)))] rfl ?_
    refine J.cond rfl (fun c5 => ?_) (fun c5 => ?_)
    · replace H := ite_t c5 H
      refine J.skip ?_
      refine J.cond rfl (fun e => ?_) (fun e => ?_)
      · refine J.seq ?_
        refine J.region ?_
        refine RJ.run ttok 1 rfl ?_
        refine RJ.q rfl rfl (q_load_box ttok 1 h2.wht rfl rfl rfl rfl rfl) ?_
        obtain ⟨r3, q3, H⟩ := bind_t H
        refine RJ.op rfl rfl (op_call [2, 2] (truth_Truth_may.spec q3) rfl rfl rfl h2 rfl gnil) ?_
        rintro _ w9 ⟨_, ⟨rfl, rfl⟩, h14⟩
        replace h14 : St w0 F0 [boxC b1 132 [.int .i64 a0.1.1, .int .i64 a0.1.2.1, .int .i64 a0.1.2.2.1, .int .i64 a0.1.2.2.2.1, .int .i64 a0.1.2.2.2.2.1, .int .i64 a0.1.2.2.2.2.2.1, .int .i64 a0.1.2.2.2.2.2.2.1, .int .i64 a0.1.2.2.2.2.2.2.2, .slice A1 a0.2.length c_1], ownC 75 (.pair .str .str) a0.2 (.slice A1 a0.2.length c_1), boxC b3 70 [.int .i64 0, .string ⟨⟨([] : List UInt8)⟩⟩, .slice none ([] : List (List UInt8 × List UInt8)).length 0], boxC b2 64 [.int .i64 a1.1, .string ⟨⟨a1.2.1⟩⟩, .string ⟨⟨a1.2.2.1⟩⟩, .int .i64 a1.2.2.2]] _ _ := h14
        refine RJ.run ttok 1 rfl ?_
        refine RJ.fin [(0, .pointer (some ⟨b1, 0, none⟩)), (3, .pointer (some ⟨b2, 0, none⟩)), (4, .pointer (some ⟨b3, 0, none⟩)), (19, .bool (!r3))] rfl ?_
        refine J.cond rfl (fun c6 => ?_) (fun c6 => ?_)
        · replace H := ite_t c6 H
          refine J.seq ?_
          refine J.region ?_
          refine RJ.run ttok 1 rfl ?_
          refine RJ.op rfl rfl (op_store ttok 2 rfl h14 rfl rfl rfl rfl rfl rfl rfl) ?_
          intro _ w10 h15
          replace h15 : St w0 F0 [boxC b3 70 [.int .i64 2, .string ⟨⟨([] : List UInt8)⟩⟩, .slice none ([] : List (List UInt8 × List UInt8)).length 0], boxC b1 132 [.int .i64 a0.1.1, .int .i64 a0.1.2.1, .int .i64 a0.1.2.2.1, .int .i64 a0.1.2.2.2.1, .int .i64 a0.1.2.2.2.2.1, .int .i64 a0.1.2.2.2.2.2.1, .int .i64 a0.1.2.2.2.2.2.2.1, .int .i64 a0.1.2.2.2.2.2.2.2, .slice A1 a0.2.length c_1], ownC 75 (.pair .str .str) a0.2 (.slice A1 a0.2.length c_1), boxC b2 64 [.int .i64 a1.1, .string ⟨⟨a1.2.1⟩⟩, .string ⟨⟨a1.2.2.1⟩⟩, .int .i64 a1.2.2.2]] _ _ := h15
          refine RJ.fin [(4, .pointer (some ⟨b3, 0, none⟩))] rfl ?_
          refine J.ret ?_
          have h16 := h15.addNil 75 (.pair .str .str)
          obtain rfl := Option.some.inj H
          exact ⟨_, _, _, (results_two rfl (rvcons (RV.cell ttok 1 h16 rfl rfl rfl rfl) rvnil) rfl), ⟨_, _, rfl, rfl⟩, h16.only [0, 1, 1] rfl⟩
        · replace H := ite_f c6 H
          refine J.skip ?_
          refine J.seq ?_
          refine J.seq ?_
          refine J.region ?_
          refine RJ.run ttok 1 rfl ?_
          refine RJ.q rfl rfl (q_load_box ttok 3 h14.wht rfl rfl rfl rfl rfl) ?_
          refine RJ.run ttok 1 rfl ?_
          refine RJ.fin [(0, .pointer (some ⟨b1, 0, none⟩)), (3, .pointer (some ⟨b2, 0, none⟩)), (4, .pointer (some ⟨b3, 0, none⟩)), (44, .bool (!decide (a1.1 = 3)))] rfl ?_
          refine J.cond rfl (fun c7 => ?_) (fun c7 => ?_)
          · replace H := ite_t c7 H
            refine J.seq ?_
            refine J.region ?_
            refine RJ.run ttok 1 rfl ?_
            refine RJ.op rfl rfl (op_store ttok 2 rfl h14 rfl rfl rfl rfl rfl rfl rfl) ?_
            intro _ w11 h17
            replace h17 : St w0 F0 [boxC b3 70 [.int .i64 0, .string ⟨⟨([] : List UInt8)⟩⟩, .slice none ([] : List (List UInt8 × List UInt8)).length 0], boxC b1 132 [.int .i64 a0.1.1, .int .i64 a0.1.2.1, .int .i64 a0.1.2.2.1, .int .i64 a0.1.2.2.2.1, .int .i64 a0.1.2.2.2.2.1, .int .i64 a0.1.2.2.2.2.2.1, .int .i64 a0.1.2.2.2.2.2.2.1, .int .i64 a0.1.2.2.2.2.2.2.2, .slice A1 a0.2.length c_1], ownC 75 (.pair .str .str) a0.2 (.slice A1 a0.2.length c_1), boxC b2 64 [.int .i64 a1.1, .string ⟨⟨a1.2.1⟩⟩, .string ⟨⟨a1.2.2.1⟩⟩, .int .i64 a1.2.2.2]] _ _ := h17
            refine RJ.fin [(4, .pointer (some ⟨b3, 0, none⟩))] rfl ?_
            refine J.ret ?_
            have h18 := h17.addNil 75 (.pair .str .str)
            obtain rfl := Option.some.inj H
            exact ⟨_, _, _, (results_two rfl (rvcons (RV.cell ttok 1 h18 rfl rfl rfl rfl) rvnil) rfl), ⟨_, _, rfl, rfl⟩, h18.only [0, 1, 1] rfl⟩
          · replace H := ite_f c7 H
            refine J.skip ?_
            refine J.seq ?_
            refine J.heldSt mix h14 ?_
            have h19 := h14.drew
            refine HJ.run ttok rfl [0, 1, 2, 4] rfl ?_
            refine HJ.q (i := 3) rfl rfl rfl rfl rfl rfl (q_load_box ttok 0 (fun w e => e) rfl rfl rfl rfl rfl) ?_
            refine HJ.q (i := 5) rfl rfl rfl rfl rfl rfl (q_load_box ttok 3 (fun w e => e) rfl rfl rfl rfl rfl) ?_
            obtain ⟨r4, q4, H⟩ := bind_t H
            refine HJ.op (i := 6) rfl rfl rfl rfl rfl (op_call [] (leaf_Get.spec q4) rfl rfl rfl h19 rfl (gcons (Gives.of 1 rfl own_rd) gnil)) ?_
            rintro _ w12 ⟨_, ⟨rfl, rfl⟩, h20⟩
            replace h20 : St w0 F0 [boxC b1 132 [.int .i64 a0.1.1, .int .i64 a0.1.2.1, .int .i64 a0.1.2.2.1, .int .i64 a0.1.2.2.2.1, .int .i64 a0.1.2.2.2.2.1, .int .i64 a0.1.2.2.2.2.2.1, .int .i64 a0.1.2.2.2.2.2.2.1, .int .i64 a0.1.2.2.2.2.2.2.2, .slice A1 a0.2.length c_1], ownC 75 (.pair .str .str) a0.2 (.slice A1 a0.2.length c_1), boxC b3 70 [.int .i64 0, .string ⟨⟨([] : List UInt8)⟩⟩, .slice none ([] : List (List UInt8 × List UInt8)).length 0], boxC b2 64 [.int .i64 a1.1, .string ⟨⟨a1.2.1⟩⟩, .string ⟨⟨a1.2.2.1⟩⟩, .int .i64 a1.2.2.2]] _ _ := h20
            refine ⟨⟨[], h20⟩, ?_⟩
            refine HJ.run ttok rfl [7, 8, 9, 10, 11] rfl ?_
            refine HJ.fin [(4, .pointer (some ⟨b3, 0, none⟩)), (5, .string ⟨⟨r4.1⟩⟩), (6, .bool r4.2)] rfl rfl ?_
            refine J.seq ?_
            refine J.seq ?_
            refine J.region ?_
            refine RJ.run ttok 2 rfl ?_
            refine RJ.fin [(4, .pointer (some ⟨b3, 0, none⟩)), (5, .string ⟨⟨r4.1⟩⟩), (57, .bool (!r4.2))] rfl ?_
            refine J.cond rfl (fun c8 => ?_) (fun c8 => ?_)
            · replace H := ite_t c8 H
              refine J.seq ?_
              refine J.region ?_
              refine RJ.run ttok 1 rfl ?_
              refine RJ.op rfl rfl (op_store ttok 2 rfl h20 rfl rfl rfl rfl rfl rfl rfl) ?_
              intro _ w13 h21
              replace h21 : St w0 F0 [boxC b3 70 [.int .i64 9, .string ⟨⟨([] : List UInt8)⟩⟩, .slice none ([] : List (List UInt8 × List UInt8)).length 0], boxC b1 132 [.int .i64 a0.1.1, .int .i64 a0.1.2.1, .int .i64 a0.1.2.2.1, .int .i64 a0.1.2.2.2.1, .int .i64 a0.1.2.2.2.2.1, .int .i64 a0.1.2.2.2.2.2.1, .int .i64 a0.1.2.2.2.2.2.2.1, .int .i64 a0.1.2.2.2.2.2.2.2, .slice A1 a0.2.length c_1], ownC 75 (.pair .str .str) a0.2 (.slice A1 a0.2.length c_1), boxC b2 64 [.int .i64 a1.1, .string ⟨⟨a1.2.1⟩⟩, .string ⟨⟨a1.2.2.1⟩⟩, .int .i64 a1.2.2.2]] _ _ := h21
              refine RJ.fin [(4, .pointer (some ⟨b3, 0, none⟩))] rfl ?_
              refine J.ret ?_
              have h22 := h21.addNil 75 (.pair .str .str)
              obtain rfl := Option.some.inj H
              exact ⟨_, _, _, (results_two rfl (rvcons (RV.cell ttok 1 h22 rfl rfl rfl rfl) rvnil) rfl), ⟨_, _, rfl, rfl⟩, h22.only [0, 1, 1] rfl⟩
            · replace H := ite_f c8 H
              refine J.skip ?_
              refine J.seq ?_
              refine J.region ?_
              refine RJ.run ttok 2 rfl ?_
              refine RJ.op rfl rfl (op_store ttok 2 rfl h20 rfl rfl rfl rfl rfl rfl rfl) ?_
              intro _ w14 h23
              replace h23 : St w0 F0 [boxC b3 70 [.int .i64 0, .string ⟨⟨r4.1⟩⟩, .slice none ([] : List (List UInt8 × List UInt8)).length 0], boxC b1 132 [.int .i64 a0.1.1, .int .i64 a0.1.2.1, .int .i64 a0.1.2.2.1, .int .i64 a0.1.2.2.2.1, .int .i64 a0.1.2.2.2.2.1, .int .i64 a0.1.2.2.2.2.2.1, .int .i64 a0.1.2.2.2.2.2.2.1, .int .i64 a0.1.2.2.2.2.2.2.2, .slice A1 a0.2.length c_1], ownC 75 (.pair .str .str) a0.2 (.slice A1 a0.2.length c_1), boxC b2 64 [.int .i64 a1.1, .string ⟨⟨a1.2.1⟩⟩, .string ⟨⟨a1.2.2.1⟩⟩, .int .i64 a1.2.2.2]] _ _ := h23
              refine RJ.fin [(4, .pointer (some ⟨b3, 0, none⟩))] rfl ?_
              refine J.ret ?_
              have h24 := h23.addNil 75 (.pair .str .str)
              obtain rfl := Option.some.inj H
              exact ⟨_, _, _, (results_two rfl (rvcons (RV.cell ttok 1 h24 rfl rfl rfl rfl) rvnil) rfl), ⟨_, _, rfl, rfl⟩, h24.only [0, 1, 1] rfl⟩
      · rw [c5] at e; cases e
    · replace H := ite_f c5 H
      refine J.region ?_
      refine RJ.run ttok 2 rfl ?_
      refine RJ.fin [(0, .pointer (some ⟨b1, 0, none⟩)), (3, .pointer (some ⟨b2, 0, none⟩)), (4, .pointer (some ⟨b3, 0, none⟩)), (11, .int .i64 a1.1), (12, .bool (decide (a1.1 = 3)))] rfl ?_
      refine J.cond rfl (fun c9 => ?_) (fun c9 => ?_)
      · replace H := ite_t c9 H
        refine J.seq ?_
        refine J.region ?_
        refine RJ.run ttok 1 rfl ?_
        refine RJ.q rfl rfl (q_load_box ttok 1 h2.wht rfl rfl rfl rfl rfl) ?_
        obtain ⟨r5, q5, H⟩ := bind_t H
        refine RJ.op rfl rfl (op_call [2, 2] (truth_Truth_may.spec q5) rfl rfl rfl h2 rfl gnil) ?_
        rintro _ w15 ⟨_, ⟨rfl, rfl⟩, h25⟩
        replace h25 : St w0 F0 [boxC b1 132 [.int .i64 a0.1.1, .int .i64 a0.1.2.1, .int .i64 a0.1.2.2.1, .int .i64 a0.1.2.2.2.1, .int .i64 a0.1.2.2.2.2.1, .int .i64 a0.1.2.2.2.2.2.1, .int .i64 a0.1.2.2.2.2.2.2.1, .int .i64 a0.1.2.2.2.2.2.2.2, .slice A1 a0.2.length c_1], ownC 75 (.pair .str .str) a0.2 (.slice A1 a0.2.length c_1), boxC b3 70 [.int .i64 0, .string ⟨⟨([] : List UInt8)⟩⟩, .slice none ([] : List (List UInt8 × List UInt8)).length 0], boxC b2 64 [.int .i64 a1.1, .string ⟨⟨a1.2.1⟩⟩, .string ⟨⟨a1.2.2.1⟩⟩, .int .i64 a1.2.2.2]] _ _ := h25
        refine RJ.run ttok 1 rfl ?_
        refine RJ.fin [(0, .pointer (some ⟨b1, 0, none⟩)), (3, .pointer (some ⟨b2, 0, none⟩)), (4, .pointer (some ⟨b3, 0, none⟩)), (19, .bool (!r5))] rfl ?_
        refine J.cond rfl (fun c10 => ?_) (fun c10 => ?_)
        · replace H := ite_t c10 H
          refine J.seq ?_
          refine J.region ?_
          refine RJ.run ttok 1 rfl ?_
          refine RJ.op rfl rfl (op_store ttok 2 rfl h25 rfl rfl rfl rfl rfl rfl rfl) ?_
          intro _ w16 h26
          replace h26 : St w0 F0 [boxC b3 70 [.int .i64 2, .string ⟨⟨([] : List UInt8)⟩⟩, .slice none ([] : List (List UInt8 × List UInt8)).length 0], boxC b1 132 [.int .i64 a0.1.1, .int .i64 a0.1.2.1, .int .i64 a0.1.2.2.1, .int .i64 a0.1.2.2.2.1, .int .i64 a0.1.2.2.2.2.1, .int .i64 a0.1.2.2.2.2.2.1, .int .i64 a0.1.2.2.2.2.2.2.1, .int .i64 a0.1.2.2.2.2.2.2.2, .slice A1 a0.2.length c_1], ownC 75 (.pair .str .str) a0.2 (.slice A1 a0.2.length c_1), boxC b2 64 [.int .i64 a1.1, .string ⟨⟨a1.2.1⟩⟩, .string ⟨⟨a1.2.2.1⟩⟩, .int .i64 a1.2.2.2]] _ _ := h26
          refine RJ.fin [(4, .pointer (some ⟨b3, 0, none⟩))] rfl ?_
          refine J.ret ?_
          have h27 := h26.addNil 75 (.pair .str .str)
          obtain rfl := Option.some.inj H
          exact ⟨_, _, _, (results_two rfl (rvcons (RV.cell ttok 1 h27 rfl rfl rfl rfl) rvnil) rfl), ⟨_, _, rfl, rfl⟩, h27.only [0, 1, 1] rfl⟩
        · replace H := ite_f c10 H
          refine J.skip ?_
          refine J.seq ?_
          refine J.seq ?_
          refine J.region ?_
          refine RJ.run ttok 1 rfl ?_
          refine RJ.q rfl rfl (q_load_box ttok 3 h25.wht rfl rfl rfl rfl rfl) ?_
          refine RJ.run ttok 1 rfl ?_
          refine RJ.fin [(0, .pointer (some ⟨b1, 0, none⟩)), (3, .pointer (some ⟨b2, 0, none⟩)), (4, .pointer (some ⟨b3, 0, none⟩)), (44, .bool (!decide (a1.1 = 3)))] rfl ?_
          refine J.cond rfl (fun c11 => ?_) (fun c11 => ?_)
          · replace H := ite_t c11 H
            refine J.seq ?_
            refine J.region ?_
            refine RJ.run ttok 1 rfl ?_
            refine RJ.op rfl rfl (op_store ttok 2 rfl h25 rfl rfl rfl rfl rfl rfl rfl) ?_
            intro _ w17 h28
            replace h28 : St w0 F0 [boxC b3 70 [.int .i64 0, .string ⟨⟨([] : List UInt8)⟩⟩, .slice none ([] : List (List UInt8 × List UInt8)).length 0], boxC b1 132 [.int .i64 a0.1.1, .int .i64 a0.1.2.1, .int .i64 a0.1.2.2.1, .int .i64 a0.1.2.2.2.1, .int .i64 a0.1.2.2.2.2.1, .int .i64 a0.1.2.2.2.2.2.1, .int .i64 a0.1.2.2.2.2.2.2.1, .int .i64 a0.1.2.2.2.2.2.2.2, .slice A1 a0.2.length c_1], ownC 75 (.pair .str .str) a0.2 (.slice A1 a0.2.length c_1), boxC b2 64 [.int .i64 a1.1, .string ⟨⟨a1.2.1⟩⟩, .string ⟨⟨a1.2.2.1⟩⟩, .int .i64 a1.2.2.2]] _ _ := h28
            refine RJ.fin [(4, .pointer (some ⟨b3, 0, none⟩))] rfl ?_
            refine J.ret ?_
            have h29 := h28.addNil 75 (.pair .str .str)
            obtain rfl := Option.some.inj H
            exact ⟨_, _, _, (results_two rfl (rvcons (RV.cell ttok 1 h29 rfl rfl rfl rfl) rvnil) rfl), ⟨_, _, rfl, rfl⟩, h29.only [0, 1, 1] rfl⟩
          · replace H := ite_f c11 H
            refine J.skip ?_
            refine J.seq ?_
            refine J.heldSt mix h25 ?_
            have h30 := h25.drew
            refine HJ.run ttok rfl [0, 1, 2, 4] rfl ?_
            refine HJ.q (i := 3) rfl rfl rfl rfl rfl rfl (q_load_box ttok 0 (fun w e => e) rfl rfl rfl rfl rfl) ?_
            refine HJ.q (i := 5) rfl rfl rfl rfl rfl rfl (q_load_box ttok 3 (fun w e => e) rfl rfl rfl rfl rfl) ?_
            obtain ⟨r6, q6, H⟩ := bind_t H
            refine HJ.op (i := 6) rfl rfl rfl rfl rfl (op_call [] (leaf_Get.spec q6) rfl rfl rfl h30 rfl (gcons (Gives.of 1 rfl own_rd) gnil)) ?_
            rintro _ w18 ⟨_, ⟨rfl, rfl⟩, h31⟩
            replace h31 : St w0 F0 [boxC b1 132 [.int .i64 a0.1.1, .int .i64 a0.1.2.1, .int .i64 a0.1.2.2.1, .int .i64 a0.1.2.2.2.1, .int .i64 a0.1.2.2.2.2.1, .int .i64 a0.1.2.2.2.2.2.1, .int .i64 a0.1.2.2.2.2.2.2.1, .int .i64 a0.1.2.2.2.2.2.2.2, .slice A1 a0.2.length c_1], ownC 75 (.pair .str .str) a0.2 (.slice A1 a0.2.length c_1), boxC b3 70 [.int .i64 0, .string ⟨⟨([] : List UInt8)⟩⟩, .slice none ([] : List (List UInt8 × List UInt8)).length 0], boxC b2 64 [.int .i64 a1.1, .string ⟨⟨a1.2.1⟩⟩, .string ⟨⟨a1.2.2.1⟩⟩, .int .i64 a1.2.2.2]] _ _ := h31
            refine ⟨⟨[], h31⟩, ?_⟩
            refine HJ.run ttok rfl [7, 8, 9, 10, 11] rfl ?_
            refine HJ.fin [(4, .pointer (some ⟨b3, 0, none⟩)), (5, .string ⟨⟨r6.1⟩⟩), (6, .bool r6.2)] rfl rfl ?_
            refine J.seq ?_
            refine J.seq ?_
            refine J.region ?_
            refine RJ.run ttok 2 rfl ?_
            refine RJ.fin [(4, .pointer (some ⟨b3, 0, none⟩)), (5, .string ⟨⟨r6.1⟩⟩), (57, .bool (!r6.2))] rfl ?_
            refine J.cond rfl (fun c12 => ?_) (fun c12 => ?_)
            · replace H := ite_t c12 H
              refine J.seq ?_
              refine J.region ?_
              refine RJ.run ttok 1 rfl ?_
              refine RJ.op rfl rfl (op_store ttok 2 rfl h31 rfl rfl rfl rfl rfl rfl rfl) ?_
              intro _ w19 h32
              replace h32 : St w0 F0 [boxC b3 70 [.int .i64 9, .string ⟨⟨([] : List UInt8)⟩⟩, .slice none ([] : List (List UInt8 × List UInt8)).length 0], boxC b1 132 [.int .i64 a0.1.1, .int .i64 a0.1.2.1, .int .i64 a0.1.2.2.1, .int .i64 a0.1.2.2.2.1, .int .i64 a0.1.2.2.2.2.1, .int .i64 a0.1.2.2.2.2.2.1, .int .i64 a0.1.2.2.2.2.2.2.1, .int .i64 a0.1.2.2.2.2.2.2.2, .slice A1 a0.2.length c_1], ownC 75 (.pair .str .str) a0.2 (.slice A1 a0.2.length c_1), boxC b2 64 [.int .i64 a1.1, .string ⟨⟨a1.2.1⟩⟩, .string ⟨⟨a1.2.2.1⟩⟩, .int .i64 a1.2.2.2]] _ _ := h32
              refine RJ.fin [(4, .pointer (some ⟨b3, 0, none⟩))] rfl ?_
              refine J.ret ?_
              have h33 := h32.addNil 75 (.pair .str .str)
              obtain rfl := Option.some.inj H
              exact ⟨_, _, _, (results_two rfl (rvcons (RV.cell ttok 1 h33 rfl rfl rfl rfl) rvnil) rfl), ⟨_, _, rfl, rfl⟩, h33.only [0, 1, 1] rfl⟩
            · replace H := ite_f c12 H
              refine J.skip ?_
              refine J.seq ?_
              refine J.region ?_
              refine RJ.run ttok 2 rfl ?_
              refine RJ.op rfl rfl (op_store ttok 2 rfl h31 rfl rfl rfl rfl rfl rfl rfl) ?_
              intro _ w20 h34
              replace h34 : St w0 F0 [boxC b3 70 [.int .i64 0, .string ⟨⟨r6.1⟩⟩, .slice none ([] : List (List UInt8 × List UInt8)).length 0], boxC b1 132 [.int .i64 a0.1.1, .int .i64 a0.1.2.1, .int .i64 a0.1.2.2.1, .int .i64 a0.1.2.2.2.1, .int .i64 a0.1.2.2.2.2.1, .int .i64 a0.1.2.2.2.2.2.1, .int .i64 a0.1.2.2.2.2.2.2.1, .int .i64 a0.1.2.2.2.2.2.2.2, .slice A1 a0.2.length c_1], ownC 75 (.pair .str .str) a0.2 (.slice A1 a0.2.length c_1), boxC b2 64 [.int .i64 a1.1, .string ⟨⟨a1.2.1⟩⟩, .string ⟨⟨a1.2.2.1⟩⟩, .int .i64 a1.2.2.2]] _ _ := h34
              refine RJ.fin [(4, .pointer (some ⟨b3, 0, none⟩))] rfl ?_
              refine J.ret ?_
              have h35 := h34.addNil 75 (.pair .str .str)
              obtain rfl := Option.some.inj H
              exact ⟨_, _, _, (results_two rfl (rvcons (RV.cell ttok 1 h35 rfl rfl rfl rfl) rvnil) rfl), ⟨_, _, rfl, rfl⟩, h35.only [0, 1, 1] rfl⟩
      · replace H := ite_f c9 H
        refine J.seq ?_
        refine J.region ?_
        refine RJ.run ttok 2 rfl ?_
        refine RJ.fin [(0, .pointer (some ⟨b1, 0, none⟩)), (3, .pointer (some ⟨b2, 0, none⟩)), (4, .pointer (some ⟨b3, 0, none⟩)), (21, .bool (decide (a1.1 = 4)))] rfl ?_
        refine J.cond rfl (fun c13 => ?_) (fun c13 => ?_)
        · replace H := ite_t c13 H
          refine J.seq ?_
          refine J.region ?_
          refine RJ.run ttok 1 rfl ?_
          refine RJ.q rfl rfl (q_load_box ttok 1 h2.wht rfl rfl rfl rfl rfl) ?_
          refine RJ.run ttok 1 rfl ?_
          refine RJ.q rfl rfl (q_load_box ttok 1 h2.wht rfl rfl rfl rfl rfl) ?_
          obtain ⟨r7, q7, H⟩ := bind_t H
          refine RJ.op rfl rfl (op_call [] (lex_Compare.spec q7) rfl rfl rfl h2 rfl gnil) ?_
          rintro _ w21 ⟨_, ⟨rfl, rfl⟩, h36⟩
          replace h36 : St w0 F0 [boxC b3 70 [.int .i64 0, .string ⟨⟨([] : List UInt8)⟩⟩, .slice none ([] : List (List UInt8 × List UInt8)).length 0], boxC b2 64 [.int .i64 a1.1, .string ⟨⟨a1.2.1⟩⟩, .string ⟨⟨a1.2.2.1⟩⟩, .int .i64 a1.2.2.2], boxC b1 132 [.int .i64 a0.1.1, .int .i64 a0.1.2.1, .int .i64 a0.1.2.2.1, .int .i64 a0.1.2.2.2.1, .int .i64 a0.1.2.2.2.2.1, .int .i64 a0.1.2.2.2.2.2.1, .int .i64 a0.1.2.2.2.2.2.2.1, .int .i64 a0.1.2.2.2.2.2.2.2, .slice A1 a0.2.length c_1], ownC 75 (.pair .str .str) a0.2 (.slice A1 a0.2.length c_1)] _ _ := h36
          refine RJ.run ttok 1 rfl ?_
          refine RJ.fin [(0, .pointer (some ⟨b1, 0, none⟩)), (3, .pointer (some ⟨b2, 0, none⟩)), (4, .pointer (some ⟨b3, 0, none⟩)), (28, .bool (decide (r7 < 0)))] rfl ?_
          refine J.cond rfl (fun c14 => ?_) (fun c14 => ?_)
          · replace H := ite_t c14 H
            refine J.seq ?_
            refine J.heldSt mix (h36.only [1, 1, 1] rfl) ?_
            have h37 := h36.drew
            refine HJ.run ttok rfl [0, 1, 2, 4, 6, 9] rfl ?_
            refine HJ.q (i := 3) rfl rfl rfl rfl rfl rfl (q_load_box ttok 1 (fun w e => e) rfl rfl rfl rfl rfl) ?_
            refine HJ.q (i := 5) rfl rfl rfl rfl rfl rfl (q_load_box ttok 0 (fun w e => e) rfl rfl rfl rfl rfl) ?_
            refine HJ.q (i := 7) rfl rfl rfl rfl rfl rfl (q_load_box ttok 0 (fun w e => e) rfl rfl rfl rfl rfl) ?_
            refine HJ.run ttok rfl [8] rfl ?_
            refine HJ.q (i := 10) rfl rfl rfl rfl rfl rfl (q_load_box ttok 0 (fun w e => e) rfl rfl rfl rfl rfl) ?_
            obtain ⟨r8, q8, H⟩ := bind_t H
            refine HJ.op (i := 11) rfl rfl rfl rfl rfl (op_call [] (leaf_Part.spec q8) rfl rfl rfl h37 rfl (gcons (Gives.of 3 rfl own_rd) gnil)) ?_
            rintro _ w22 ⟨_, ⟨A2, c_2, rfl, rfl⟩, h38⟩
            replace h38 : St w0 F0 [ownC 75 (.pair .str .str) r8 (.slice A2 r8.length c_2), boxC b3 70 [.int .i64 0, .string ⟨⟨([] : List UInt8)⟩⟩, .slice none ([] : List (List UInt8 × List UInt8)).length 0], boxC b2 64 [.int .i64 a1.1, .string ⟨⟨a1.2.1⟩⟩, .string ⟨⟨a1.2.2.1⟩⟩, .int .i64 a1.2.2.2], boxC b1 132 [.int .i64 a0.1.1, .int .i64 a0.1.2.1, .int .i64 a0.1.2.2.1, .int .i64 a0.1.2.2.2.1, .int .i64 a0.1.2.2.2.2.1, .int .i64 a0.1.2.2.2.2.2.1, .int .i64 a0.1.2.2.2.2.2.2.1, .int .i64 a0.1.2.2.2.2.2.2.2, .slice A1 a0.2.length c_1], ownC 75 (.pair .str .str) a0.2 (.slice A1 a0.2.length c_1)] _ _ := h38
            refine ⟨⟨[_, _], h38⟩, ?_⟩
            refine HJ.run ttok rfl [12] rfl ?_
            refine HJ.op (i := 13) rfl rfl rfl rfl rfl (op_store ttok 1 rfl h38 rfl rfl rfl rfl rfl rfl rfl) ?_
            intro _ w23 h39
            replace h39 : St w0 F0 [boxC b3 70 [.int .i64 0, .string ⟨⟨([] : List UInt8)⟩⟩, .slice A2 r8.length c_2], ownC 75 (.pair .str .str) r8 (.slice A2 r8.length c_2), boxC b2 64 [.int .i64 a1.1, .string ⟨⟨a1.2.1⟩⟩, .string ⟨⟨a1.2.2.1⟩⟩, .int .i64 a1.2.2.2], boxC b1 132 [.int .i64 a0.1.1, .int .i64 a0.1.2.1, .int .i64 a0.1.2.2.1, .int .i64 a0.1.2.2.2.1, .int .i64 a0.1.2.2.2.2.1, .int .i64 a0.1.2.2.2.2.2.1, .int .i64 a0.1.2.2.2.2.2.2.1, .int .i64 a0.1.2.2.2.2.2.2.2, .slice A1 a0.2.length c_1], ownC 75 (.pair .str .str) a0.2 (.slice A1 a0.2.length c_1)] _ _ := h39
            refine ⟨⟨[_, _], h39⟩, ?_⟩
            refine HJ.fin [(4, .pointer (some ⟨b3, 0, none⟩))] rfl rfl ?_
            refine J.ret ?_
            obtain rfl := Option.some.inj H
            exact ⟨_, _, _, (results_two rfl (rvcons (RV.cell ttok 0 h39 rfl rfl rfl rfl) rvnil) rfl), ⟨_, _, rfl, rfl⟩, h39.only [1, 2, 2] rfl⟩
          · replace H := ite_f c14 H
            refine J.skip ?_
            refine J.seq ?_
            refine J.seq ?_
            refine J.region ?_
            refine RJ.run ttok 1 rfl ?_
            refine RJ.q rfl rfl (q_load_box ttok 1 h36.wht rfl rfl rfl rfl rfl) ?_
            refine RJ.run ttok 1 rfl ?_
            refine RJ.fin [(0, .pointer (some ⟨b1, 0, none⟩)), (3, .pointer (some ⟨b2, 0, none⟩)), (4, .pointer (some ⟨b3, 0, none⟩)), (44, .bool (!decide (a1.1 = 3)))] rfl ?_
            refine J.cond rfl (fun c15 => ?_) (fun c15 => ?_)
            · replace H := ite_t c15 H
              refine J.seq ?_
              refine J.region ?_
              refine RJ.run ttok 1 rfl ?_
              refine RJ.op rfl rfl (op_store ttok 0 rfl h36 rfl rfl rfl rfl rfl rfl rfl) ?_
              intro _ w24 h40
              replace h40 : St w0 F0 [boxC b3 70 [.int .i64 0, .string ⟨⟨([] : List UInt8)⟩⟩, .slice none ([] : List (List UInt8 × List UInt8)).length 0], boxC b2 64 [.int .i64 a1.1, .string ⟨⟨a1.2.1⟩⟩, .string ⟨⟨a1.2.2.1⟩⟩, .int .i64 a1.2.2.2], boxC b1 132 [.int .i64 a0.1.1, .int .i64 a0.1.2.1, .int .i64 a0.1.2.2.1, .int .i64 a0.1.2.2.2.1, .int .i64 a0.1.2.2.2.2.1, .int .i64 a0.1.2.2.2.2.2.1, .int .i64 a0.1.2.2.2.2.2.2.1, .int .i64 a0.1.2.2.2.2.2.2.2, .slice A1 a0.2.length c_1], ownC 75 (.pair .str .str) a0.2 (.slice A1 a0.2.length c_1)] _ _ := h40
              refine RJ.fin [(4, .pointer (some ⟨b3, 0, none⟩))] rfl ?_
              refine J.ret ?_
              have h41 := h40.addNil 75 (.pair .str .str)
              obtain rfl := Option.some.inj H
              exact ⟨_, _, _, (results_two rfl (rvcons (RV.cell ttok 1 h41 rfl rfl rfl rfl) rvnil) rfl), ⟨_, _, rfl, rfl⟩, h41.only [0, 2, 2] rfl⟩
            · replace H := ite_f c15 H
              refine J.skip ?_
              refine J.seq ?_
              refine J.heldSt mix h36 ?_
              have h42 := h36.drew
              refine HJ.run ttok rfl [0, 1, 2, 4] rfl ?_
              refine HJ.q (i := 3) rfl rfl rfl rfl rfl rfl (q_load_box ttok 2 (fun w e => e) rfl rfl rfl rfl rfl) ?_
              refine HJ.q (i := 5) rfl rfl rfl rfl rfl rfl (q_load_box ttok 1 (fun w e => e) rfl rfl rfl rfl rfl) ?_
              obtain ⟨r9, q9, H⟩ := bind_t H
              refine HJ.op (i := 6) rfl rfl rfl rfl rfl (op_call [] (leaf_Get.spec q9) rfl rfl rfl h42 rfl (gcons (Gives.of 3 rfl own_rd) gnil)) ?_
              rintro _ w25 ⟨_, ⟨rfl, rfl⟩, h43⟩
              replace h43 : St w0 F0 [boxC b3 70 [.int .i64 0, .string ⟨⟨([] : List UInt8)⟩⟩, .slice none ([] : List (List UInt8 × List UInt8)).length 0], boxC b2 64 [.int .i64 a1.1, .string ⟨⟨a1.2.1⟩⟩, .string ⟨⟨a1.2.2.1⟩⟩, .int .i64 a1.2.2.2], boxC b1 132 [.int .i64 a0.1.1, .int .i64 a0.1.2.1, .int .i64 a0.1.2.2.1, .int .i64 a0.1.2.2.2.1, .int .i64 a0.1.2.2.2.2.1, .int .i64 a0.1.2.2.2.2.2.1, .int .i64 a0.1.2.2.2.2.2.2.1, .int .i64 a0.1.2.2.2.2.2.2.2, .slice A1 a0.2.length c_1], ownC 75 (.pair .str .str) a0.2 (.slice A1 a0.2.length c_1)] _ _ := h43
              refine ⟨⟨[], h43⟩, ?_⟩
              refine HJ.run ttok rfl [7, 8, 9, 10, 11] rfl ?_
              refine HJ.fin [(4, .pointer (some ⟨b3, 0, none⟩)), (5, .string ⟨⟨r9.1⟩⟩), (6, .bool r9.2)] rfl rfl ?_
              refine J.seq ?_
              refine J.seq ?_
              refine J.region ?_
              refine RJ.run ttok 2 rfl ?_
              refine RJ.fin [(4, .pointer (some ⟨b3, 0, none⟩)), (5, .string ⟨⟨r9.1⟩⟩), (57, .bool (!r9.2))] rfl ?_
              refine J.cond rfl (fun c16 => ?_) (fun c16 => ?_)
              · replace H := ite_t c16 H
                refine J.seq ?_
                refine J.region ?_
                refine RJ.run ttok 1 rfl ?_
                refine RJ.op rfl rfl (op_store ttok 0 rfl h43 rfl rfl rfl rfl rfl rfl rfl) ?_
                intro _ w26 h44
                replace h44 : St w0 F0 [boxC b3 70 [.int .i64 9, .string ⟨⟨([] : List UInt8)⟩⟩, .slice none ([] : List (List UInt8 × List UInt8)).length 0], boxC b2 64 [.int .i64 a1.1, .string ⟨⟨a1.2.1⟩⟩, .string ⟨⟨a1.2.2.1⟩⟩, .int .i64 a1.2.2.2], boxC b1 132 [.int .i64 a0.1.1, .int .i64 a0.1.2.1, .int .i64 a0.1.2.2.1, .int .i64 a0.1.2.2.2.1, .int .i64 a0.1.2.2.2.2.1, .int .i64 a0.1.2.2.2.2.2.1, .int .i64 a0.1.2.2.2.2.2.2.1, .int .i64 a0.1.2.2.2.2.2.2.2, .slice A1 a0.2.length c_1], ownC 75 (.pair .str .str) a0.2 (.slice A1 a0.2.length c_1)] _ _ := h44
                refine RJ.fin [(4, .pointer (some ⟨b3, 0, none⟩))] rfl ?_
                refine J.ret ?_
                have h45 := h44.addNil 75 (.pair .str .str)
                obtain rfl := Option.some.inj H
                exact ⟨_, _, _, (results_two rfl (rvcons (RV.cell ttok 1 h45 rfl rfl rfl rfl) rvnil) rfl), ⟨_, _, rfl, rfl⟩, h45.only [0, 2, 2] rfl⟩
              · replace H := ite_f c16 H
                refine J.skip ?_
                refine J.seq ?_
                refine J.region ?_
                refine RJ.run ttok 2 rfl ?_
                refine RJ.op rfl rfl (op_store ttok 0 rfl h43 rfl rfl rfl rfl rfl rfl rfl) ?_
                intro _ w27 h46
                replace h46 : St w0 F0 [boxC b3 70 [.int .i64 0, .string ⟨⟨r9.1⟩⟩, .slice none ([] : List (List UInt8 × List UInt8)).length 0], boxC b2 64 [.int .i64 a1.1, .string ⟨⟨a1.2.1⟩⟩, .string ⟨⟨a1.2.2.1⟩⟩, .int .i64 a1.2.2.2], boxC b1 132 [.int .i64 a0.1.1, .int .i64 a0.1.2.1, .int .i64 a0.1.2.2.1, .int .i64 a0.1.2.2.2.1, .int .i64 a0.1.2.2.2.2.1, .int .i64 a0.1.2.2.2.2.2.1, .int .i64 a0.1.2.2.2.2.2.2.1, .int .i64 a0.1.2.2.2.2.2.2.2, .slice A1 a0.2.length c_1], ownC 75 (.pair .str .str) a0.2 (.slice A1 a0.2.length c_1)] _ _ := h46
                refine RJ.fin [(4, .pointer (some ⟨b3, 0, none⟩))] rfl ?_
                refine J.ret ?_
                have h47 := h46.addNil 75 (.pair .str .str)
                obtain rfl := Option.some.inj H
                exact ⟨_, _, _, (results_two rfl (rvcons (RV.cell ttok 1 h47 rfl rfl rfl rfl) rvnil) rfl), ⟨_, _, rfl, rfl⟩, h47.only [0, 2, 2] rfl⟩
        · replace H := ite_f c13 H
          refine J.skip ?_
          refine J.seq ?_
          refine J.seq ?_
          refine J.region ?_
          refine RJ.run ttok 1 rfl ?_
          refine RJ.q rfl rfl (q_load_box ttok 1 h2.wht rfl rfl rfl rfl rfl) ?_
          refine RJ.run ttok 1 rfl ?_
          refine RJ.fin [(0, .pointer (some ⟨b1, 0, none⟩)), (3, .pointer (some ⟨b2, 0, none⟩)), (4, .pointer (some ⟨b3, 0, none⟩)), (44, .bool (!decide (a1.1 = 3)))] rfl ?_
          refine J.cond rfl (fun c17 => ?_) (fun c17 => ?_)
          · replace H := ite_t c17 H
            refine J.seq ?_
            refine J.region ?_
            refine RJ.run ttok 1 rfl ?_
            refine RJ.op rfl rfl (op_store ttok 0 rfl h2 rfl rfl rfl rfl rfl rfl rfl) ?_
            intro _ w28 h48
            replace h48 : St w0 F0 [boxC b3 70 [.int .i64 0, .string ⟨⟨([] : List UInt8)⟩⟩, .slice none ([] : List (List UInt8 × List UInt8)).length 0], boxC b2 64 [.int .i64 a1.1, .string ⟨⟨a1.2.1⟩⟩, .string ⟨⟨a1.2.2.1⟩⟩, .int .i64 a1.2.2.2], boxC b1 132 [.int .i64 a0.1.1, .int .i64 a0.1.2.1, .int .i64 a0.1.2.2.1, .int .i64 a0.1.2.2.2.1, .int .i64 a0.1.2.2.2.2.1, .int .i64 a0.1.2.2.2.2.2.1, .int .i64 a0.1.2.2.2.2.2.2.1, .int .i64 a0.1.2.2.2.2.2.2.2, .slice A1 a0.2.length c_1], ownC 75 (.pair .str .str) a0.2 (.slice A1 a0.2.length c_1)] _ _ := h48
            refine RJ.fin [(4, .pointer (some ⟨b3, 0, none⟩))] rfl ?_
            refine J.ret ?_
            have h49 := h48.addNil 75 (.pair .str .str)
            obtain rfl := Option.some.inj H
            exact ⟨_, _, _, (results_two rfl (rvcons (RV.cell ttok 1 h49 rfl rfl rfl rfl) rvnil) rfl), ⟨_, _, rfl, rfl⟩, h49.only [0, 2, 2] rfl⟩
          · replace H := ite_f c17 H
            refine J.skip ?_
            refine J.seq ?_
            refine J.heldSt mix h2 ?_
            have h50 := h2.drew
            refine HJ.run ttok rfl [0, 1, 2, 4] rfl ?_
            refine HJ.q (i := 3) rfl rfl rfl rfl rfl rfl (q_load_box ttok 2 (fun w e => e) rfl rfl rfl rfl rfl) ?_
            refine HJ.q (i := 5) rfl rfl rfl rfl rfl rfl (q_load_box ttok 1 (fun w e => e) rfl rfl rfl rfl rfl) ?_
            obtain ⟨r10, q10, H⟩ := bind_t H
            refine HJ.op (i := 6) rfl rfl rfl rfl rfl (op_call [] (leaf_Get.spec q10) rfl rfl rfl h50 rfl (gcons (Gives.of 3 rfl own_rd) gnil)) ?_
            rintro _ w29 ⟨_, ⟨rfl, rfl⟩, h51⟩
            replace h51 : St w0 F0 [boxC b3 70 [.int .i64 0, .string ⟨⟨([] : List UInt8)⟩⟩, .slice none ([] : List (List UInt8 × List UInt8)).length 0], boxC b2 64 [.int .i64 a1.1, .string ⟨⟨a1.2.1⟩⟩, .string ⟨⟨a1.2.2.1⟩⟩, .int .i64 a1.2.2.2], boxC b1 132 [.int .i64 a0.1.1, .int .i64 a0.1.2.1, .int .i64 a0.1.2.2.1, .int .i64 a0.1.2.2.2.1, .int .i64 a0.1.2.2.2.2.1, .int .i64 a0.1.2.2.2.2.2.1, .int .i64 a0.1.2.2.2.2.2.2.1, .int .i64 a0.1.2.2.2.2.2.2.2, .slice A1 a0.2.length c_1], ownC 75 (.pair .str .str) a0.2 (.slice A1 a0.2.length c_1)] _ _ := h51
            refine ⟨⟨[], h51⟩, ?_⟩
            refine HJ.run ttok rfl [7, 8, 9, 10, 11] rfl ?_
            refine HJ.fin [(4, .pointer (some ⟨b3, 0, none⟩)), (5, .string ⟨⟨r10.1⟩⟩), (6, .bool r10.2)] rfl rfl ?_
            refine J.seq ?_
            refine J.seq ?_
            refine J.region ?_
            refine RJ.run ttok 2 rfl ?_
            refine RJ.fin [(4, .pointer (some ⟨b3, 0, none⟩)), (5, .string ⟨⟨r10.1⟩⟩), (57, .bool (!r10.2))] rfl ?_
            refine J.cond rfl (fun c18 => ?_) (fun c18 => ?_)
            · replace H := ite_t c18 H
              refine J.seq ?_
              refine J.region ?_
              refine RJ.run ttok 1 rfl ?_
              refine RJ.op rfl rfl (op_store ttok 0 rfl h51 rfl rfl rfl rfl rfl rfl rfl) ?_
              intro _ w30 h52
              replace h52 : St w0 F0 [boxC b3 70 [.int .i64 9, .string ⟨⟨([] : List UInt8)⟩⟩, .slice none ([] : List (List UInt8 × List UInt8)).length 0], boxC b2 64 [.int .i64 a1.1, .string ⟨⟨a1.2.1⟩⟩, .string ⟨⟨a1.2.2.1⟩⟩, .int .i64 a1.2.2.2], boxC b1 132 [.int .i64 a0.1.1, .int .i64 a0.1.2.1, .int .i64 a0.1.2.2.1, .int .i64 a0.1.2.2.2.1, .int .i64 a0.1.2.2.2.2.1, .int .i64 a0.1.2.2.2.2.2.1, .int .i64 a0.1.2.2.2.2.2.2.1, .int .i64 a0.1.2.2.2.2.2.2.2, .slice A1 a0.2.length c_1], ownC 75 (.pair .str .str) a0.2 (.slice A1 a0.2.length c_1)] _ _ := h52
              refine RJ.fin [(4, .pointer (some ⟨b3, 0, none⟩))] rfl ?_
              refine J.ret ?_
              have h53 := h52.addNil 75 (.pair .str .str)
              obtain rfl := Option.some.inj H
              exact ⟨_, _, _, (results_two rfl (rvcons (RV.cell ttok 1 h53 rfl rfl rfl rfl) rvnil) rfl), ⟨_, _, rfl, rfl⟩, h53.only [0, 2, 2] rfl⟩
            · replace H := ite_f c18 H
              refine J.skip ?_
              refine J.seq ?_
              refine J.region ?_
              refine RJ.run ttok 2 rfl ?_
              refine RJ.op rfl rfl (op_store ttok 0 rfl h51 rfl rfl rfl rfl rfl rfl rfl) ?_
              intro _ w31 h54
              replace h54 : St w0 F0 [boxC b3 70 [.int .i64 0, .string ⟨⟨r10.1⟩⟩, .slice none ([] : List (List UInt8 × List UInt8)).length 0], boxC b2 64 [.int .i64 a1.1, .string ⟨⟨a1.2.1⟩⟩, .string ⟨⟨a1.2.2.1⟩⟩, .int .i64 a1.2.2.2], boxC b1 132 [.int .i64 a0.1.1, .int .i64 a0.1.2.1, .int .i64 a0.1.2.2.1, .int .i64 a0.1.2.2.2.1, .int .i64 a0.1.2.2.2.2.1, .int .i64 a0.1.2.2.2.2.2.1, .int .i64 a0.1.2.2.2.2.2.2.1, .int .i64 a0.1.2.2.2.2.2.2.2, .slice A1 a0.2.length c_1], ownC 75 (.pair .str .str) a0.2 (.slice A1 a0.2.length c_1)] _ _ := h54
              refine RJ.fin [(4, .pointer (some ⟨b3, 0, none⟩))] rfl ?_
              refine J.ret ?_
              have h55 := h54.addNil 75 (.pair .str .str)
              obtain rfl := Option.some.inj H
              exact ⟨_, _, _, (results_two rfl (rvcons (RV.cell ttok 1 h55 rfl rfl rfl rfl) rvnil) rfl), ⟨_, _, rfl, rfl⟩, h55.only [0, 2, 2] rfl⟩

/-! slices.Delete[[]sluicegate/api.Pair,sluicegate/api.Pair] -/
def slices_Delete_api_Pair_api_Pair.f (a0 : List (List UInt8 × List UInt8)) (a1 : Int) (a2 : Int) : Option (List (List UInt8 × List UInt8)) :=
  if 0 ≤ a1 ∧ a1 ≤ a2 ∧ a2 ≤ (a0.length : Int) then some (a0.take a1.toNat ++ a0.drop a2.toNat) else none
set_option maxRecDepth 20000 in
set_option maxHeartbeats 4000000 in
theorem slices_Delete_api_Pair_api_Pair.spec {a0 : List (List UInt8 × List UInt8)} {a1 : Int} {a2 : Int} {A1 : Option Addr} {c_1 : Nat} {r : List (List UInt8 × List UInt8)} (H : slices_Delete_api_Pair_api_Pair.f a0 a1 a2 = some r) :
    Spec Try.prog 120 [.slice A1 a0.length c_1, .int .i64 a1, .int .i64 a2] [ownC 75 (.pair .str .str) a0 (.slice A1 a0.length c_1)] []
      (fun v l => ∃ (A_0 : Option Addr) (c_0 : Nat), v = .slice A_0 r.length c_0 ∧ l = [ownC 75 (.pair .str .str) r (.slice A_0 r.length c_0)]) := by
  refine Spec.enter Try.func120 rfl (by kernel_rfl) (by kernel_rfl) fun w0 F0 h0 => ?_
  unfold slices_Delete_api_Pair_api_Pair.f at H
  obtain ⟨⟨p0, p1, p2⟩, H⟩ := guard_t H
  obtain rfl := Option.some.inj H
  clear H
  obtain ⟨i, rfl⟩ := Int.eq_ofNat_of_zero_le p0
  obtain ⟨j, rfl⟩ := Int.eq_ofNat_of_zero_le (show 0 ≤ a2 by omega)
  have hij : i ≤ j := by omega
  have hj : j ≤ a0.length := by omega
  have hc1 := h0.cap (Gives.of 0 rfl own_rd)
  simp only [Int.toNat_natCast]
  refine J.seq ?_
  refine J.region ?_
  refine RJ.run ttok 1 rfl ?_
  refine RJ.fin [(0, .slice A1 a0.length c_1), (1, .int .i64 (i : Int)), (2, .int .i64 (j : Int))] rfl ?_
  refine J.seq ?_
  refine J.region ?_
  refine RJ.run ttok 5 rfl ?_
  refine RJ.q rfl rfl (q_cut3 (l := (i : Int)) (h := (j : Int)) (m := (a0.length : Int)) ttok rfl rfl rfl rfl hc1 rfl rfl rfl p0 p1 p2 (by omega)) ?_
  refine RJ.fin [(0, .slice A1 a0.length c_1), (1, .int .i64 (i : Int)), (2, .int .i64 (j : Int))] rfl ?_
  refine J.seq ?_
  refine J.seq ?_
  refine J.region ?_
  refine RJ.run ttok 3 rfl ?_
  refine RJ.fin [(0, .slice A1 a0.length c_1), (1, .int .i64 (i : Int)), (2, .int .i64 (j : Int)), (16, .bool (decide ((i : Int) = (j : Int))))] rfl ?_
  refine J.cond rfl (fun c => ?_) (fun c => ?_)
  · have e : i = j := by have := of_decide_eq_true c; omega
    refine J.seq ?_
    refine J.region ?_
    refine RJ.run ttok 2 rfl ?_
    refine RJ.fin [(6, .slice A1 a0.length c_1)] rfl ?_
    refine J.ret ?_
    have e : a0.take i ++ a0.drop j = a0 := by rw [e, List.take_append_drop]
    rw [e]
    exact ⟨_, _, _, (results_slots rfl), ⟨_, _, rfl, rfl⟩, h0.only [0] rfl⟩
  · refine J.skip ?_
    have hlt : i < j := by have := of_decide_eq_false c; omega
    rcases h0.openRow (ty := (.pair .str .str)) rfl 0 rfl with ⟨_, e, _⟩ | ⟨b, sp, rfl, hc, hcm, hsp, h1⟩
    · rw [e] at hj; simp at hj; omega
    have hX := flat_len (ty := (.pair .str .str)) rfl a0
    have nn : Ty.n (.pair .str .str) = 2 := rfl
    have oX := scal_one (ty := (.pair .str .str)) rfl a0
    have eT : (a0.flatMap (Ty.enc (.pair .str .str))).take (i * 2) = (a0.take i).flatMap (Ty.enc (.pair .str .str)) := flat_take (ty := (.pair .str .str)) rfl a0 i
    have eD : (a0.flatMap (Ty.enc (.pair .str .str))).drop (j * 2) = (a0.drop j).flatMap (Ty.enc (.pair .str .str)) := flat_drop (ty := (.pair .str .str)) rfl a0 j
    have eR : (a0.take i ++ a0.drop j).flatMap (Ty.enc (.pair .str .str)) = (a0.flatMap (Ty.enc (.pair .str .str))).take (i * 2) ++ (a0.flatMap (Ty.enc (.pair .str .str))).drop (j * 2) := by rw [eT, eD, List.flatMap_append]
    have lR : (a0.take i ++ a0.drop j).length = i + (a0.length - j) := by simp only [List.length_append, List.length_take, List.length_drop]; omega
    rw [nn] at hX hsp
    obtain ⟨X, hXe⟩ : ∃ X, X = a0.flatMap (Ty.enc (.pair .str .str)) := ⟨_, rfl⟩
    rw [← hXe] at hX eR h1 oX
    refine J.seq ?_
    refine J.region ?_
    refine RJ.run ttok 3 rfl ?_
    refine RJ.fin [(0, .slice (some ⟨b, 0, none⟩) a0.length c_1), (1, .int .i64 (i : Int)), (2, .int .i64 (j : Int)), (7, .int .i64 (a0.length : Int))] rfl ?_
    obtain ⟨G, ⟨hG, hh⟩, _⟩ := h1.own (k := 0) (c := boxC b 75 (X ++ sp)) rfl
    have lXs : (X ++ sp).length = c_1 * 2 := by rw [List.length_append]; omega
    have lS : ∀ w', w'.heap[b]? = some (.cells (X ++ sp).toArray 75 (0, 0)) → Lies w' (cutA (some ⟨b, 0, none⟩) c_1 j 2) (X.drop (j * 2)) := fun w' hw => by
      have := (lies_cutA hw lXs (l := j)).take ((a0.length - j) * 2)
      rwa [List.drop_append_of_le_length (by omega), List.take_append_of_le_length (by rw [List.length_drop]; omega), List.take_of_length_le (by rw [List.length_drop]; omega)] at this
    refine J.seq ?_
    refine J.heldSt mix (h1.only [] rfl) ?_
    have h2 := h1.drew
    refine HJ.run ttok rfl [0, 1] rfl ?_
    refine HJ.q (i := 2) rfl rfl rfl rfl rfl rfl (q_cutRaw ttok 0 (i : Int) 0 i c_1 rfl rfl rfl rfl hc rfl ⟨_, rfl⟩ (Int.le_refl _) p0 (by omega) (by omega) (by show 0 + 0 * 2 = 0; omega) (by omega) (by omega)) ?_
    refine HJ.run ttok rfl [3, 4] rfl ?_
    refine HJ.q (i := 5) rfl rfl rfl rfl rfl rfl (q_cut (l := (j : Int)) (h := (a0.length : Int)) (sub := a0.drop j) ttok rfl rfl rfl rfl hc ⟨_, rfl⟩ rfl (by omega) p2 (Int.le_refl _) (by simpa using cut_from a0 (j : Int))) ?_
    refine HJ.op (i := 6) rfl rfl rfl rfl rfl (op_appendRaw ttok (cs := X.drop (j * 2)) 0 rfl h2 rfl rfl rfl rfl rfl (by rw [List.length_drop]; omega) (by show (X.drop (j * 2)).length = (a0.drop j).length * 2; rw [List.length_drop, List.length_drop]; omega) (by show i * 2 + _ ≤ _; rw [List.length_append, List.length_drop]; omega) (lS w0.drew hh) (fun u hu => oX u (List.mem_of_mem_drop hu))) ?_
    rintro _ w3 ⟨rfl, h3⟩
    refine ⟨⟨[_], h3⟩, ?_⟩
    replace h3 : St w0 F0 (boxC b 75 (layAt (i * 2) (X.drop (j * 2)) (X ++ sp)) :: []) [] w3 := h3
    refine HJ.know (t := 26) (v := .slice (some ⟨b, 0, none⟩) (i + (a0.length - j)) c_1) rfl (by rw [List.length_drop]) ?_
    refine HJ.run ttok rfl [7] rfl ?_
    refine HJ.fin [(0, .slice (some ⟨b, 0, none⟩) (i + (a0.length - j)) c_1), (7, .int .i64 (a0.length : Int))] rfl rfl ?_
    refine J.seq ?_
    refine J.region ?_
    refine RJ.run ttok 4 rfl ?_
    refine RJ.q rfl rfl (q_cutRaw ttok ((i + (a0.length - j) : Nat) : Int) (a0.length : Int) ((i + (a0.length - j)) * 2) (j - i) (c_1 - (i + (a0.length - j))) rfl rfl rfl rfl (by omega) ⟨_, rfl⟩ ⟨_, rfl⟩ (by omega) (by omega) (by omega) (by omega) (by show 0 + ((i + (a0.length - j) : Nat) : Int).toNat * 2 = _; omega) (by omega) (by omega)) ?_
    refine RJ.op rfl rfl (op_clearRaw ttok (ty := (.pair .str .str)) rfl (([] : List UInt8), ([] : List UInt8)) 0 rfl h3 rfl rfl rfl rfl rfl (by omega) (by simp only [layAt, List.length_append, List.length_take, List.length_drop, nn]; omega)) ?_
    intro _ w4 h4
    refine RJ.fin [(0, .slice (some ⟨b, 0, none⟩) (i + (a0.length - j)) c_1)] rfl ?_
    refine J.seq ?_
    refine J.region ?_
    refine RJ.run ttok 2 rfl ?_
    refine RJ.fin [(6, .slice (some ⟨b, 0, none⟩) (i + (a0.length - j)) c_1)] rfl ?_
    refine J.ret ?_
    have lZ := flat_len (ty := (.pair .str .str)) rfl (List.replicate (j - i) (([] : List UInt8), ([] : List UInt8)))
    rw [List.length_replicate, nn] at lZ
    have q := del_cells (X := X) (sp := sp) (Z := (List.replicate (j - i) (([] : List UInt8), ([] : List UInt8))).flatMap (Ty.enc (.pair .str .str))) (a := i * 2) (b := j * 2) (by omega) (by omega) (by omega)
    have e1 : (i + (a0.length - j)) * 2 = i * 2 + (X.length - j * 2) := by omega
    rw [e1] at h4
    have h5 := h4.closeRow (ty := (.pair .str .str)) (ys := a0.take i ++ a0.drop j) (c := c_1) rfl 0 rfl (by rw [lR]; omega) hcm (by rw [q.1, lXs, nn]) (by rw [eR, lR, nn, e1, q.2])
    exact ⟨_, _, _, (results_slots rfl), ⟨_, _, by rw [lR]; rfl, rfl⟩, h5.only [0] rfl⟩

/-! slices.Insert[[]sluicegate/api.Pair,sluicegate/api.Pair] -/
theorem slices_Insert_api_Pair_api_Pair.ov : Ov Try.prog 156 68 := Ov.of (rs := Try.f156.resultTypes) Try.func156 (by kernel_rfl) (by kernel_rfl) (by kernel_rfl) (by kernel_rfl)
def slices_Insert_api_Pair_api_Pair.f (a0 : List (List UInt8 × List UInt8)) (a1 : Int) (a2 : List (List UInt8 × List UInt8)) : Option (List (List UInt8 × List UInt8)) :=
  if 0 ≤ a1 ∧ a1 ≤ (a0.length : Int) then (if (a0.length + a2.length) * 32 ≤ 140737488355328 then some (a0.take a1.toNat ++ a2 ++ a0.drop a1.toNat) else none) else none
set_option maxRecDepth 20000 in
set_option maxHeartbeats 4000000 in
theorem slices_Insert_api_Pair_api_Pair.spec {a0 : List (List UInt8 × List UInt8)} {a1 : Int} {a2 : List (List UInt8 × List UInt8)} {A1 : Option Addr} {c_1 : Nat} {A2 : Option Addr} {c_2 : Nat} {r : List (List UInt8 × List UInt8)} (H : slices_Insert_api_Pair_api_Pair.f a0 a1 a2 = some r) :
    Spec Try.prog 121 [.slice A1 a0.length c_1, .int .i64 a1, .slice A2 a2.length c_2] [ownC 75 (.pair .str .str) a0 (.slice A1 a0.length c_1)] [rdC 75 (.pair .str .str) a2 (.slice A2 a2.length c_2)]
      (fun v l => ∃ (A_0 : Option Addr) (c_0 : Nat), v = .slice A_0 r.length c_0 ∧ l = [ownC 75 (.pair .str .str) r (.slice A_0 r.length c_0)]) := by
  refine Spec.enter Try.func121 rfl (by kernel_rfl) (by kernel_rfl) fun w0 F0 h0 => ?_
  unfold slices_Insert_api_Pair_api_Pair.f at H
  obtain ⟨⟨p0, p1⟩, H⟩ := guard_t H
  obtain ⟨p2, H⟩ := guard_t H
  obtain rfl := Option.some.inj H
  clear H
  obtain ⟨i, rfl⟩ := Int.eq_ofNat_of_zero_le p0
  have hi : i ≤ a0.length := by omega
  have hc1 := h0.cap (Gives.of 0 rfl own_rd)
  simp only [Int.toNat_natCast]
  refine J.seq ?_
  refine J.region ?_
  refine RJ.run ttok 1 rfl ?_
  refine RJ.fin [(0, .slice A1 a0.length c_1), (1, .int .i64 (i : Int)), (2, .slice A2 a2.length c_2)] rfl ?_
  refine J.seq ?_
  refine J.region ?_
  refine RJ.run ttok 2 rfl ?_
  refine RJ.q rfl rfl (q_cut (l := (i : Int)) (h := (a0.length : Int)) (sub := a0.drop i) ttok rfl rfl rfl rfl hc1 ⟨_, rfl⟩ rfl p0 p1 (Int.le_refl _) (by simpa using cut_from a0 (i : Int))) ?_
  refine RJ.fin [(0, .slice A1 a0.length c_1), (1, .int .i64 (i : Int)), (2, .slice A2 a2.length c_2)] rfl ?_
  refine J.seq ?_
  refine J.region ?_
  refine RJ.run ttok 3 rfl ?_
  refine RJ.fin [(0, .slice A1 a0.length c_1), (1, .int .i64 (i : Int)), (2, .slice A2 a2.length c_2), (7, .int .i64 (a2.length : Int))] rfl ?_
  refine J.seq ?_
  refine J.seq ?_
  refine J.region ?_
  refine RJ.run ttok 2 rfl ?_
  refine RJ.fin [(0, .slice A1 a0.length c_1), (1, .int .i64 (i : Int)), (2, .slice A2 a2.length c_2), (7, .int .i64 (a2.length : Int)), (16, .bool (decide ((a2.length : Int) = 0)))] rfl ?_
  refine J.cond rfl (fun c => ?_) (fun c => ?_)
  · have hz : a2 = [] := List.eq_nil_of_length_eq_zero (by have := of_decide_eq_true c; omega)
    subst hz
    refine J.seq ?_
    refine J.region ?_
    refine RJ.run ttok 2 rfl ?_
    refine RJ.fin [(6, .slice A1 a0.length c_1)] rfl ?_
    refine J.ret ?_
    have e : a0.take i ++ [] ++ a0.drop i = a0 := by simp
    rw [e]
    exact ⟨_, _, _, (results_slots rfl), ⟨_, _, rfl, rfl⟩, h0.only [0] rfl⟩
  · refine J.skip ?_
    have hm : a2.length ≠ 0 := by have := of_decide_eq_false c; omega
    refine J.seq ?_
    refine J.region ?_
    refine RJ.run ttok 3 rfl ?_
    refine RJ.fin [(0, .slice A1 a0.length c_1), (1, .int .i64 (i : Int)), (2, .slice A2 a2.length c_2), (7, .int .i64 (a2.length : Int)), (8, .int .i64 (a0.length : Int))] rfl ?_
    refine J.seq ?_
    refine J.seq ?_
    refine J.region ?_
    refine RJ.run ttok 3 rfl ?_
    refine RJ.fin [(0, .slice A1 a0.length c_1), (1, .int .i64 (i : Int)), (2, .slice A2 a2.length c_2), (7, .int .i64 (a2.length : Int)), (8, .int .i64 (a0.length : Int)), (22, .bool (decide ((i : Int) = (a0.length : Int))))] rfl ?_
    refine J.cond rfl (fun c => ?_) (fun c => ?_)
    · have hie : i = a0.length := by have := of_decide_eq_true c; omega
      refine J.seq ?_
      refine J.region ?_
      refine RJ.run ttok 2 rfl ?_
      refine RJ.op rfl rfl (op_append ttok (ty := (.pair .str .str)) rfl 0 rfl h0 rfl (Gives.self 0 rfl) rfl rfl rfl rfl rfl rfl (by decide) (by decide) p2) ?_
      rintro _ w1 ⟨A, c_3, rfl, h1⟩
      refine RJ.run ttok 1 rfl ?_
      refine RJ.fin [(6, .slice A (a0 ++ a2).length c_3)] rfl ?_
      refine J.ret ?_
      have e : a0.take i ++ a2 ++ a0.drop i = a0 ++ a2 := by rw [hie]; simp
      rw [e]
      exact ⟨_, _, _, (results_slots rfl), ⟨_, _, rfl, rfl⟩, h1.only [0] rfl⟩
    · refine J.skip ?_
      have hlt : i < a0.length := by have := of_decide_eq_false c; omega
      have w1 : w64 ((a0.length : Int) + (a2.length : Int)) = ((a0.length + a2.length : Nat) : Int) := by rw [w64_id (by omega) (by omega)]; omega
      have wim : w64 ((i : Int) + (a2.length : Int)) = ((i + a2.length : Nat) : Int) := by rw [w64_id (by omega) (by omega)]; omega
      rcases h0.openRow (ty := (.pair .str .str)) rfl 0 rfl with ⟨_, e, _⟩ | ⟨b, sp, rfl, hc, hcm, hsp, h1⟩
      · rw [e] at hlt; cases hlt
      have hX := flat_len (ty := (.pair .str .str)) rfl a0
      have hY := flat_len (ty := (.pair .str .str)) rfl a2
      have nn : Ty.n (.pair .str .str) = 2 := rfl
      have oX := scal_one (ty := (.pair .str .str)) rfl a0
      have oY := scal_one (ty := (.pair .str .str)) rfl a2
      have eT : (a0.flatMap (Ty.enc (.pair .str .str))).take (i * 2) = (a0.take i).flatMap (Ty.enc (.pair .str .str)) := flat_take (ty := (.pair .str .str)) rfl a0 i
      have eD : (a0.flatMap (Ty.enc (.pair .str .str))).drop (i * 2) = (a0.drop i).flatMap (Ty.enc (.pair .str .str)) := flat_drop (ty := (.pair .str .str)) rfl a0 i
      have eR : (a0.take i ++ a2 ++ a0.drop i).flatMap (Ty.enc (.pair .str .str)) = (a0.flatMap (Ty.enc (.pair .str .str))).take (i * 2) ++ a2.flatMap (Ty.enc (.pair .str .str)) ++ (a0.flatMap (Ty.enc (.pair .str .str))).drop (i * 2) := by rw [eT, eD, List.flatMap_append, List.flatMap_append]
      have lR : (a0.take i ++ a2 ++ a0.drop i).length = a0.length + a2.length := by simp only [List.length_append, List.length_take, List.length_drop]; omega
      rw [nn] at hX hY hsp
      obtain ⟨X, hXe⟩ : ∃ X, X = a0.flatMap (Ty.enc (.pair .str .str)) := ⟨_, rfl⟩
      obtain ⟨Y, hYe⟩ : ∃ Y, Y = a2.flatMap (Ty.enc (.pair .str .str)) := ⟨_, rfl⟩
      rw [← hXe] at hX eR h1 oX
      rw [← hYe] at hY eR oY
      refine J.seq ?_
      refine J.seq ?_
      refine J.region ?_
      refine RJ.run ttok 3 rfl ?_
      refine RJ.know (t := 28) rfl (congrArg (Value.int .i64) w1) ?_
      refine RJ.run ttok 3 rfl ?_
      refine RJ.fin [(0, .slice (some ⟨b, 0, none⟩) a0.length c_1), (1, .int .i64 (i : Int)), (2, .slice A2 a2.length c_2), (7, .int .i64 (a2.length : Int)), (8, .int .i64 (a0.length : Int)), (31, .bool (decide ((c_1 : Int) < ((a0.length + a2.length : Nat) : Int))))] rfl ?_
      refine J.cond rfl (fun c => ?_) (fun c => ?_)
      · -- a new row
        have hgr := of_decide_eq_true c
        have w2 : w64 (((a0.length + a2.length : Nat) : Int) - (i : Int)) = ((a0.length + a2.length - i : Nat) : Int) := by rw [w64_id (by omega) (by omega)]; omega
        refine J.seq ?_
        refine J.region ?_
        refine RJ.run ttok 2 rfl ?_
        refine RJ.q rfl rfl (q_cutRaw ttok 0 (i : Int) (0) (i) (c_1) rfl rfl rfl rfl hc rfl ⟨_, rfl⟩ (Int.le_refl _) p0 (by omega) (by omega) (by show 0 + 0 * 2 = 0; omega) (by omega) (by omega)) ?_
        refine RJ.run ttok 3 rfl ?_
        refine RJ.know (t := 37) rfl (congrArg (Value.int .i64) w1) ?_
        refine RJ.run ttok 2 rfl ?_
        refine RJ.know (t := 39) rfl (congrArg (Value.int .i64) w2) ?_
        refine RJ.op rfl rfl (op_growRaw ttok 0 rfl h1 rfl rfl rfl rfl rfl rfl rfl (by decide) (by decide) (by omega) (by omega) (by rw [List.length_append]; show i * 2 ≤ _; omega) (by show ((i : Int) + _) * (32 : Nat) ≤ _; omega)) ?_
        rintro _ w2' ⟨b2, cap, tail, rfl, hcap, hcap2, htail, h2⟩
        rw [Int.toNat_natCast] at hcap
        replace hcap : a0.length + a2.length ≤ cap := by omega
        replace htail : tail.length = (cap - i) * 2 := htail
        refine RJ.know (t := 40) (v := .slice (some ⟨b2, 0, none⟩) (a0.length + a2.length) cap) rfl (by rw [Int.toNat_natCast]; congr 1; omega) ?_
        have eX : (X ++ sp).take (i * 2) = X.take (i * 2) := List.take_append_of_le_length (by omega)
        have lX : (X.take (i * 2)).length = i * 2 := by rw [List.length_take]; omega
        replace h2 : St w0 F0 (boxC b2 75 (X.take (i * 2) ++ tail) :: [boxC b 75 (X ++ sp)]) [rdC 75 (.pair .str .str) a2 (.slice A2 a2.length c_2)] w2' := by rw [← eX]; exact h2
        obtain ⟨R, hR, _⟩ := h2.gives (c := rdC 75 (.pair .str .str) a2 (.slice A2 a2.length c_2)) (Gives.self 2 rfl)
        have lY := (rd_lies (ty := (.pair .str .str)) rfl hR).2.1
        rw [← hYe] at lY
        refine RJ.run ttok 1 rfl ?_
        refine RJ.fin [(0, .slice (some ⟨b, 0, none⟩) a0.length c_1), (1, .int .i64 (i : Int)), (2, .slice A2 a2.length c_2), (7, .int .i64 (a2.length : Int)), (9, .slice (some ⟨b2, 0, none⟩) (a0.length + a2.length) cap)] rfl ?_
        refine J.seq ?_
        refine J.region ?_
        refine RJ.run ttok 2 rfl ?_
        refine RJ.q rfl rfl (q_cutRaw ttok (i : Int) ((a0.length + a2.length : Nat) : Int) (i * 2) (a0.length + a2.length - i) (cap - i) rfl rfl rfl rfl hcap ⟨_, rfl⟩ rfl p0 (by omega) (by omega) (by omega) (by show 0 + (i : Int).toNat * 2 = i * 2; omega) (by omega) (by omega)) ?_
        refine RJ.run ttok 1 rfl ?_
        refine RJ.op rfl rfl (op_copyRaw ttok (cs := Y) 0 rfl h2 rfl rfl rfl rfl rfl (by show Y.length = min a2.length (a0.length + a2.length - i) * 2; rw [Nat.min_eq_left (by omega)]; exact hY) (by rw [List.length_append]; omega) lY oY) ?_
        intro _ w3 h3
        refine RJ.fin [(0, .slice (some ⟨b, 0, none⟩) a0.length c_1), (1, .int .i64 (i : Int)), (7, .int .i64 (a2.length : Int)), (9, .slice (some ⟨b2, 0, none⟩) (a0.length + a2.length) cap)] rfl ?_
        obtain ⟨G, ⟨hG, hh⟩, _⟩ := h3.own (k := 1) (c := boxC b 75 (X ++ sp)) rfl
        have l3 : (layAt (i * 2) Y (X.take (i * 2) ++ tail)).length = cap * 2 := by simp only [layAt, List.length_append, List.length_take, List.length_drop]; omega
        refine J.seq ?_
        refine J.heldSt mix (h3.only [] rfl) ?_
        have h3 := h3.drew
        have lS : ∀ w', w'.heap[b]? = some (.cells (X ++ sp).toArray 75 (0, 0)) → Lies w' (some ⟨b, i * 2, none⟩) (X.drop (i * 2)) := fun w' hw => by
          have := (box_lies hw (i * 2)).take ((a0.length - i) * 2)
          rwa [List.drop_append_of_le_length (by omega), List.take_append_of_le_length (by rw [List.length_drop]; omega), List.take_of_length_le (by rw [List.length_drop]; omega)] at this
        refine HJ.run ttok rfl [0, 1, 2, 3] rfl ?_
        refine HJ.know (t := 49) rfl (congrArg (Value.int .i64) wim) ?_
        refine HJ.q (i := 4) rfl rfl rfl rfl rfl rfl (q_cutRaw ttok ((i + a2.length : Nat) : Int) ((a0.length + a2.length : Nat) : Int) ((i + a2.length) * 2) (a0.length - i) (cap - (i + a2.length)) rfl rfl rfl rfl hcap ⟨_, rfl⟩ rfl (by omega) (by omega) (by omega) (by omega) (by show 0 + ((i + a2.length : Nat) : Int).toNat * 2 = (i + a2.length) * 2; omega) (by omega) (by omega)) ?_
        refine HJ.run ttok rfl [5, 6] rfl ?_
        refine HJ.q (i := 7) rfl rfl rfl rfl rfl rfl (q_cutRaw ttok (i : Int) (a0.length : Int) (i * 2) (a0.length - i) (c_1 - i) rfl rfl rfl rfl hc ⟨_, rfl⟩ rfl p0 p1 (by omega) (by omega) (by show 0 + (i : Int).toNat * 2 = i * 2; omega) (by omega) (by omega)) ?_
        refine HJ.op (i := 8) rfl rfl rfl rfl rfl (op_copyRaw ttok (cs := X.drop (i * 2)) 0 rfl h3 rfl rfl rfl rfl rfl (by show (X.drop (i * 2)).length = min (a0.length - i) (a0.length - i) * 2; rw [List.length_drop, Nat.min_self]; omega) (by rw [l3, List.length_drop]; omega) (lS _ hh) (fun u hu => oX u (List.mem_of_mem_drop hu))) ?_
        intro _ w4 h4
        refine ⟨⟨[_, _], h4⟩, ?_⟩
        refine HJ.fin [(9, .slice (some ⟨b2, 0, none⟩) (a0.length + a2.length) cap)] rfl rfl ?_
        refine J.seq ?_
        refine J.region ?_
        refine RJ.run ttok 2 rfl ?_
        refine RJ.fin [(6, .slice (some ⟨b2, 0, none⟩) (a0.length + a2.length) cap)] rfl ?_
        refine J.ret ?_
        have q := ins_grow (X := X) (Y := Y) (tail := tail) (a := i * 2) (by omega) (by omega)
        have e1 : (i + a2.length) * 2 = i * 2 + Y.length := by omega
        rw [e1] at h4
        have h5 := h4.closeRow (ty := (.pair .str .str)) (ys := a0.take i ++ a2 ++ a0.drop i) (c := cap) rfl 0 rfl (by rw [lR]; exact hcap) hcap2 (by rw [q.1, List.length_append, lX, nn]; omega) (by rw [eR, lR, nn, ← q.2]; congr 1; omega)
        exact ⟨_, _, _, (results_slots rfl), ⟨_, _, by rw [lR]; rfl, rfl⟩, h5.only [0] rfl⟩
      · -- in place
        have hroom : a0.length + a2.length ≤ c_1 := by have := of_decide_eq_false c; omega
        refine J.skip ?_
        refine J.seq ?_
        refine J.region ?_
        refine RJ.run ttok 4 rfl ?_
        refine RJ.know (t := 59) rfl (congrArg (Value.int .i64) w1) ?_
        refine RJ.q rfl rfl (q_cutRaw ttok 0 ((a0.length + a2.length : Nat) : Int) (0) (a0.length + a2.length) (c_1) rfl rfl rfl rfl hc rfl ⟨_, rfl⟩ (Int.le_refl _) (by omega) (by omega) (by omega) (by show 0 + 0 * 2 = 0; omega) (by omega) (by omega)) ?_
        refine RJ.run ttok 1 rfl ?_
        refine RJ.fin [(0, .slice (some ⟨b, 0, none⟩) (a0.length + a2.length) c_1), (1, .int .i64 (i : Int)), (2, .slice A2 a2.length c_2), (7, .int .i64 (a2.length : Int)), (8, .int .i64 (a0.length : Int))] rfl ?_
        refine J.seq ?_
        refine J.seq ?_
        refine J.region ?_
        refine RJ.run ttok 4 rfl ?_
        refine RJ.run ttok 1 rfl ?_
        refine RJ.know (t := 65) rfl (congrArg (Value.int .i64) wim) ?_
        refine RJ.q rfl rfl (q_cutRaw ttok ((i + a2.length : Nat) : Int) ((a0.length + a2.length : Nat) : Int) ((i + a2.length) * 2) (a0.length - i) (c_1 - (i + a2.length)) rfl rfl rfl rfl hroom ⟨_, rfl⟩ rfl (by omega) (by omega) (by omega) (by omega) (by show 0 + ((i + a2.length : Nat) : Int).toNat * 2 = (i + a2.length) * 2; omega) (by omega) (by omega)) ?_
        refine RJ.q rfl rfl (q_overlaps ttok (ty := (.pair .str .str)) (ys := a2) rfl 0 slices_Insert_api_Pair_api_Pair.ov rfl rfl rfl h1 rfl (Gives.self 0 rfl) rfl rfl (by decide)) ?_
        refine RJ.run ttok 1 rfl ?_
        refine RJ.fin [(0, .slice (some ⟨b, 0, none⟩) (a0.length + a2.length) c_1), (1, .int .i64 (i : Int)), (2, .slice A2 a2.length c_2), (7, .int .i64 (a2.length : Int)), (8, .int .i64 (a0.length : Int)), (68, .bool true)] rfl ?_
        refine J.condT rfl ?_
        obtain ⟨G, ⟨hG, hh⟩, _⟩ := h1.own (k := 0) (c := boxC b 75 (X ++ sp)) rfl
        have lS : ∀ w', w'.heap[b]? = some (.cells (X ++ sp).toArray 75 (0, 0)) → Lies w' (some ⟨b, i * 2, none⟩) (X.drop (i * 2)) := fun w' hw => by
          have := (box_lies hw (i * 2)).take ((a0.length - i) * 2)
          rwa [List.drop_append_of_le_length (by omega), List.take_append_of_le_length (by rw [List.length_drop]; omega), List.take_of_length_le (by rw [List.length_drop]; omega)] at this
        refine J.seq ?_
        refine J.heldSt mix (h1.only [] rfl) ?_
        have h2 := h1.drew
        refine HJ.run ttok rfl [0, 1, 2, 3] rfl ?_
        refine HJ.know (t := 72) rfl (congrArg (Value.int .i64) wim) ?_
        refine HJ.q (i := 4) rfl rfl rfl rfl rfl rfl (q_cutRaw ttok ((i + a2.length : Nat) : Int) ((a0.length + a2.length : Nat) : Int) ((i + a2.length) * 2) (a0.length - i) (c_1 - (i + a2.length)) rfl rfl rfl rfl hroom ⟨_, rfl⟩ rfl (by omega) (by omega) (by omega) (by omega) (by show 0 + ((i + a2.length : Nat) : Int).toNat * 2 = (i + a2.length) * 2; omega) (by omega) (by omega)) ?_
        refine HJ.run ttok rfl [5, 6] rfl ?_
        refine HJ.q (i := 7) rfl rfl rfl rfl rfl rfl (q_cutRaw ttok (i : Int) ((a0.length + a2.length : Nat) : Int) (i * 2) (a0.length + a2.length - i) (c_1 - i) rfl rfl rfl rfl hroom ⟨_, rfl⟩ rfl p0 (by omega) (by omega) (by omega) (by show 0 + (i : Int).toNat * 2 = i * 2; omega) (by omega) (by omega)) ?_
        refine HJ.op (i := 8) rfl rfl rfl rfl rfl (op_copyRaw ttok (cs := X.drop (i * 2)) 0 rfl h2 rfl rfl rfl rfl rfl (by show (X.drop (i * 2)).length = min (a0.length + a2.length - i) (a0.length - i) * 2; rw [List.length_drop, Nat.min_eq_right (by omega)]; omega) (by rw [List.length_append, List.length_drop]; omega) (lS _ hh) (fun u hu => oX u (List.mem_of_mem_drop hu))) ?_
        intro _ w3 h3
        refine ⟨⟨[_], h3⟩, ?_⟩
        refine HJ.fin [(0, .slice (some ⟨b, 0, none⟩) (a0.length + a2.length) c_1), (1, .int .i64 (i : Int)), (2, .slice A2 a2.length c_2)] rfl rfl ?_
        obtain ⟨R, hR, _⟩ := h3.gives (c := rdC 75 (.pair .str .str) a2 (.slice A2 a2.length c_2)) (Gives.self 1 rfl)
        have lY := (rd_lies (ty := (.pair .str .str)) rfl hR).2.1
        rw [← hYe] at lY
        have q := ins_room (X := X) (Y := Y) (sp := sp) (a := i * 2) (by omega) (by omega)
        have e1 : (i + a2.length) * 2 = i * 2 + Y.length := by omega
        rw [e1] at h3
        refine J.seq ?_
        refine J.region ?_
        refine RJ.run ttok 2 rfl ?_
        refine RJ.q rfl rfl (q_cutRaw ttok (i : Int) ((a0.length + a2.length : Nat) : Int) (i * 2) (a0.length + a2.length - i) (c_1 - i) rfl rfl rfl rfl hroom ⟨_, rfl⟩ rfl p0 (by omega) (by omega) (by omega) (by show 0 + (i : Int).toNat * 2 = i * 2; omega) (by omega) (by omega)) ?_
        refine RJ.run ttok 1 rfl ?_
        refine RJ.op rfl rfl (op_copyRaw ttok (cs := Y) 0 rfl h3 rfl rfl rfl rfl rfl (by show Y.length = min a2.length (a0.length + a2.length - i) * 2; rw [Nat.min_eq_left (by omega)]; exact hY) (by simp only [layAt, List.length_append, List.length_take, List.length_drop]; omega) lY oY) ?_
        intro _ w4 h4
        refine RJ.fin [(0, .slice (some ⟨b, 0, none⟩) (a0.length + a2.length) c_1)] rfl ?_
        refine J.seq ?_
        refine J.region ?_
        refine RJ.run ttok 2 rfl ?_
        refine RJ.fin [(6, .slice (some ⟨b, 0, none⟩) (a0.length + a2.length) c_1)] rfl ?_
        refine J.ret ?_
        have h5 := h4.closeRow (ty := (.pair .str .str)) (ys := a0.take i ++ a2 ++ a0.drop i) (c := c_1) rfl 0 rfl (by rw [lR]; exact hroom) hcm (by rw [q.1, List.length_append, nn]; omega) (by rw [eR, lR, nn, ← q.2]; congr 1; omega)
        exact ⟨_, _, _, (results_slots rfl), ⟨_, _, by rw [lR]; rfl, rfl⟩, h5.only [0] rfl⟩

/-! sluicegate/leaf.Apply -/
def leaf_Apply.l0 : Nat → (List (List UInt8 × Bool × List UInt8)) → (List (List UInt8 × List UInt8)) → (Int) → Option ((List (List UInt8 × List UInt8)))
  | 0, _, _, _ => none
  | k + 1, a1, x1, x2 => if (decide (x2 < (a1.length : Int))) = true then (if 0 ≤ x2 ∧ x2 < (a1.length : Int) then ((slices_BinarySearchFunc_api_Pair_api_Pair_string_leaf_compare.f k x1 ((gt a1 x2).1)).bind fun r2 => (if r2.2 = true then (if (gt a1 x2).2.1 = true then ((slices_Delete_api_Pair_api_Pair.f x1 r2.1 (w64 (r2.1 + 1))).bind fun r3 => (leaf_Apply.l0 k a1 r3 (w64 (x2 + 1)))) else (if 0 ≤ r2.1 ∧ r2.1 < (x1.length : Int) then (leaf_Apply.l0 k a1 (x1.set r2.1.toNat ((gt x1 r2.1).1, (gt a1 x2).2.2)) (w64 (x2 + 1))) else none)) else (if (!((gt a1 x2).2.1)) = true then ((slices_Insert_api_Pair_api_Pair.f x1 r2.1 ([((gt a1 x2).1, (gt a1 x2).2.2)] : List (List UInt8 × List UInt8))).bind fun r4 => (leaf_Apply.l0 k a1 r4 (w64 (x2 + 1)))) else (leaf_Apply.l0 k a1 x1 (w64 (x2 + 1)))))) else none) else (some x1)
def leaf_Apply.f (k : Nat) (a0 : List (List UInt8 × List UInt8)) (a1 : List (List UInt8 × Bool × List UInt8)) : Option ((List (List UInt8 × List UInt8))) := (slices_Clone_api_Pair_api_Pair.f a0).bind fun r1 => (leaf_Apply.l0 k a1 r1 0)
set_option maxRecDepth 20000 in
set_option maxHeartbeats 40000000 in
theorem leaf_Apply.spec {k : Nat} {a0 : List (List UInt8 × List UInt8)} {a1 : List (List UInt8 × Bool × List UInt8)} {A1 : Option Addr} {c_1 : Nat} {A2 : Option Addr} {c_2 : Nat} {r : (List (List UInt8 × List UInt8))} (H : leaf_Apply.f k a0 a1 = some r) :
    Spec Try.prog 72 [.slice A1 a0.length c_1, .slice A2 a1.length c_2] [] [rdC 75 (.pair .str .str) a0 (.slice A1 a0.length c_1), rdC 135 (.pair .str (.pair .bool .str)) a1 (.slice A2 a1.length c_2)] (fun v l => ∃ (A_0 : Option Addr) (c_0 : Nat), v = .slice A_0 r.length c_0 ∧ l = [ownC 75 (.pair .str .str) r (.slice A_0 r.length c_0)]) := by
  refine Spec.enter Try.func72 rfl (by kernel_rfl) (by kernel_rfl) fun w0 F0 h0 => ?_
  unfold leaf_Apply.f at H
  refine J.seq ?_
  refine J.region ?_
  refine RJ.run ttok 1 rfl ?_
  refine RJ.fin [(0, .slice A1 a0.length c_1), (1, .slice A2 a1.length c_2)] rfl ?_
  refine J.seq ?_
  refine J.region ?_
  refine RJ.run ttok 1 rfl ?_
  obtain ⟨r1, q1, H⟩ := bind_t H
  refine RJ.op rfl rfl (op_call [] (slices_Clone_api_Pair_api_Pair.spec q1) rfl rfl rfl h0 rfl (gcons (Gives.self 0 rfl) gnil)) ?_
  rintro _ w1 ⟨_, ⟨A3, c_3, rfl, rfl⟩, h1⟩
  replace h1 : St w0 F0 [ownC 75 (.pair .str .str) r1 (.slice A3 r1.length c_3)] _ _ := h1
  refine RJ.run ttok 1 rfl ?_
  refine RJ.fin [(1, .slice A2 a1.length c_2), (5, .slice A3 r1.length c_3)] rfl ?_
  refine J.seq ?_
  refine J.seq ?_
  refine J.region ?_
  refine RJ.run ttok 3 rfl ?_
  refine RJ.fin [(5, .slice A3 r1.length c_3), (12, .slice A2 a1.length c_2), (13, .int .i64 (a1.length : Int)), (14, .int .i64 0)] rfl ?_
  refine J.block ?_
  have h15 := ((h1.only [0] rfl).rds [1] rfl)
  refine J.loop (fun k env w => ∃ (x1 : List (List UInt8 × List UInt8)) (A4 : Option Addr) (c_4 : Nat) (x2 : Int), env = [(5, .slice A4 x1.length c_4), (12, .slice A2 a1.length c_2), (13, .int .i64 (a1.length : Int)), (14, .int .i64 x2)] ∧ St w0 F0 [ownC 75 (.pair .str .str) x1 (.slice A4 x1.length c_4)] [rdC 135 (.pair .str (.pair .bool .str)) a1 (.slice A2 a1.length c_2)] w ∧ leaf_Apply.l0 k a1 x1 x2 = some r) (k := k) ⟨r1, A3, c_3, 0, rfl, h15, H⟩ ?_
  rintro k1 env w2 ⟨x1, A4, c_4, x2, rfl, h2, H⟩
  cases k1 with
  | zero => exact nomatch (show none = some r from H)
  | succ k1 =>
    rw [leaf_Apply.l0] at H
    refine J.seq ?_
    refine J.region ?_
    refine RJ.run ttok 1 rfl ?_
    refine RJ.fin [(5, .slice A4 x1.length c_4), (12, .slice A2 a1.length c_2), (13, .int .i64 (a1.length : Int)), (14, .int .i64 x2), (15, .bool (decide (x2 < (a1.length : Int))))] rfl ?_
    refine J.seq ?_
    refine J.cond rfl (fun c1 => ?_) (fun c1 => ?_)
    · replace H := ite_t c1 H
      refine J.skip ?_
      refine J.seq ?_
      refine J.block ?_
      refine J.seq ?_
      refine J.region ?_
      obtain ⟨⟨p1, p2⟩, H⟩ := guard_t H
      have e1 := elem_A h2.wh (Gives.self 1 rfl) p1 p2
      refine RJ.q rfl rfl (q_index ttok rfl rfl rfl rfl rfl e1 p1 p2) ?_
      refine RJ.q rfl rfl (q_load_elem (f := 0) ttok rfl h2.wht (Gives.self 1 rfl) p1 p2 rfl rfl rfl rfl rfl) ?_
      refine RJ.op rfl rfl (op_alloc ttok rfl rfl h2) ?_
      rintro _ w3 ⟨b1, rfl, h3⟩
      replace h3 : St w0 F0 [boxC b1 135 [.string ⟨⟨([] : List UInt8)⟩⟩, .bool false, .string ⟨⟨([] : List UInt8)⟩⟩], ownC 75 (.pair .str .str) x1 (.slice A4 x1.length c_4)] _ _ := h3
      refine RJ.op rfl rfl (op_store ttok 0 rfl h3 rfl rfl rfl rfl rfl rfl rfl) ?_
      intro _ w4 h4
      replace h4 : St w0 F0 [boxC b1 135 [.string ⟨⟨(gt a1 x2).1⟩⟩, .bool ((gt a1 x2).2.1), .string ⟨⟨(gt a1 x2).2.2⟩⟩], ownC 75 (.pair .str .str) x1 (.slice A4 x1.length c_4)] _ _ := h4
      refine RJ.fin [(5, .slice A4 x1.length c_4), (7, .pointer (some ⟨b1, 0, none⟩)), (12, .slice A2 a1.length c_2), (13, .int .i64 (a1.length : Int)), (14, .int .i64 x2)] rfl ?_
      refine J.seq ?_
      refine J.region ?_
      refine RJ.run ttok 2 rfl ?_
      refine RJ.q rfl rfl (q_load_box ttok 0 h4.wht rfl rfl rfl rfl rfl) ?_
      obtain ⟨r2, q2, H⟩ := bind_t H
      refine RJ.op rfl rfl (op_call [] (slices_BinarySearchFunc_api_Pair_api_Pair_string_leaf_compare.spec q2) rfl rfl rfl h4 rfl (gcons (Gives.of 1 rfl own_rd) gnil)) ?_
      rintro _ w5 ⟨_, ⟨rfl, rfl⟩, h5⟩
      replace h5 : St w0 F0 [boxC b1 135 [.string ⟨⟨(gt a1 x2).1⟩⟩, .bool ((gt a1 x2).2.1), .string ⟨⟨(gt a1 x2).2.2⟩⟩], ownC 75 (.pair .str .str) x1 (.slice A4 x1.length c_4)] _ _ := h5
      refine RJ.run ttok 5 rfl ?_
      refine RJ.fin [(5, .slice A4 x1.length c_4), (7, .pointer (some ⟨b1, 0, none⟩)), (8, .int .i64 r2.1), (9, .bool r2.2), (12, .slice A2 a1.length c_2), (13, .int .i64 (a1.length : Int)), (14, .int .i64 x2)] rfl ?_
      refine J.block ?_
      refine J.seq ?_
      refine J.region ?_
      refine RJ.run ttok 2 rfl ?_
      rcases Bool.eq_false_or_eq_true r2.2 with c2 | c2
      · replace H := ite_t c2 H
        refine RJ.know (t := 27) rfl (congrArg Value.bool c2) ?_
        refine RJ.run ttok 1 rfl ?_
        refine RJ.q rfl rfl (q_load_box ttok 0 h5.wht rfl rfl rfl rfl rfl) ?_
        refine RJ.run ttok 2 rfl ?_
        refine RJ.fin [(5, .slice A4 x1.length c_4), (7, .pointer (some ⟨b1, 0, none⟩)), (8, .int .i64 r2.1), (9, .bool r2.2), (12, .slice A2 a1.length c_2), (13, .int .i64 (a1.length : Int)), (14, .int .i64 x2), (25, .bool ((gt a1 x2).2.1))] rfl ?_
        refine J.cond rfl (fun c3 => ?_) (fun c3 => ?_)
        · replace H := ite_t c3 H
          refine J.region ?_
          refine RJ.run ttok 4 rfl ?_
          obtain ⟨r3, q3, H⟩ := bind_t H
          refine RJ.op rfl rfl (op_call [1] (slices_Delete_api_Pair_api_Pair.spec q3) rfl rfl rfl h5 rfl gnil) ?_
          rintro _ w6 ⟨_, ⟨A5, c_5, rfl, rfl⟩, h6⟩
          replace h6 : St w0 F0 [ownC 75 (.pair .str .str) r3 (.slice A5 r3.length c_5), boxC b1 135 [.string ⟨⟨(gt a1 x2).1⟩⟩, .bool ((gt a1 x2).2.1), .string ⟨⟨(gt a1 x2).2.2⟩⟩]] _ _ := h6
          refine RJ.run ttok 1 rfl ?_
          refine RJ.fin [(5, .slice A5 r3.length c_5), (12, .slice A2 a1.length c_2), (13, .int .i64 (a1.length : Int)), (14, .int .i64 x2)] rfl ?_
          refine J.region ?_
          refine RJ.run ttok 2 rfl ?_
          refine RJ.fin [(5, .slice A5 r3.length c_5), (12, .slice A2 a1.length c_2), (13, .int .i64 (a1.length : Int)), (14, .int .i64 (w64 (x2 + 1)))] rfl ?_
          have h7 := ((h6.only [0] rfl).rds [0] rfl)
          exact ⟨k1, by omega, r3, A5, c_5, (w64 (x2 + 1)), rfl, h7, H⟩
        · replace H := ite_f c3 H
          refine J.seq ?_
          refine J.region ?_
          refine RJ.run ttok 2 rfl ?_
          refine RJ.fin [(5, .slice A4 x1.length c_4), (7, .pointer (some ⟨b1, 0, none⟩)), (8, .int .i64 r2.1), (12, .slice A2 a1.length c_2), (13, .int .i64 (a1.length : Int)), (14, .int .i64 x2), (36, .bool r2.2)] rfl ?_
          refine J.cond rfl (fun e => ?_) (fun e => ?_)
          · refine J.region ?_
            refine RJ.run ttok 3 rfl ?_
            refine RJ.q rfl rfl (q_load_box ttok 0 h5.wht rfl rfl rfl rfl rfl) ?_
            obtain ⟨⟨p3, p4⟩, H⟩ := guard_t H
            have e2 := elem_A h5.wh (Gives.of 1 rfl own_rd) p3 p4
            refine RJ.q rfl rfl (q_index ttok rfl rfl rfl rfl rfl e2 p3 p4) ?_
            refine RJ.run ttok 1 rfl ?_
            refine RJ.op rfl rfl (op_store_elem (f := 1) (ix := r2.1) ttok rfl ((gt x1 r2.1).1, (gt a1 x2).2.2) 1 rfl h5 rfl rfl p3 p4 rfl rfl rfl rfl rfl rfl rfl) ?_
            intro _ w7 h8
            replace h8 : St w0 F0 [ownC 75 (.pair .str .str) (x1.set r2.1.toNat ((gt x1 r2.1).1, (gt a1 x2).2.2)) (.slice A4 (x1.set r2.1.toNat ((gt x1 r2.1).1, (gt a1 x2).2.2)).length c_4), boxC b1 135 [.string ⟨⟨(gt a1 x2).1⟩⟩, .bool ((gt a1 x2).2.1), .string ⟨⟨(gt a1 x2).2.2⟩⟩]] _ _ := h8
            refine RJ.fin [(5, .slice A4 x1.length c_4), (12, .slice A2 a1.length c_2), (13, .int .i64 (a1.length : Int)), (14, .int .i64 x2)] rfl ?_
            refine J.envEq (env' := [(5, .slice A4 (x1.set r2.1.toNat ((gt x1 r2.1).1, (gt a1 x2).2.2)).length c_4), (12, .slice A2 a1.length c_2), (13, .int .i64 (a1.length : Int)), (14, .int .i64 x2)]) (by simp only [List.length_set]) ?_
            refine J.region ?_
            refine RJ.run ttok 2 rfl ?_
            refine RJ.fin [(5, .slice A4 (x1.set r2.1.toNat ((gt x1 r2.1).1, (gt a1 x2).2.2)).length c_4), (12, .slice A2 a1.length c_2), (13, .int .i64 (a1.length : Int)), (14, .int .i64 (w64 (x2 + 1)))] rfl ?_
            have h9 := ((h8.only [0] rfl).rds [0] rfl)
            exact ⟨k1, by omega, (x1.set r2.1.toNat ((gt x1 r2.1).1, (gt a1 x2).2.2)), A4, c_4, (w64 (x2 + 1)), rfl, h9, H⟩
          · rw [c2] at e; cases e
      · replace H := ite_f c2 H
        refine RJ.know (t := 27) rfl (congrArg Value.bool c2) ?_
        refine RJ.run ttok 4 rfl ?_
        refine RJ.fin [(5, .slice A4 x1.length c_4), (7, .pointer (some ⟨b1, 0, none⟩)), (8, .int .i64 r2.1), (9, .bool r2.2), (12, .slice A2 a1.length c_2), (13, .int .i64 (a1.length : Int)), (14, .int .i64 x2), (25, .bool false)] rfl ?_
        refine J.condF rfl ?_
        refine J.seq ?_
        refine J.region ?_
        refine RJ.run ttok 2 rfl ?_
        refine RJ.fin [(5, .slice A4 x1.length c_4), (7, .pointer (some ⟨b1, 0, none⟩)), (8, .int .i64 r2.1), (12, .slice A2 a1.length c_2), (13, .int .i64 (a1.length : Int)), (14, .int .i64 x2), (36, .bool r2.2)] rfl ?_
        refine J.cond rfl (fun e => ?_) (fun e => ?_)
        · rw [c2] at e; cases e
        · refine J.seq ?_
          refine J.region ?_
          refine RJ.run ttok 1 rfl ?_
          refine RJ.q rfl rfl (q_load_box ttok 0 h5.wht rfl rfl rfl rfl rfl) ?_
          refine RJ.run ttok 2 rfl ?_
          refine RJ.fin [(5, .slice A4 x1.length c_4), (7, .pointer (some ⟨b1, 0, none⟩)), (8, .int .i64 r2.1), (12, .slice A2 a1.length c_2), (13, .int .i64 (a1.length : Int)), (14, .int .i64 x2), (44, .bool (!((gt a1 x2).2.1)))] rfl ?_
          refine J.cond rfl (fun c4 => ?_) (fun c4 => ?_)
          · replace H := ite_t c4 H
            refine J.region ?_
            refine RJ.run ttok 3 rfl ?_
            refine RJ.q rfl rfl (q_load_box ttok 0 h5.wht rfl rfl rfl rfl rfl) ?_
            refine RJ.run ttok 1 rfl ?_
            refine RJ.q rfl rfl (q_load_box ttok 0 h5.wht rfl rfl rfl rfl rfl) ?_
            refine RJ.run ttok 1 rfl ?_
            refine RJ.op rfl rfl (op_lit ttok (.pair .str .str) rfl ([((gt a1 x2).1, (gt a1 x2).2.2)] : List (List UInt8 × List UInt8)) rfl h5 rfl rfl (by decide) rfl rfl rfl rfl rfl rfl rfl) ?_
            rintro _ w8 ⟨b2, rfl, h10⟩
            replace h10 : St w0 F0 [ownC 75 (.pair .str .str) ([((gt a1 x2).1, (gt a1 x2).2.2)] : List (List UInt8 × List UInt8)) (.slice (some ⟨b2, 0, none⟩) ([((gt a1 x2).1, (gt a1 x2).2.2)] : List (List UInt8 × List UInt8)).length 1), boxC b1 135 [.string ⟨⟨(gt a1 x2).1⟩⟩, .bool ((gt a1 x2).2.1), .string ⟨⟨(gt a1 x2).2.2⟩⟩], ownC 75 (.pair .str .str) x1 (.slice A4 x1.length c_4)] _ _ := h10
            obtain ⟨r4, q4, H⟩ := bind_t H
            refine RJ.op rfl rfl (op_call [2] (slices_Insert_api_Pair_api_Pair.spec q4) rfl rfl rfl h10 rfl (gcons (Gives.of 0 rfl own_rd) gnil)) ?_
            rintro _ w9 ⟨_, ⟨A6, c_6, rfl, rfl⟩, h11⟩
            replace h11 : St w0 F0 [ownC 75 (.pair .str .str) r4 (.slice A6 r4.length c_6), ownC 75 (.pair .str .str) ([((gt a1 x2).1, (gt a1 x2).2.2)] : List (List UInt8 × List UInt8)) (.slice (some ⟨b2, 0, none⟩) ([((gt a1 x2).1, (gt a1 x2).2.2)] : List (List UInt8 × List UInt8)).length 1), boxC b1 135 [.string ⟨⟨(gt a1 x2).1⟩⟩, .bool ((gt a1 x2).2.1), .string ⟨⟨(gt a1 x2).2.2⟩⟩]] _ _ := h11
            refine RJ.run ttok 1 rfl ?_
            refine RJ.fin [(5, .slice A6 r4.length c_6), (12, .slice A2 a1.length c_2), (13, .int .i64 (a1.length : Int)), (14, .int .i64 x2)] rfl ?_
            have h12 := h11.only [0] rfl
            replace h12 : St w0 F0 [ownC 75 (.pair .str .str) r4 (.slice A6 r4.length c_6)] _ _ := h12
            refine J.region ?_
            refine RJ.run ttok 2 rfl ?_
            refine RJ.fin [(5, .slice A6 r4.length c_6), (12, .slice A2 a1.length c_2), (13, .int .i64 (a1.length : Int)), (14, .int .i64 (w64 (x2 + 1)))] rfl ?_
            have h13 := ((h12.only [0] rfl).rds [0] rfl)
            exact ⟨k1, by omega, r4, A6, c_6, (w64 (x2 + 1)), rfl, h13, H⟩
          · replace H := ite_f c4 H
            refine J.skip ?_
            refine J.region ?_
            refine RJ.run ttok 2 rfl ?_
            refine RJ.fin [(5, .slice A4 x1.length c_4), (12, .slice A2 a1.length c_2), (13, .int .i64 (a1.length : Int)), (14, .int .i64 (w64 (x2 + 1)))] rfl ?_
            have h14 := ((h5.only [1] rfl).rds [0] rfl)
            exact ⟨k1, by omega, x1, A4, c_4, (w64 (x2 + 1)), rfl, h14, H⟩
    · replace H := ite_f c1 H
      refine J.exit ?_
      refine J.seq ?_
      refine J.region ?_
      refine RJ.run ttok 2 rfl ?_
      refine RJ.fin [(4, .slice A4 x1.length c_4)] rfl ?_
      refine J.ret ?_
      obtain rfl := Option.some.inj H
      exact ⟨_, _, _, (results_slots rfl), ⟨_, _, rfl, rfl⟩, h2.only [0] rfl⟩

/-! (*sluicegate/truth.Truth).Do -/
def truth_Truth_Do.f (k : Nat) (a0 : (Int × Int × Int × Int × Int × Int × Int × Int) × (List (List UInt8 × List UInt8))) (a1 : Int × List UInt8 × List UInt8 × Int) : Option ((Int × List UInt8 × (List (List UInt8 × List UInt8))) × ((Int × Int × Int × Int × Int × Int × Int × Int) × (List (List UInt8 × List UInt8)))) := (truth_Truth_Would.f k ((a0.1.1, a0.1.2.1, a0.1.2.2.1, a0.1.2.2.2.1, a0.1.2.2.2.2.1, a0.1.2.2.2.2.2.1, a0.1.2.2.2.2.2.2.1, a0.1.2.2.2.2.2.2.2), a0.2) (a1.1, a1.2.1, a1.2.2.1, a1.2.2.2)).bind fun r1 => (if (!decide (r1.1 = 0)) = true then (some ((r1.1, r1.2.1, r1.2.2), ((a0.1.1, a0.1.2.1, a0.1.2.2.1, a0.1.2.2.2.1, a0.1.2.2.2.2.1, a0.1.2.2.2.2.2.1, a0.1.2.2.2.2.2.2.1, a0.1.2.2.2.2.2.2.2), a0.2))) else (if (decide (a1.1 = 1)) = true then ((leaf_Apply.f k a0.2 ([(a1.2.1, false, a1.2.2.1)] : List (List UInt8 × Bool × List UInt8))).bind fun r2 => (some ((r1.1, r1.2.1, r1.2.2), ((a0.1.1, a0.1.2.1, a0.1.2.2.1, a0.1.2.2.2.1, a0.1.2.2.2.2.1, a0.1.2.2.2.2.2.1, a0.1.2.2.2.2.2.2.1, a0.1.2.2.2.2.2.2.2), r2)))) else (if (decide (a1.1 = 2)) = true then ((leaf_Apply.f k a0.2 ([(a1.2.1, true, ([] : List UInt8))] : List (List UInt8 × Bool × List UInt8))).bind fun r3 => (some ((r1.1, r1.2.1, r1.2.2), ((a0.1.1, a0.1.2.1, a0.1.2.2.1, a0.1.2.2.2.1, a0.1.2.2.2.2.1, a0.1.2.2.2.2.2.1, a0.1.2.2.2.2.2.2.1, a0.1.2.2.2.2.2.2.2), r3)))) else (some ((r1.1, r1.2.1, r1.2.2), ((a0.1.1, a0.1.2.1, a0.1.2.2.1, a0.1.2.2.2.1, a0.1.2.2.2.2.1, a0.1.2.2.2.2.2.1, a0.1.2.2.2.2.2.2.1, a0.1.2.2.2.2.2.2.2), a0.2))))))
set_option maxRecDepth 20000 in
set_option maxHeartbeats 40000000 in
theorem truth_Truth_Do.spec {k : Nat} {a0 : (Int × Int × Int × Int × Int × Int × Int × Int) × (List (List UInt8 × List UInt8))} {a1 : Int × List UInt8 × List UInt8 × Int} {b1 : Nat} {A1 : Option Addr} {c_1 : Nat} {r : (Int × List UInt8 × (List (List UInt8 × List UInt8))) × ((Int × Int × Int × Int × Int × Int × Int × Int) × (List (List UInt8 × List UInt8)))} (H : truth_Truth_Do.f k a0 a1 = some r) :
    Spec Try.prog 34 [.pointer (some ⟨b1, 0, none⟩), .agg #[.int .i64 a1.1, .string ⟨⟨a1.2.1⟩⟩, .string ⟨⟨a1.2.2.1⟩⟩, .int .i64 a1.2.2.2]] [boxC b1 132 [.int .i64 a0.1.1, .int .i64 a0.1.2.1, .int .i64 a0.1.2.2.1, .int .i64 a0.1.2.2.2.1, .int .i64 a0.1.2.2.2.2.1, .int .i64 a0.1.2.2.2.2.2.1, .int .i64 a0.1.2.2.2.2.2.2.1, .int .i64 a0.1.2.2.2.2.2.2.2, .slice A1 a0.2.length c_1], ownC 75 (.pair .str .str) a0.2 (.slice A1 a0.2.length c_1)] [] (fun v l => ∃ (A_0 : Option Addr) (c_0 : Nat) (A_1 : Option Addr) (c_1 : Nat), v = .agg #[.int .i64 r.1.1, .string ⟨⟨r.1.2.1⟩⟩, .slice A_0 r.1.2.2.length c_0] ∧ l = [ownC 75 (.pair .str .str) r.1.2.2 (.slice A_0 r.1.2.2.length c_0), boxC b1 132 [.int .i64 r.2.1.1, .int .i64 r.2.1.2.1, .int .i64 r.2.1.2.2.1, .int .i64 r.2.1.2.2.2.1, .int .i64 r.2.1.2.2.2.2.1, .int .i64 r.2.1.2.2.2.2.2.1, .int .i64 r.2.1.2.2.2.2.2.2.1, .int .i64 r.2.1.2.2.2.2.2.2.2, .slice A_1 r.2.2.length c_1], ownC 75 (.pair .str .str) r.2.2 (.slice A_1 r.2.2.length c_1)]) := by
  refine Spec.enter Try.func34 rfl (by kernel_rfl) (by kernel_rfl) fun w0 F0 h0 => ?_
  unfold truth_Truth_Do.f at H
  refine J.seq ?_
  refine J.region ?_
  refine RJ.op rfl rfl (op_box rfl rfl h0) ?_
  rintro _ w1 ⟨b2, rfl, h1⟩
  replace h1 : St w0 F0 [boxC b2 64 [.int .i64 a1.1, .string ⟨⟨a1.2.1⟩⟩, .string ⟨⟨a1.2.2.1⟩⟩, .int .i64 a1.2.2.2], boxC b1 132 [.int .i64 a0.1.1, .int .i64 a0.1.2.1, .int .i64 a0.1.2.2.1, .int .i64 a0.1.2.2.2.1, .int .i64 a0.1.2.2.2.2.1, .int .i64 a0.1.2.2.2.2.2.1, .int .i64 a0.1.2.2.2.2.2.2.1, .int .i64 a0.1.2.2.2.2.2.2.2, .slice A1 a0.2.length c_1], ownC 75 (.pair .str .str) a0.2 (.slice A1 a0.2.length c_1)] _ _ := h1
  refine RJ.op rfl rfl (op_alloc ttok rfl rfl h1) ?_
  rintro _ w2 ⟨b3, rfl, h2⟩
  replace h2 : St w0 F0 [boxC b3 70 [.int .i64 0, .string ⟨⟨([] : List UInt8)⟩⟩, .slice none ([] : List (List UInt8 × List UInt8)).length 0], boxC b2 64 [.int .i64 a1.1, .string ⟨⟨a1.2.1⟩⟩, .string ⟨⟨a1.2.2.1⟩⟩, .int .i64 a1.2.2.2], boxC b1 132 [.int .i64 a0.1.1, .int .i64 a0.1.2.1, .int .i64 a0.1.2.2.1, .int .i64 a0.1.2.2.2.1, .int .i64 a0.1.2.2.2.2.1, .int .i64 a0.1.2.2.2.2.2.1, .int .i64 a0.1.2.2.2.2.2.2.1, .int .i64 a0.1.2.2.2.2.2.2.2, .slice A1 a0.2.length c_1], ownC 75 (.pair .str .str) a0.2 (.slice A1 a0.2.length c_1)] _ _ := h2
  refine RJ.fin [(0, .pointer (some ⟨b1, 0, none⟩)), (3, .pointer (some ⟨b2, 0, none⟩)), (4, .pointer (some ⟨b3, 0, none⟩))] rfl ?_
  refine J.seq ?_
  refine J.region ?_
  refine RJ.run ttok 1 rfl ?_
  refine RJ.q rfl rfl (q_load_box ttok 1 h2.wht rfl rfl rfl rfl rfl) ?_
  obtain ⟨r1, q1, H⟩ := bind_t H
  refine RJ.op rfl rfl (op_call [2, 2] (truth_Truth_Would.spec q1) rfl rfl rfl h2 rfl gnil) ?_
  rintro _ w3 ⟨_, ⟨A2, c_2, rfl, rfl⟩, h3⟩
  replace h3 : St w0 F0 [ownC 75 (.pair .str .str) r1.2.2 (.slice A2 r1.2.2.length c_2), boxC b1 132 [.int .i64 a0.1.1, .int .i64 a0.1.2.1, .int .i64 a0.1.2.2.1, .int .i64 a0.1.2.2.2.1, .int .i64 a0.1.2.2.2.2.1, .int .i64 a0.1.2.2.2.2.2.1, .int .i64 a0.1.2.2.2.2.2.2.1, .int .i64 a0.1.2.2.2.2.2.2.2, .slice A1 a0.2.length c_1], ownC 75 (.pair .str .str) a0.2 (.slice A1 a0.2.length c_1), boxC b3 70 [.int .i64 0, .string ⟨⟨([] : List UInt8)⟩⟩, .slice none ([] : List (List UInt8 × List UInt8)).length 0], boxC b2 64 [.int .i64 a1.1, .string ⟨⟨a1.2.1⟩⟩, .string ⟨⟨a1.2.2.1⟩⟩, .int .i64 a1.2.2.2]] _ _ := h3
  refine RJ.op rfl rfl (op_alloc ttok rfl rfl h3) ?_
  rintro _ w4 ⟨b4, rfl, h4⟩
  replace h4 : St w0 F0 [boxC b4 70 [.int .i64 0, .string ⟨⟨([] : List UInt8)⟩⟩, .slice none ([] : List (List UInt8 × List UInt8)).length 0], ownC 75 (.pair .str .str) r1.2.2 (.slice A2 r1.2.2.length c_2), boxC b1 132 [.int .i64 a0.1.1, .int .i64 a0.1.2.1, .int .i64 a0.1.2.2.1, .int .i64 a0.1.2.2.2.1, .int .i64 a0.1.2.2.2.2.1, .int .i64 a0.1.2.2.2.2.2.1, .int .i64 a0.1.2.2.2.2.2.2.1, .int .i64 a0.1.2.2.2.2.2.2.2, .slice A1 a0.2.length c_1], ownC 75 (.pair .str .str) a0.2 (.slice A1 a0.2.length c_1), boxC b3 70 [.int .i64 0, .string ⟨⟨([] : List UInt8)⟩⟩, .slice none ([] : List (List UInt8 × List UInt8)).length 0], boxC b2 64 [.int .i64 a1.1, .string ⟨⟨a1.2.1⟩⟩, .string ⟨⟨a1.2.2.1⟩⟩, .int .i64 a1.2.2.2]] _ _ := h4
  refine RJ.op rfl rfl (op_store ttok 0 rfl h4 rfl rfl rfl rfl rfl rfl rfl) ?_
  intro _ w5 h5
  replace h5 : St w0 F0 [boxC b4 70 [.int .i64 r1.1, .string ⟨⟨r1.2.1⟩⟩, .slice A2 r1.2.2.length c_2], ownC 75 (.pair .str .str) r1.2.2 (.slice A2 r1.2.2.length c_2), boxC b1 132 [.int .i64 a0.1.1, .int .i64 a0.1.2.1, .int .i64 a0.1.2.2.1, .int .i64 a0.1.2.2.2.1, .int .i64 a0.1.2.2.2.2.1, .int .i64 a0.1.2.2.2.2.2.1, .int .i64 a0.1.2.2.2.2.2.2.1, .int .i64 a0.1.2.2.2.2.2.2.2, .slice A1 a0.2.length c_1], ownC 75 (.pair .str .str) a0.2 (.slice A1 a0.2.length c_1), boxC b3 70 [.int .i64 0, .string ⟨⟨([] : List UInt8)⟩⟩, .slice none ([] : List (List UInt8 × List UInt8)).length 0], boxC b2 64 [.int .i64 a1.1, .string ⟨⟨a1.2.1⟩⟩, .string ⟨⟨a1.2.2.1⟩⟩, .int .i64 a1.2.2.2]] _ _ := h5
  refine RJ.fin [(0, .pointer (some ⟨b1, 0, none⟩)), (3, .pointer (some ⟨b2, 0, none⟩)), (4, .pointer (some ⟨b3, 0, none⟩)), (5, .pointer (some ⟨b4, 0, none⟩))] rfl ?_
  refine J.seq ?_
  refine J.seq ?_
  refine J.region ?_
  refine RJ.run ttok 1 rfl ?_
  refine RJ.q rfl rfl (q_load_box ttok 0 h5.wht rfl rfl rfl rfl rfl) ?_
  refine RJ.run ttok 1 rfl ?_
  refine RJ.fin [(0, .pointer (some ⟨b1, 0, none⟩)), (3, .pointer (some ⟨b2, 0, none⟩)), (4, .pointer (some ⟨b3, 0, none⟩)), (5, .pointer (some ⟨b4, 0, none⟩)), (11, .bool (!decide (r1.1 = 0)))] rfl ?_
  refine J.cond rfl (fun c1 => ?_) (fun c1 => ?_)
  · replace H := ite_t c1 H
    refine J.seq ?_
    refine J.region ?_
    refine RJ.q rfl rfl (q_load_box ttok 0 h5.wht rfl rfl rfl rfl rfl) ?_
    refine RJ.op rfl rfl (op_store ttok 4 rfl h5 rfl rfl rfl rfl rfl rfl rfl) ?_
    intro _ w6 h6
    replace h6 : St w0 F0 [boxC b3 70 [.int .i64 r1.1, .string ⟨⟨r1.2.1⟩⟩, .slice A2 r1.2.2.length c_2], boxC b4 70 [.int .i64 r1.1, .string ⟨⟨r1.2.1⟩⟩, .slice A2 r1.2.2.length c_2], ownC 75 (.pair .str .str) r1.2.2 (.slice A2 r1.2.2.length c_2), boxC b1 132 [.int .i64 a0.1.1, .int .i64 a0.1.2.1, .int .i64 a0.1.2.2.1, .int .i64 a0.1.2.2.2.1, .int .i64 a0.1.2.2.2.2.1, .int .i64 a0.1.2.2.2.2.2.1, .int .i64 a0.1.2.2.2.2.2.2.1, .int .i64 a0.1.2.2.2.2.2.2.2, .slice A1 a0.2.length c_1], ownC 75 (.pair .str .str) a0.2 (.slice A1 a0.2.length c_1), boxC b2 64 [.int .i64 a1.1, .string ⟨⟨a1.2.1⟩⟩, .string ⟨⟨a1.2.2.1⟩⟩, .int .i64 a1.2.2.2]] _ _ := h6
    refine RJ.fin [(4, .pointer (some ⟨b3, 0, none⟩))] rfl ?_
    have h7 := h6.only [0, 1, 1, 1] rfl
    replace h7 : St w0 F0 [boxC b3 70 [.int .i64 r1.1, .string ⟨⟨r1.2.1⟩⟩, .slice A2 r1.2.2.length c_2], ownC 75 (.pair .str .str) r1.2.2 (.slice A2 r1.2.2.length c_2), boxC b1 132 [.int .i64 a0.1.1, .int .i64 a0.1.2.1, .int .i64 a0.1.2.2.1, .int .i64 a0.1.2.2.2.1, .int .i64 a0.1.2.2.2.2.1, .int .i64 a0.1.2.2.2.2.2.1, .int .i64 a0.1.2.2.2.2.2.2.1, .int .i64 a0.1.2.2.2.2.2.2.2, .slice A1 a0.2.length c_1], ownC 75 (.pair .str .str) a0.2 (.slice A1 a0.2.length c_1)] _ _ := h7
    refine J.ret ?_
    obtain rfl := Option.some.inj H
    exact ⟨_, _, _, (results_two rfl (rvcons (RV.cell ttok 0 h7 rfl rfl rfl rfl) rvnil) rfl), ⟨_, _, _, _, rfl, rfl⟩, h7.only [1, 1, 1] rfl⟩
  · replace H := ite_f c1 H
    refine J.skip ?_
    refine J.seq ?_
    refine J.seq ?_
    refine J.region ?_
    refine RJ.run ttok 1 rfl ?_
    refine RJ.q rfl rfl (q_load_box ttok 5 h5.wht rfl rfl rfl rfl rfl) ?_
    refine RJ.fin [(0, .pointer (some ⟨b1, 0, none⟩)), (3, .pointer (some ⟨b2, 0, none⟩)), (4, .pointer (some ⟨b3, 0, none⟩)), (5, .pointer (some ⟨b4, 0, none⟩)), (14, .int .i64 a1.1)] rfl ?_
    refine J.block ?_
    refine J.seq ?_
    refine J.region ?_
    refine RJ.run ttok 2 rfl ?_
    refine RJ.fin [(0, .pointer (some ⟨b1, 0, none⟩)), (3, .pointer (some ⟨b2, 0, none⟩)), (4, .pointer (some ⟨b3, 0, none⟩)), (5, .pointer (some ⟨b4, 0, none⟩)), (14, .int .i64 a1.1), (15, .bool (decide (a1.1 = 1)))] rfl ?_
    refine J.cond rfl (fun c2 => ?_) (fun c2 => ?_)
    · replace H := ite_t c2 H
      obtain ⟨r2, q2, H⟩ := bind_t H
      refine J.mid (fun env w => ∃ (A3 : Option Addr) (c_3 : Nat), env = [(4, .pointer (some ⟨b3, 0, none⟩)), (5, .pointer (some ⟨b4, 0, none⟩))] ∧ St w0 F0 [boxC b1 132 [.int .i64 a0.1.1, .int .i64 a0.1.2.1, .int .i64 a0.1.2.2.1, .int .i64 a0.1.2.2.2.1, .int .i64 a0.1.2.2.2.2.1, .int .i64 a0.1.2.2.2.2.2.1, .int .i64 a0.1.2.2.2.2.2.2.1, .int .i64 a0.1.2.2.2.2.2.2.2, .slice A3 r2.length c_3], ownC 75 (.pair .str .str) r2 (.slice A3 r2.length c_3), boxC b4 70 [.int .i64 r1.1, .string ⟨⟨r1.2.1⟩⟩, .slice A2 r1.2.2.length c_2], ownC 75 (.pair .str .str) r1.2.2 (.slice A2 r1.2.2.length c_2), ownC 75 (.pair .str .str) a0.2 (.slice A1 a0.2.length c_1), boxC b3 70 [.int .i64 0, .string ⟨⟨([] : List UInt8)⟩⟩, .slice none ([] : List (List UInt8 × List UInt8)).length 0], boxC b2 64 [.int .i64 a1.1, .string ⟨⟨a1.2.1⟩⟩, .string ⟨⟨a1.2.2.1⟩⟩, .int .i64 a1.2.2.2]] [] w) ?_ ?_
      · refine J.heldSt mix (h5.only [0, 0, 1, 1, 1] rfl) ?_
        have h11 := h5.drew
        refine HJ.run ttok rfl [0, 1, 2, 3, 5, 7] rfl ?_
        refine HJ.q (i := 6) rfl rfl rfl rfl rfl rfl (q_load_box ttok 4 (fun w e => e) rfl rfl rfl rfl rfl) ?_
        refine HJ.q (i := 8) rfl rfl rfl rfl rfl rfl (q_load_box ttok 4 (fun w e => e) rfl rfl rfl rfl rfl) ?_
        refine HJ.run ttok rfl [9] rfl ?_
        refine HJ.pick [4, 10] (i := 4) rfl rfl rfl rfl ?_
        refine (hscons ?_ (hscons ?_ hsnil))
        · refine HS.op (i := 4) rfl rfl rfl (OpT.ofq (q_load_box ttok 2 h11.wht rfl rfl rfl rfl rfl)) ?_
          rintro _ _ ⟨rfl, rfl⟩
          replace h11 : St w0 F0 [boxC b4 70 [.int .i64 r1.1, .string ⟨⟨r1.2.1⟩⟩, .slice A2 r1.2.2.length c_2], ownC 75 (.pair .str .str) r1.2.2 (.slice A2 r1.2.2.length c_2), boxC b1 132 [.int .i64 a0.1.1, .int .i64 a0.1.2.1, .int .i64 a0.1.2.2.1, .int .i64 a0.1.2.2.2.1, .int .i64 a0.1.2.2.2.2.1, .int .i64 a0.1.2.2.2.2.2.1, .int .i64 a0.1.2.2.2.2.2.2.1, .int .i64 a0.1.2.2.2.2.2.2.2, .slice A1 a0.2.length c_1], ownC 75 (.pair .str .str) a0.2 (.slice A1 a0.2.length c_1), boxC b3 70 [.int .i64 0, .string ⟨⟨([] : List UInt8)⟩⟩, .slice none ([] : List (List UInt8 × List UInt8)).length 0], boxC b2 64 [.int .i64 a1.1, .string ⟨⟨a1.2.1⟩⟩, .string ⟨⟨a1.2.2.1⟩⟩, .int .i64 a1.2.2.2]] _ _ := h11
          refine ⟨⟨[_], (h11.only [2, 0, 0, 0, 0, 0] rfl)⟩, ?_⟩
          refine HJ.op (i := 10) rfl rfl rfl rfl rfl (op_lit ttok (.pair .str (.pair .bool .str)) rfl ([(a1.2.1, false, a1.2.2.1)] : List (List UInt8 × Bool × List UInt8)) rfl h11 rfl rfl (by decide) rfl rfl rfl rfl rfl rfl rfl) ?_
          rintro _ w12 ⟨b6, rfl, h12⟩
          replace h12 : St w0 F0 [ownC 135 (.pair .str (.pair .bool .str)) ([(a1.2.1, false, a1.2.2.1)] : List (List UInt8 × Bool × List UInt8)) (.slice (some ⟨b6, 0, none⟩) ([(a1.2.1, false, a1.2.2.1)] : List (List UInt8 × Bool × List UInt8)).length 1), boxC b4 70 [.int .i64 r1.1, .string ⟨⟨r1.2.1⟩⟩, .slice A2 r1.2.2.length c_2], ownC 75 (.pair .str .str) r1.2.2 (.slice A2 r1.2.2.length c_2), boxC b1 132 [.int .i64 a0.1.1, .int .i64 a0.1.2.1, .int .i64 a0.1.2.2.1, .int .i64 a0.1.2.2.2.1, .int .i64 a0.1.2.2.2.2.1, .int .i64 a0.1.2.2.2.2.2.1, .int .i64 a0.1.2.2.2.2.2.2.1, .int .i64 a0.1.2.2.2.2.2.2.2, .slice A1 a0.2.length c_1], ownC 75 (.pair .str .str) a0.2 (.slice A1 a0.2.length c_1), boxC b3 70 [.int .i64 0, .string ⟨⟨([] : List UInt8)⟩⟩, .slice none ([] : List (List UInt8 × List UInt8)).length 0], boxC b2 64 [.int .i64 a1.1, .string ⟨⟨a1.2.1⟩⟩, .string ⟨⟨a1.2.2.1⟩⟩, .int .i64 a1.2.2.2]] _ _ := h12
          refine ⟨⟨[_, _], (h12.only [0, 2, 0, 0, 0, 0, 0] rfl)⟩, ?_⟩
          refine HJ.op (i := 11) rfl rfl rfl rfl rfl (op_call [] (leaf_Apply.spec q2) rfl rfl rfl h12 rfl (gcons (Gives.of 4 rfl own_rd) (gcons (Gives.of 0 rfl own_rd) gnil))) ?_
          rintro _ w13 ⟨_, ⟨A4, c_4, rfl, rfl⟩, h13⟩
          replace h13 : St w0 F0 [ownC 75 (.pair .str .str) r2 (.slice A4 r2.length c_4), ownC 135 (.pair .str (.pair .bool .str)) ([(a1.2.1, false, a1.2.2.1)] : List (List UInt8 × Bool × List UInt8)) (.slice (some ⟨b6, 0, none⟩) ([(a1.2.1, false, a1.2.2.1)] : List (List UInt8 × Bool × List UInt8)).length 1), boxC b4 70 [.int .i64 r1.1, .string ⟨⟨r1.2.1⟩⟩, .slice A2 r1.2.2.length c_2], ownC 75 (.pair .str .str) r1.2.2 (.slice A2 r1.2.2.length c_2), boxC b1 132 [.int .i64 a0.1.1, .int .i64 a0.1.2.1, .int .i64 a0.1.2.2.1, .int .i64 a0.1.2.2.2.1, .int .i64 a0.1.2.2.2.2.1, .int .i64 a0.1.2.2.2.2.2.1, .int .i64 a0.1.2.2.2.2.2.2.1, .int .i64 a0.1.2.2.2.2.2.2.2, .slice A1 a0.2.length c_1], ownC 75 (.pair .str .str) a0.2 (.slice A1 a0.2.length c_1), boxC b3 70 [.int .i64 0, .string ⟨⟨([] : List UInt8)⟩⟩, .slice none ([] : List (List UInt8 × List UInt8)).length 0], boxC b2 64 [.int .i64 a1.1, .string ⟨⟨a1.2.1⟩⟩, .string ⟨⟨a1.2.2.1⟩⟩, .int .i64 a1.2.2.2]] _ _ := h13
          refine ⟨⟨[_, _, _], (h13.only [0, 0, 2, 0, 0, 0, 0, 0] rfl)⟩, ?_⟩
          refine HJ.run ttok rfl [12, 13] rfl ?_
          refine HJ.op (i := 14) rfl rfl rfl rfl rfl (op_store ttok 4 rfl h13 rfl rfl rfl rfl rfl rfl rfl) ?_
          intro _ w14 h14
          replace h14 : St w0 F0 [boxC b1 132 [.int .i64 a0.1.1, .int .i64 a0.1.2.1, .int .i64 a0.1.2.2.1, .int .i64 a0.1.2.2.2.1, .int .i64 a0.1.2.2.2.2.1, .int .i64 a0.1.2.2.2.2.2.1, .int .i64 a0.1.2.2.2.2.2.2.1, .int .i64 a0.1.2.2.2.2.2.2.2, .slice A4 r2.length c_4], ownC 75 (.pair .str .str) r2 (.slice A4 r2.length c_4), ownC 135 (.pair .str (.pair .bool .str)) ([(a1.2.1, false, a1.2.2.1)] : List (List UInt8 × Bool × List UInt8)) (.slice (some ⟨b6, 0, none⟩) ([(a1.2.1, false, a1.2.2.1)] : List (List UInt8 × Bool × List UInt8)).length 1), boxC b4 70 [.int .i64 r1.1, .string ⟨⟨r1.2.1⟩⟩, .slice A2 r1.2.2.length c_2], ownC 75 (.pair .str .str) r1.2.2 (.slice A2 r1.2.2.length c_2), ownC 75 (.pair .str .str) a0.2 (.slice A1 a0.2.length c_1), boxC b3 70 [.int .i64 0, .string ⟨⟨([] : List UInt8)⟩⟩, .slice none ([] : List (List UInt8 × List UInt8)).length 0], boxC b2 64 [.int .i64 a1.1, .string ⟨⟨a1.2.1⟩⟩, .string ⟨⟨a1.2.2.1⟩⟩, .int .i64 a1.2.2.2]] _ _ := h14
          refine ⟨⟨[_, _, _], h14⟩, ?_⟩
          refine HJ.fin [(4, .pointer (some ⟨b3, 0, none⟩)), (5, .pointer (some ⟨b4, 0, none⟩))] rfl rfl ?_
          exact thenP_intro ⟨A4, c_4, rfl, ((h14.only [0, 0, 1, 1, 1, 1, 1] rfl).rds [] rfl)⟩
        · refine HS.op (i := 10) rfl rfl rfl (op_lit ttok (.pair .str (.pair .bool .str)) rfl ([(a1.2.1, false, a1.2.2.1)] : List (List UInt8 × Bool × List UInt8)) rfl h11 rfl rfl (by decide) rfl rfl rfl rfl rfl rfl rfl) ?_
          rintro _ w15 ⟨b7, rfl, h15⟩
          replace h15 : St w0 F0 [ownC 135 (.pair .str (.pair .bool .str)) ([(a1.2.1, false, a1.2.2.1)] : List (List UInt8 × Bool × List UInt8)) (.slice (some ⟨b7, 0, none⟩) ([(a1.2.1, false, a1.2.2.1)] : List (List UInt8 × Bool × List UInt8)).length 1), boxC b4 70 [.int .i64 r1.1, .string ⟨⟨r1.2.1⟩⟩, .slice A2 r1.2.2.length c_2], ownC 75 (.pair .str .str) r1.2.2 (.slice A2 r1.2.2.length c_2), boxC b1 132 [.int .i64 a0.1.1, .int .i64 a0.1.2.1, .int .i64 a0.1.2.2.1, .int .i64 a0.1.2.2.2.1, .int .i64 a0.1.2.2.2.2.1, .int .i64 a0.1.2.2.2.2.2.1, .int .i64 a0.1.2.2.2.2.2.2.1, .int .i64 a0.1.2.2.2.2.2.2.2, .slice A1 a0.2.length c_1], ownC 75 (.pair .str .str) a0.2 (.slice A1 a0.2.length c_1), boxC b3 70 [.int .i64 0, .string ⟨⟨([] : List UInt8)⟩⟩, .slice none ([] : List (List UInt8 × List UInt8)).length 0], boxC b2 64 [.int .i64 a1.1, .string ⟨⟨a1.2.1⟩⟩, .string ⟨⟨a1.2.2.1⟩⟩, .int .i64 a1.2.2.2]] _ _ := h15
          refine ⟨⟨[_, _], (h15.only [0, 2, 0, 0, 0, 0, 0] rfl)⟩, ?_⟩
          refine HJ.op (i := 4) rfl rfl rfl rfl rfl (OpT.ofq (q_load_box ttok 3 h15.wht rfl rfl rfl rfl rfl)) ?_
          rintro _ _ ⟨rfl, rfl⟩
          replace h15 : St w0 F0 [ownC 135 (.pair .str (.pair .bool .str)) ([(a1.2.1, false, a1.2.2.1)] : List (List UInt8 × Bool × List UInt8)) (.slice (some ⟨b7, 0, none⟩) ([(a1.2.1, false, a1.2.2.1)] : List (List UInt8 × Bool × List UInt8)).length 1), boxC b4 70 [.int .i64 r1.1, .string ⟨⟨r1.2.1⟩⟩, .slice A2 r1.2.2.length c_2], ownC 75 (.pair .str .str) r1.2.2 (.slice A2 r1.2.2.length c_2), boxC b1 132 [.int .i64 a0.1.1, .int .i64 a0.1.2.1, .int .i64 a0.1.2.2.1, .int .i64 a0.1.2.2.2.1, .int .i64 a0.1.2.2.2.2.1, .int .i64 a0.1.2.2.2.2.2.1, .int .i64 a0.1.2.2.2.2.2.2.1, .int .i64 a0.1.2.2.2.2.2.2.2, .slice A1 a0.2.length c_1], ownC 75 (.pair .str .str) a0.2 (.slice A1 a0.2.length c_1), boxC b3 70 [.int .i64 0, .string ⟨⟨([] : List UInt8)⟩⟩, .slice none ([] : List (List UInt8 × List UInt8)).length 0], boxC b2 64 [.int .i64 a1.1, .string ⟨⟨a1.2.1⟩⟩, .string ⟨⟨a1.2.2.1⟩⟩, .int .i64 a1.2.2.2]] _ _ := h15
          refine ⟨⟨[_, _], (h15.only [0, 2, 0, 0, 0, 0, 0] rfl)⟩, ?_⟩
          refine HJ.op (i := 11) rfl rfl rfl rfl rfl (op_call [] (leaf_Apply.spec q2) rfl rfl rfl h15 rfl (gcons (Gives.of 4 rfl own_rd) (gcons (Gives.of 0 rfl own_rd) gnil))) ?_
          rintro _ w17 ⟨_, ⟨A5, c_5, rfl, rfl⟩, h16⟩
          replace h16 : St w0 F0 [ownC 75 (.pair .str .str) r2 (.slice A5 r2.length c_5), ownC 135 (.pair .str (.pair .bool .str)) ([(a1.2.1, false, a1.2.2.1)] : List (List UInt8 × Bool × List UInt8)) (.slice (some ⟨b7, 0, none⟩) ([(a1.2.1, false, a1.2.2.1)] : List (List UInt8 × Bool × List UInt8)).length 1), boxC b4 70 [.int .i64 r1.1, .string ⟨⟨r1.2.1⟩⟩, .slice A2 r1.2.2.length c_2], ownC 75 (.pair .str .str) r1.2.2 (.slice A2 r1.2.2.length c_2), boxC b1 132 [.int .i64 a0.1.1, .int .i64 a0.1.2.1, .int .i64 a0.1.2.2.1, .int .i64 a0.1.2.2.2.1, .int .i64 a0.1.2.2.2.2.1, .int .i64 a0.1.2.2.2.2.2.1, .int .i64 a0.1.2.2.2.2.2.2.1, .int .i64 a0.1.2.2.2.2.2.2.2, .slice A1 a0.2.length c_1], ownC 75 (.pair .str .str) a0.2 (.slice A1 a0.2.length c_1), boxC b3 70 [.int .i64 0, .string ⟨⟨([] : List UInt8)⟩⟩, .slice none ([] : List (List UInt8 × List UInt8)).length 0], boxC b2 64 [.int .i64 a1.1, .string ⟨⟨a1.2.1⟩⟩, .string ⟨⟨a1.2.2.1⟩⟩, .int .i64 a1.2.2.2]] _ _ := h16
          refine ⟨⟨[_, _, _], (h16.only [0, 0, 2, 0, 0, 0, 0, 0] rfl)⟩, ?_⟩
          refine HJ.run ttok rfl [12, 13] rfl ?_
          refine HJ.op (i := 14) rfl rfl rfl rfl rfl (op_store ttok 4 rfl h16 rfl rfl rfl rfl rfl rfl rfl) ?_
          intro _ w18 h17
          replace h17 : St w0 F0 [boxC b1 132 [.int .i64 a0.1.1, .int .i64 a0.1.2.1, .int .i64 a0.1.2.2.1, .int .i64 a0.1.2.2.2.1, .int .i64 a0.1.2.2.2.2.1, .int .i64 a0.1.2.2.2.2.2.1, .int .i64 a0.1.2.2.2.2.2.2.1, .int .i64 a0.1.2.2.2.2.2.2.2, .slice A5 r2.length c_5], ownC 75 (.pair .str .str) r2 (.slice A5 r2.length c_5), ownC 135 (.pair .str (.pair .bool .str)) ([(a1.2.1, false, a1.2.2.1)] : List (List UInt8 × Bool × List UInt8)) (.slice (some ⟨b7, 0, none⟩) ([(a1.2.1, false, a1.2.2.1)] : List (List UInt8 × Bool × List UInt8)).length 1), boxC b4 70 [.int .i64 r1.1, .string ⟨⟨r1.2.1⟩⟩, .slice A2 r1.2.2.length c_2], ownC 75 (.pair .str .str) r1.2.2 (.slice A2 r1.2.2.length c_2), ownC 75 (.pair .str .str) a0.2 (.slice A1 a0.2.length c_1), boxC b3 70 [.int .i64 0, .string ⟨⟨([] : List UInt8)⟩⟩, .slice none ([] : List (List UInt8 × List UInt8)).length 0], boxC b2 64 [.int .i64 a1.1, .string ⟨⟨a1.2.1⟩⟩, .string ⟨⟨a1.2.2.1⟩⟩, .int .i64 a1.2.2.2]] _ _ := h17
          refine ⟨⟨[_, _, _], h17⟩, ?_⟩
          refine HJ.fin [(4, .pointer (some ⟨b3, 0, none⟩)), (5, .pointer (some ⟨b4, 0, none⟩))] rfl rfl ?_
          exact thenP_intro ⟨A5, c_5, rfl, ((h17.only [0, 0, 1, 1, 1, 1, 1] rfl).rds [] rfl)⟩
      · rintro env w19 ⟨A3, c_3, rfl, h18⟩
        refine J.seq ?_
        refine J.region ?_
        refine RJ.q rfl rfl (q_load_box ttok 2 h18.wht rfl rfl rfl rfl rfl) ?_
        refine RJ.op rfl rfl (op_store ttok 5 rfl h18 rfl rfl rfl rfl rfl rfl rfl) ?_
        intro _ w20 h19
        replace h19 : St w0 F0 [boxC b3 70 [.int .i64 r1.1, .string ⟨⟨r1.2.1⟩⟩, .slice A2 r1.2.2.length c_2], boxC b1 132 [.int .i64 a0.1.1, .int .i64 a0.1.2.1, .int .i64 a0.1.2.2.1, .int .i64 a0.1.2.2.2.1, .int .i64 a0.1.2.2.2.2.1, .int .i64 a0.1.2.2.2.2.2.1, .int .i64 a0.1.2.2.2.2.2.2.1, .int .i64 a0.1.2.2.2.2.2.2.2, .slice A3 r2.length c_3], ownC 75 (.pair .str .str) r2 (.slice A3 r2.length c_3), boxC b4 70 [.int .i64 r1.1, .string ⟨⟨r1.2.1⟩⟩, .slice A2 r1.2.2.length c_2], ownC 75 (.pair .str .str) r1.2.2 (.slice A2 r1.2.2.length c_2), ownC 75 (.pair .str .str) a0.2 (.slice A1 a0.2.length c_1), boxC b2 64 [.int .i64 a1.1, .string ⟨⟨a1.2.1⟩⟩, .string ⟨⟨a1.2.2.1⟩⟩, .int .i64 a1.2.2.2]] _ _ := h19
        refine RJ.fin [(4, .pointer (some ⟨b3, 0, none⟩))] rfl ?_
        have h20 := h19.only [0, 0, 0, 1] rfl
        replace h20 : St w0 F0 [boxC b3 70 [.int .i64 r1.1, .string ⟨⟨r1.2.1⟩⟩, .slice A2 r1.2.2.length c_2], boxC b1 132 [.int .i64 a0.1.1, .int .i64 a0.1.2.1, .int .i64 a0.1.2.2.1, .int .i64 a0.1.2.2.2.1, .int .i64 a0.1.2.2.2.2.1, .int .i64 a0.1.2.2.2.2.2.1, .int .i64 a0.1.2.2.2.2.2.2.1, .int .i64 a0.1.2.2.2.2.2.2.2, .slice A3 r2.length c_3], ownC 75 (.pair .str .str) r2 (.slice A3 r2.length c_3), ownC 75 (.pair .str .str) r1.2.2 (.slice A2 r1.2.2.length c_2)] _ _ := h20
        refine J.ret ?_
        obtain rfl := Option.some.inj H
        exact ⟨_, _, _, (results_two rfl (rvcons (RV.cell ttok 0 h20 rfl rfl rfl rfl) rvnil) rfl), ⟨_, _, _, _, rfl, rfl⟩, h20.only [3, 1, 1] rfl⟩
    · replace H := ite_f c2 H
      refine J.seq ?_
      refine J.region ?_
      refine RJ.run ttok 2 rfl ?_
      refine RJ.fin [(0, .pointer (some ⟨b1, 0, none⟩)), (3, .pointer (some ⟨b2, 0, none⟩)), (4, .pointer (some ⟨b3, 0, none⟩)), (5, .pointer (some ⟨b4, 0, none⟩)), (31, .bool (decide (a1.1 = 2)))] rfl ?_
      refine J.cond rfl (fun c3 => ?_) (fun c3 => ?_)
      · replace H := ite_t c3 H
        obtain ⟨r3, q3, H⟩ := bind_t H
        refine J.mid (fun env w => ∃ (A6 : Option Addr) (c_6 : Nat), env = [(4, .pointer (some ⟨b3, 0, none⟩)), (5, .pointer (some ⟨b4, 0, none⟩))] ∧ St w0 F0 [boxC b1 132 [.int .i64 a0.1.1, .int .i64 a0.1.2.1, .int .i64 a0.1.2.2.1, .int .i64 a0.1.2.2.2.1, .int .i64 a0.1.2.2.2.2.1, .int .i64 a0.1.2.2.2.2.2.1, .int .i64 a0.1.2.2.2.2.2.2.1, .int .i64 a0.1.2.2.2.2.2.2.2, .slice A6 r3.length c_6], ownC 75 (.pair .str .str) r3 (.slice A6 r3.length c_6), boxC b4 70 [.int .i64 r1.1, .string ⟨⟨r1.2.1⟩⟩, .slice A2 r1.2.2.length c_2], ownC 75 (.pair .str .str) r1.2.2 (.slice A2 r1.2.2.length c_2), ownC 75 (.pair .str .str) a0.2 (.slice A1 a0.2.length c_1), boxC b3 70 [.int .i64 0, .string ⟨⟨([] : List UInt8)⟩⟩, .slice none ([] : List (List UInt8 × List UInt8)).length 0], boxC b2 64 [.int .i64 a1.1, .string ⟨⟨a1.2.1⟩⟩, .string ⟨⟨a1.2.2.1⟩⟩, .int .i64 a1.2.2.2]] [] w) ?_ ?_
        · refine J.heldSt mix (h5.only [0, 0, 1, 1, 1] rfl) ?_
          have h24 := h5.drew
          refine HJ.run ttok rfl [0, 1, 2, 3, 5] rfl ?_
          refine HJ.q (i := 6) rfl rfl rfl rfl rfl rfl (q_load_box ttok 4 (fun w e => e) rfl rfl rfl rfl rfl) ?_
          refine HJ.run ttok rfl [7] rfl ?_
          refine HJ.pick [4, 8] (i := 4) rfl rfl rfl rfl ?_
          refine (hscons ?_ (hscons ?_ hsnil))
          · refine HS.op (i := 4) rfl rfl rfl (OpT.ofq (q_load_box ttok 2 h24.wht rfl rfl rfl rfl rfl)) ?_
            rintro _ _ ⟨rfl, rfl⟩
            replace h24 : St w0 F0 [boxC b4 70 [.int .i64 r1.1, .string ⟨⟨r1.2.1⟩⟩, .slice A2 r1.2.2.length c_2], ownC 75 (.pair .str .str) r1.2.2 (.slice A2 r1.2.2.length c_2), boxC b1 132 [.int .i64 a0.1.1, .int .i64 a0.1.2.1, .int .i64 a0.1.2.2.1, .int .i64 a0.1.2.2.2.1, .int .i64 a0.1.2.2.2.2.1, .int .i64 a0.1.2.2.2.2.2.1, .int .i64 a0.1.2.2.2.2.2.2.1, .int .i64 a0.1.2.2.2.2.2.2.2, .slice A1 a0.2.length c_1], ownC 75 (.pair .str .str) a0.2 (.slice A1 a0.2.length c_1), boxC b3 70 [.int .i64 0, .string ⟨⟨([] : List UInt8)⟩⟩, .slice none ([] : List (List UInt8 × List UInt8)).length 0], boxC b2 64 [.int .i64 a1.1, .string ⟨⟨a1.2.1⟩⟩, .string ⟨⟨a1.2.2.1⟩⟩, .int .i64 a1.2.2.2]] _ _ := h24
            refine ⟨⟨[_], (h24.only [2, 0, 0, 0, 0, 0] rfl)⟩, ?_⟩
            refine HJ.op (i := 8) rfl rfl rfl rfl rfl (op_lit ttok (.pair .str (.pair .bool .str)) rfl ([(a1.2.1, true, ([] : List UInt8))] : List (List UInt8 × Bool × List UInt8)) rfl h24 rfl rfl (by decide) rfl rfl rfl rfl rfl rfl rfl) ?_
            rintro _ w26 ⟨b9, rfl, h25⟩
            replace h25 : St w0 F0 [ownC 135 (.pair .str (.pair .bool .str)) ([(a1.2.1, true, ([] : List UInt8))] : List (List UInt8 × Bool × List UInt8)) (.slice (some ⟨b9, 0, none⟩) ([(a1.2.1, true, ([] : List UInt8))] : List (List UInt8 × Bool × List UInt8)).length 1), boxC b4 70 [.int .i64 r1.1, .string ⟨⟨r1.2.1⟩⟩, .slice A2 r1.2.2.length c_2], ownC 75 (.pair .str .str) r1.2.2 (.slice A2 r1.2.2.length c_2), boxC b1 132 [.int .i64 a0.1.1, .int .i64 a0.1.2.1, .int .i64 a0.1.2.2.1, .int .i64 a0.1.2.2.2.1, .int .i64 a0.1.2.2.2.2.1, .int .i64 a0.1.2.2.2.2.2.1, .int .i64 a0.1.2.2.2.2.2.2.1, .int .i64 a0.1.2.2.2.2.2.2.2, .slice A1 a0.2.length c_1], ownC 75 (.pair .str .str) a0.2 (.slice A1 a0.2.length c_1), boxC b3 70 [.int .i64 0, .string ⟨⟨([] : List UInt8)⟩⟩, .slice none ([] : List (List UInt8 × List UInt8)).length 0], boxC b2 64 [.int .i64 a1.1, .string ⟨⟨a1.2.1⟩⟩, .string ⟨⟨a1.2.2.1⟩⟩, .int .i64 a1.2.2.2]] _ _ := h25
            refine ⟨⟨[_, _], (h25.only [0, 2, 0, 0, 0, 0, 0] rfl)⟩, ?_⟩
            refine HJ.op (i := 9) rfl rfl rfl rfl rfl (op_call [] (leaf_Apply.spec q3) rfl rfl rfl h25 rfl (gcons (Gives.of 4 rfl own_rd) (gcons (Gives.of 0 rfl own_rd) gnil))) ?_
            rintro _ w27 ⟨_, ⟨A7, c_7, rfl, rfl⟩, h26⟩
            replace h26 : St w0 F0 [ownC 75 (.pair .str .str) r3 (.slice A7 r3.length c_7), ownC 135 (.pair .str (.pair .bool .str)) ([(a1.2.1, true, ([] : List UInt8))] : List (List UInt8 × Bool × List UInt8)) (.slice (some ⟨b9, 0, none⟩) ([(a1.2.1, true, ([] : List UInt8))] : List (List UInt8 × Bool × List UInt8)).length 1), boxC b4 70 [.int .i64 r1.1, .string ⟨⟨r1.2.1⟩⟩, .slice A2 r1.2.2.length c_2], ownC 75 (.pair .str .str) r1.2.2 (.slice A2 r1.2.2.length c_2), boxC b1 132 [.int .i64 a0.1.1, .int .i64 a0.1.2.1, .int .i64 a0.1.2.2.1, .int .i64 a0.1.2.2.2.1, .int .i64 a0.1.2.2.2.2.1, .int .i64 a0.1.2.2.2.2.2.1, .int .i64 a0.1.2.2.2.2.2.2.1, .int .i64 a0.1.2.2.2.2.2.2.2, .slice A1 a0.2.length c_1], ownC 75 (.pair .str .str) a0.2 (.slice A1 a0.2.length c_1), boxC b3 70 [.int .i64 0, .string ⟨⟨([] : List UInt8)⟩⟩, .slice none ([] : List (List UInt8 × List UInt8)).length 0], boxC b2 64 [.int .i64 a1.1, .string ⟨⟨a1.2.1⟩⟩, .string ⟨⟨a1.2.2.1⟩⟩, .int .i64 a1.2.2.2]] _ _ := h26
            refine ⟨⟨[_, _, _], (h26.only [0, 0, 2, 0, 0, 0, 0, 0] rfl)⟩, ?_⟩
            refine HJ.run ttok rfl [10, 11] rfl ?_
            refine HJ.op (i := 12) rfl rfl rfl rfl rfl (op_store ttok 4 rfl h26 rfl rfl rfl rfl rfl rfl rfl) ?_
            intro _ w28 h27
            replace h27 : St w0 F0 [boxC b1 132 [.int .i64 a0.1.1, .int .i64 a0.1.2.1, .int .i64 a0.1.2.2.1, .int .i64 a0.1.2.2.2.1, .int .i64 a0.1.2.2.2.2.1, .int .i64 a0.1.2.2.2.2.2.1, .int .i64 a0.1.2.2.2.2.2.2.1, .int .i64 a0.1.2.2.2.2.2.2.2, .slice A7 r3.length c_7], ownC 75 (.pair .str .str) r3 (.slice A7 r3.length c_7), ownC 135 (.pair .str (.pair .bool .str)) ([(a1.2.1, true, ([] : List UInt8))] : List (List UInt8 × Bool × List UInt8)) (.slice (some ⟨b9, 0, none⟩) ([(a1.2.1, true, ([] : List UInt8))] : List (List UInt8 × Bool × List UInt8)).length 1), boxC b4 70 [.int .i64 r1.1, .string ⟨⟨r1.2.1⟩⟩, .slice A2 r1.2.2.length c_2], ownC 75 (.pair .str .str) r1.2.2 (.slice A2 r1.2.2.length c_2), ownC 75 (.pair .str .str) a0.2 (.slice A1 a0.2.length c_1), boxC b3 70 [.int .i64 0, .string ⟨⟨([] : List UInt8)⟩⟩, .slice none ([] : List (List UInt8 × List UInt8)).length 0], boxC b2 64 [.int .i64 a1.1, .string ⟨⟨a1.2.1⟩⟩, .string ⟨⟨a1.2.2.1⟩⟩, .int .i64 a1.2.2.2]] _ _ := h27
            refine ⟨⟨[_, _, _], h27⟩, ?_⟩
            refine HJ.fin [(4, .pointer (some ⟨b3, 0, none⟩)), (5, .pointer (some ⟨b4, 0, none⟩))] rfl rfl ?_
            exact thenP_intro ⟨A7, c_7, rfl, ((h27.only [0, 0, 1, 1, 1, 1, 1] rfl).rds [] rfl)⟩
          · refine HS.op (i := 8) rfl rfl rfl (op_lit ttok (.pair .str (.pair .bool .str)) rfl ([(a1.2.1, true, ([] : List UInt8))] : List (List UInt8 × Bool × List UInt8)) rfl h24 rfl rfl (by decide) rfl rfl rfl rfl rfl rfl rfl) ?_
            rintro _ w29 ⟨b10, rfl, h28⟩
            replace h28 : St w0 F0 [ownC 135 (.pair .str (.pair .bool .str)) ([(a1.2.1, true, ([] : List UInt8))] : List (List UInt8 × Bool × List UInt8)) (.slice (some ⟨b10, 0, none⟩) ([(a1.2.1, true, ([] : List UInt8))] : List (List UInt8 × Bool × List UInt8)).length 1), boxC b4 70 [.int .i64 r1.1, .string ⟨⟨r1.2.1⟩⟩, .slice A2 r1.2.2.length c_2], ownC 75 (.pair .str .str) r1.2.2 (.slice A2 r1.2.2.length c_2), boxC b1 132 [.int .i64 a0.1.1, .int .i64 a0.1.2.1, .int .i64 a0.1.2.2.1, .int .i64 a0.1.2.2.2.1, .int .i64 a0.1.2.2.2.2.1, .int .i64 a0.1.2.2.2.2.2.1, .int .i64 a0.1.2.2.2.2.2.2.1, .int .i64 a0.1.2.2.2.2.2.2.2, .slice A1 a0.2.length c_1], ownC 75 (.pair .str .str) a0.2 (.slice A1 a0.2.length c_1), boxC b3 70 [.int .i64 0, .string ⟨⟨([] : List UInt8)⟩⟩, .slice none ([] : List (List UInt8 × List UInt8)).length 0], boxC b2 64 [.int .i64 a1.1, .string ⟨⟨a1.2.1⟩⟩, .string ⟨⟨a1.2.2.1⟩⟩, .int .i64 a1.2.2.2]] _ _ := h28
            refine ⟨⟨[_, _], (h28.only [0, 2, 0, 0, 0, 0, 0] rfl)⟩, ?_⟩
            refine HJ.op (i := 4) rfl rfl rfl rfl rfl (OpT.ofq (q_load_box ttok 3 h28.wht rfl rfl rfl rfl rfl)) ?_
            rintro _ _ ⟨rfl, rfl⟩
            replace h28 : St w0 F0 [ownC 135 (.pair .str (.pair .bool .str)) ([(a1.2.1, true, ([] : List UInt8))] : List (List UInt8 × Bool × List UInt8)) (.slice (some ⟨b10, 0, none⟩) ([(a1.2.1, true, ([] : List UInt8))] : List (List UInt8 × Bool × List UInt8)).length 1), boxC b4 70 [.int .i64 r1.1, .string ⟨⟨r1.2.1⟩⟩, .slice A2 r1.2.2.length c_2], ownC 75 (.pair .str .str) r1.2.2 (.slice A2 r1.2.2.length c_2), boxC b1 132 [.int .i64 a0.1.1, .int .i64 a0.1.2.1, .int .i64 a0.1.2.2.1, .int .i64 a0.1.2.2.2.1, .int .i64 a0.1.2.2.2.2.1, .int .i64 a0.1.2.2.2.2.2.1, .int .i64 a0.1.2.2.2.2.2.2.1, .int .i64 a0.1.2.2.2.2.2.2.2, .slice A1 a0.2.length c_1], ownC 75 (.pair .str .str) a0.2 (.slice A1 a0.2.length c_1), boxC b3 70 [.int .i64 0, .string ⟨⟨([] : List UInt8)⟩⟩, .slice none ([] : List (List UInt8 × List UInt8)).length 0], boxC b2 64 [.int .i64 a1.1, .string ⟨⟨a1.2.1⟩⟩, .string ⟨⟨a1.2.2.1⟩⟩, .int .i64 a1.2.2.2]] _ _ := h28
            refine ⟨⟨[_, _], (h28.only [0, 2, 0, 0, 0, 0, 0] rfl)⟩, ?_⟩
            refine HJ.op (i := 9) rfl rfl rfl rfl rfl (op_call [] (leaf_Apply.spec q3) rfl rfl rfl h28 rfl (gcons (Gives.of 4 rfl own_rd) (gcons (Gives.of 0 rfl own_rd) gnil))) ?_
            rintro _ w31 ⟨_, ⟨A8, c_8, rfl, rfl⟩, h29⟩
            replace h29 : St w0 F0 [ownC 75 (.pair .str .str) r3 (.slice A8 r3.length c_8), ownC 135 (.pair .str (.pair .bool .str)) ([(a1.2.1, true, ([] : List UInt8))] : List (List UInt8 × Bool × List UInt8)) (.slice (some ⟨b10, 0, none⟩) ([(a1.2.1, true, ([] : List UInt8))] : List (List UInt8 × Bool × List UInt8)).length 1), boxC b4 70 [.int .i64 r1.1, .string ⟨⟨r1.2.1⟩⟩, .slice A2 r1.2.2.length c_2], ownC 75 (.pair .str .str) r1.2.2 (.slice A2 r1.2.2.length c_2), boxC b1 132 [.int .i64 a0.1.1, .int .i64 a0.1.2.1, .int .i64 a0.1.2.2.1, .int .i64 a0.1.2.2.2.1, .int .i64 a0.1.2.2.2.2.1, .int .i64 a0.1.2.2.2.2.2.1, .int .i64 a0.1.2.2.2.2.2.2.1, .int .i64 a0.1.2.2.2.2.2.2.2, .slice A1 a0.2.length c_1], ownC 75 (.pair .str .str) a0.2 (.slice A1 a0.2.length c_1), boxC b3 70 [.int .i64 0, .string ⟨⟨([] : List UInt8)⟩⟩, .slice none ([] : List (List UInt8 × List UInt8)).length 0], boxC b2 64 [.int .i64 a1.1, .string ⟨⟨a1.2.1⟩⟩, .string ⟨⟨a1.2.2.1⟩⟩, .int .i64 a1.2.2.2]] _ _ := h29
            refine ⟨⟨[_, _, _], (h29.only [0, 0, 2, 0, 0, 0, 0, 0] rfl)⟩, ?_⟩
            refine HJ.run ttok rfl [10, 11] rfl ?_
            refine HJ.op (i := 12) rfl rfl rfl rfl rfl (op_store ttok 4 rfl h29 rfl rfl rfl rfl rfl rfl rfl) ?_
            intro _ w32 h30
            replace h30 : St w0 F0 [boxC b1 132 [.int .i64 a0.1.1, .int .i64 a0.1.2.1, .int .i64 a0.1.2.2.1, .int .i64 a0.1.2.2.2.1, .int .i64 a0.1.2.2.2.2.1, .int .i64 a0.1.2.2.2.2.2.1, .int .i64 a0.1.2.2.2.2.2.2.1, .int .i64 a0.1.2.2.2.2.2.2.2, .slice A8 r3.length c_8], ownC 75 (.pair .str .str) r3 (.slice A8 r3.length c_8), ownC 135 (.pair .str (.pair .bool .str)) ([(a1.2.1, true, ([] : List UInt8))] : List (List UInt8 × Bool × List UInt8)) (.slice (some ⟨b10, 0, none⟩) ([(a1.2.1, true, ([] : List UInt8))] : List (List UInt8 × Bool × List UInt8)).length 1), boxC b4 70 [.int .i64 r1.1, .string ⟨⟨r1.2.1⟩⟩, .slice A2 r1.2.2.length c_2], ownC 75 (.pair .str .str) r1.2.2 (.slice A2 r1.2.2.length c_2), ownC 75 (.pair .str .str) a0.2 (.slice A1 a0.2.length c_1), boxC b3 70 [.int .i64 0, .string ⟨⟨([] : List UInt8)⟩⟩, .slice none ([] : List (List UInt8 × List UInt8)).length 0], boxC b2 64 [.int .i64 a1.1, .string ⟨⟨a1.2.1⟩⟩, .string ⟨⟨a1.2.2.1⟩⟩, .int .i64 a1.2.2.2]] _ _ := h30
            refine ⟨⟨[_, _, _], h30⟩, ?_⟩
            refine HJ.fin [(4, .pointer (some ⟨b3, 0, none⟩)), (5, .pointer (some ⟨b4, 0, none⟩))] rfl rfl ?_
            exact thenP_intro ⟨A8, c_8, rfl, ((h30.only [0, 0, 1, 1, 1, 1, 1] rfl).rds [] rfl)⟩
        · rintro env w33 ⟨A6, c_6, rfl, h31⟩
          refine J.seq ?_
          refine J.region ?_
          refine RJ.q rfl rfl (q_load_box ttok 2 h31.wht rfl rfl rfl rfl rfl) ?_
          refine RJ.op rfl rfl (op_store ttok 5 rfl h31 rfl rfl rfl rfl rfl rfl rfl) ?_
          intro _ w34 h32
          replace h32 : St w0 F0 [boxC b3 70 [.int .i64 r1.1, .string ⟨⟨r1.2.1⟩⟩, .slice A2 r1.2.2.length c_2], boxC b1 132 [.int .i64 a0.1.1, .int .i64 a0.1.2.1, .int .i64 a0.1.2.2.1, .int .i64 a0.1.2.2.2.1, .int .i64 a0.1.2.2.2.2.1, .int .i64 a0.1.2.2.2.2.2.1, .int .i64 a0.1.2.2.2.2.2.2.1, .int .i64 a0.1.2.2.2.2.2.2.2, .slice A6 r3.length c_6], ownC 75 (.pair .str .str) r3 (.slice A6 r3.length c_6), boxC b4 70 [.int .i64 r1.1, .string ⟨⟨r1.2.1⟩⟩, .slice A2 r1.2.2.length c_2], ownC 75 (.pair .str .str) r1.2.2 (.slice A2 r1.2.2.length c_2), ownC 75 (.pair .str .str) a0.2 (.slice A1 a0.2.length c_1), boxC b2 64 [.int .i64 a1.1, .string ⟨⟨a1.2.1⟩⟩, .string ⟨⟨a1.2.2.1⟩⟩, .int .i64 a1.2.2.2]] _ _ := h32
          refine RJ.fin [(4, .pointer (some ⟨b3, 0, none⟩))] rfl ?_
          have h33 := h32.only [0, 0, 0, 1] rfl
          replace h33 : St w0 F0 [boxC b3 70 [.int .i64 r1.1, .string ⟨⟨r1.2.1⟩⟩, .slice A2 r1.2.2.length c_2], boxC b1 132 [.int .i64 a0.1.1, .int .i64 a0.1.2.1, .int .i64 a0.1.2.2.1, .int .i64 a0.1.2.2.2.1, .int .i64 a0.1.2.2.2.2.1, .int .i64 a0.1.2.2.2.2.2.1, .int .i64 a0.1.2.2.2.2.2.2.1, .int .i64 a0.1.2.2.2.2.2.2.2, .slice A6 r3.length c_6], ownC 75 (.pair .str .str) r3 (.slice A6 r3.length c_6), ownC 75 (.pair .str .str) r1.2.2 (.slice A2 r1.2.2.length c_2)] _ _ := h33
          refine J.ret ?_
          obtain rfl := Option.some.inj H
          exact ⟨_, _, _, (results_two rfl (rvcons (RV.cell ttok 0 h33 rfl rfl rfl rfl) rvnil) rfl), ⟨_, _, _, _, rfl, rfl⟩, h33.only [3, 1, 1] rfl⟩
      · replace H := ite_f c3 H
        refine J.skip ?_
        refine J.seq ?_
        refine J.region ?_
        refine RJ.q rfl rfl (q_load_box ttok 0 h5.wht rfl rfl rfl rfl rfl) ?_
        refine RJ.op rfl rfl (op_store ttok 4 rfl h5 rfl rfl rfl rfl rfl rfl rfl) ?_
        intro _ w35 h34
        replace h34 : St w0 F0 [boxC b3 70 [.int .i64 r1.1, .string ⟨⟨r1.2.1⟩⟩, .slice A2 r1.2.2.length c_2], boxC b4 70 [.int .i64 r1.1, .string ⟨⟨r1.2.1⟩⟩, .slice A2 r1.2.2.length c_2], ownC 75 (.pair .str .str) r1.2.2 (.slice A2 r1.2.2.length c_2), boxC b1 132 [.int .i64 a0.1.1, .int .i64 a0.1.2.1, .int .i64 a0.1.2.2.1, .int .i64 a0.1.2.2.2.1, .int .i64 a0.1.2.2.2.2.1, .int .i64 a0.1.2.2.2.2.2.1, .int .i64 a0.1.2.2.2.2.2.2.1, .int .i64 a0.1.2.2.2.2.2.2.2, .slice A1 a0.2.length c_1], ownC 75 (.pair .str .str) a0.2 (.slice A1 a0.2.length c_1), boxC b2 64 [.int .i64 a1.1, .string ⟨⟨a1.2.1⟩⟩, .string ⟨⟨a1.2.2.1⟩⟩, .int .i64 a1.2.2.2]] _ _ := h34
        refine RJ.fin [(4, .pointer (some ⟨b3, 0, none⟩))] rfl ?_
        have h35 := h34.only [0, 1, 1, 1] rfl
        replace h35 : St w0 F0 [boxC b3 70 [.int .i64 r1.1, .string ⟨⟨r1.2.1⟩⟩, .slice A2 r1.2.2.length c_2], ownC 75 (.pair .str .str) r1.2.2 (.slice A2 r1.2.2.length c_2), boxC b1 132 [.int .i64 a0.1.1, .int .i64 a0.1.2.1, .int .i64 a0.1.2.2.1, .int .i64 a0.1.2.2.2.1, .int .i64 a0.1.2.2.2.2.1, .int .i64 a0.1.2.2.2.2.2.1, .int .i64 a0.1.2.2.2.2.2.2.1, .int .i64 a0.1.2.2.2.2.2.2.2, .slice A1 a0.2.length c_1], ownC 75 (.pair .str .str) a0.2 (.slice A1 a0.2.length c_1)] _ _ := h35
        refine J.ret ?_
        obtain rfl := Option.some.inj H
        exact ⟨_, _, _, (results_two rfl (rvcons (RV.cell ttok 0 h35 rfl rfl rfl rfl) rvnil) rfl), ⟨_, _, _, _, rfl, rfl⟩, h35.only [1, 1, 1] rfl⟩

/-! sluicegate/sluicegatelaw28.awake -/
def sluicegatelaw28_awake.f (k : Nat)  : Option (Bool) := (truth_New.f (0, 0, 0, 0, 0, 0, 2, 1)).bind fun r1 => ((truth_Truth_Do.f k ((r1.1.1, r1.1.2.1, r1.1.2.2.1, r1.1.2.2.2.1, r1.1.2.2.2.2.1, r1.1.2.2.2.2.2.1, r1.1.2.2.2.2.2.2.1, r1.1.2.2.2.2.2.2.2), r1.2) (1, ([97] : List UInt8), ([49] : List UInt8), 0)).bind fun r2 => ((truth_Truth_Do.f k ((r2.2.1.1, r2.2.1.2.1, r2.2.1.2.2.1, r2.2.1.2.2.2.1, r2.2.1.2.2.2.2.1, r2.2.1.2.2.2.2.2.1, r2.2.1.2.2.2.2.2.2.1, r2.2.1.2.2.2.2.2.2.2), r2.2.2) (3, ([97] : List UInt8), ([] : List UInt8), 0)).bind fun r3 => ((truth_Truth_Do.f k ((r3.2.1.1, r3.2.1.2.1, r3.2.1.2.2.1, r3.2.1.2.2.2.1, r3.2.1.2.2.2.2.1, r3.2.1.2.2.2.2.2.1, r3.2.1.2.2.2.2.2.2.1, r3.2.1.2.2.2.2.2.2.2), r3.2.2) (2, ([97] : List UInt8), ([] : List UInt8), 0)).bind fun r4 => ((truth_Truth_Do.f k ((r4.2.1.1, r4.2.1.2.1, r4.2.1.2.2.1, r4.2.1.2.2.2.1, r4.2.1.2.2.2.2.1, r4.2.1.2.2.2.2.2.1, r4.2.1.2.2.2.2.2.2.1, r4.2.1.2.2.2.2.2.2.2), r4.2.2) (3, ([97] : List UInt8), ([] : List UInt8), 0)).bind fun r5 => (if (decide (r2.1.1 = 0)) = true then (if (decide (r3.1.2.1 = ([49] : List UInt8))) = true then (if (decide (r4.1.1 = 0)) = true then (some (decide (r5.1.1 = 9))) else (some false)) else (some false)) else (some false))))))
set_option maxRecDepth 20000 in
set_option maxHeartbeats 40000000 in
theorem sluicegatelaw28_awake.spec {k : Nat}   {r : Bool} (H : sluicegatelaw28_awake.f k  = some r) :
    Spec Try.prog 33 [] [] [] (fun v l => v = .bool r ∧ l = []) := by
  refine Spec.enter Try.func33 rfl (by kernel_rfl) (by kernel_rfl) fun w0 F0 h0 => ?_
  unfold sluicegatelaw28_awake.f at H
  refine J.seq ?_
  refine J.region ?_
  refine RJ.run ttok 1 rfl ?_
  refine RJ.fin [] rfl ?_
  refine J.seq ?_
  refine J.region ?_
  refine RJ.run ttok 1 rfl ?_
  obtain ⟨r1, q1, H⟩ := bind_t H
  refine RJ.op rfl rfl (op_call [] (truth_New.spec q1) rfl rfl rfl h0 rfl gnil) ?_
  rintro _ w1 ⟨_, ⟨b1, A1, c_1, rfl, rfl⟩, h1⟩
  replace h1 : St w0 F0 [boxC b1 132 [.int .i64 r1.1.1, .int .i64 r1.1.2.1, .int .i64 r1.1.2.2.1, .int .i64 r1.1.2.2.2.1, .int .i64 r1.1.2.2.2.2.1, .int .i64 r1.1.2.2.2.2.2.1, .int .i64 r1.1.2.2.2.2.2.2.1, .int .i64 r1.1.2.2.2.2.2.2.2, .slice A1 r1.2.length c_1], ownC 75 (.pair .str .str) r1.2 (.slice A1 r1.2.length c_1)] _ _ := h1
  refine RJ.run ttok 1 rfl ?_
  refine RJ.fin [(1, .pointer (some ⟨b1, 0, none⟩))] rfl ?_
  refine J.seq ?_
  refine J.seq ?_
  refine J.region ?_
  refine RJ.run ttok 2 rfl ?_
  refine RJ.fin [(1, .pointer (some ⟨b1, 0, none⟩)), (9, .bool false)] rfl ?_
  refine J.condF rfl ?_
  refine J.skip ?_
  refine J.seq ?_
  refine J.region ?_
  refine RJ.run ttok 2 rfl ?_
  obtain ⟨r2, q2, H⟩ := bind_t H
  refine RJ.op rfl rfl (op_call [0, 0] (truth_Truth_Do.spec q2) rfl rfl rfl h1 rfl gnil) ?_
  rintro _ w2 ⟨_, ⟨A2, c_2, A3, c_3, rfl, rfl⟩, h2⟩
  replace h2 : St w0 F0 [ownC 75 (.pair .str .str) r2.1.2.2 (.slice A2 r2.1.2.2.length c_2), boxC b1 132 [.int .i64 r2.2.1.1, .int .i64 r2.2.1.2.1, .int .i64 r2.2.1.2.2.1, .int .i64 r2.2.1.2.2.2.1, .int .i64 r2.2.1.2.2.2.2.1, .int .i64 r2.2.1.2.2.2.2.2.1, .int .i64 r2.2.1.2.2.2.2.2.2.1, .int .i64 r2.2.1.2.2.2.2.2.2.2, .slice A3 r2.2.2.length c_3], ownC 75 (.pair .str .str) r2.2.2 (.slice A3 r2.2.2.length c_3)] _ _ := h2
  refine RJ.run ttok 2 rfl ?_
  obtain ⟨r3, q3, H⟩ := bind_t H
  refine RJ.op rfl rfl (op_call [1, 1] (truth_Truth_Do.spec q3) rfl rfl rfl h2 rfl gnil) ?_
  rintro _ w3 ⟨_, ⟨A4, c_4, A5, c_5, rfl, rfl⟩, h3⟩
  replace h3 : St w0 F0 [ownC 75 (.pair .str .str) r3.1.2.2 (.slice A4 r3.1.2.2.length c_4), boxC b1 132 [.int .i64 r3.2.1.1, .int .i64 r3.2.1.2.1, .int .i64 r3.2.1.2.2.1, .int .i64 r3.2.1.2.2.2.1, .int .i64 r3.2.1.2.2.2.2.1, .int .i64 r3.2.1.2.2.2.2.2.1, .int .i64 r3.2.1.2.2.2.2.2.2.1, .int .i64 r3.2.1.2.2.2.2.2.2.2, .slice A5 r3.2.2.length c_5], ownC 75 (.pair .str .str) r3.2.2 (.slice A5 r3.2.2.length c_5), ownC 75 (.pair .str .str) r2.1.2.2 (.slice A2 r2.1.2.2.length c_2)] _ _ := h3
  refine RJ.op rfl rfl (op_alloc ttok rfl rfl h3) ?_
  rintro _ w4 ⟨b2, rfl, h4⟩
  replace h4 : St w0 F0 [boxC b2 70 [.int .i64 0, .string ⟨⟨([] : List UInt8)⟩⟩, .slice none ([] : List (List UInt8 × List UInt8)).length 0], ownC 75 (.pair .str .str) r3.1.2.2 (.slice A4 r3.1.2.2.length c_4), boxC b1 132 [.int .i64 r3.2.1.1, .int .i64 r3.2.1.2.1, .int .i64 r3.2.1.2.2.1, .int .i64 r3.2.1.2.2.2.1, .int .i64 r3.2.1.2.2.2.2.1, .int .i64 r3.2.1.2.2.2.2.2.1, .int .i64 r3.2.1.2.2.2.2.2.2.1, .int .i64 r3.2.1.2.2.2.2.2.2.2, .slice A5 r3.2.2.length c_5], ownC 75 (.pair .str .str) r3.2.2 (.slice A5 r3.2.2.length c_5), ownC 75 (.pair .str .str) r2.1.2.2 (.slice A2 r2.1.2.2.length c_2)] _ _ := h4
  refine RJ.op rfl rfl (op_alloc ttok rfl rfl h4) ?_
  rintro _ w5 ⟨b3, rfl, h5⟩
  replace h5 : St w0 F0 [boxC b3 70 [.int .i64 0, .string ⟨⟨([] : List UInt8)⟩⟩, .slice none ([] : List (List UInt8 × List UInt8)).length 0], boxC b2 70 [.int .i64 0, .string ⟨⟨([] : List UInt8)⟩⟩, .slice none ([] : List (List UInt8 × List UInt8)).length 0], ownC 75 (.pair .str .str) r3.1.2.2 (.slice A4 r3.1.2.2.length c_4), boxC b1 132 [.int .i64 r3.2.1.1, .int .i64 r3.2.1.2.1, .int .i64 r3.2.1.2.2.1, .int .i64 r3.2.1.2.2.2.1, .int .i64 r3.2.1.2.2.2.2.1, .int .i64 r3.2.1.2.2.2.2.2.1, .int .i64 r3.2.1.2.2.2.2.2.2.1, .int .i64 r3.2.1.2.2.2.2.2.2.2, .slice A5 r3.2.2.length c_5], ownC 75 (.pair .str .str) r3.2.2 (.slice A5 r3.2.2.length c_5), ownC 75 (.pair .str .str) r2.1.2.2 (.slice A2 r2.1.2.2.length c_2)] _ _ := h5
  refine RJ.op rfl rfl (op_store ttok 1 rfl h5 rfl rfl rfl rfl rfl rfl rfl) ?_
  intro _ w6 h6
  replace h6 : St w0 F0 [boxC b2 70 [.int .i64 r2.1.1, .string ⟨⟨r2.1.2.1⟩⟩, .slice A2 r2.1.2.2.length c_2], boxC b3 70 [.int .i64 0, .string ⟨⟨([] : List UInt8)⟩⟩, .slice none ([] : List (List UInt8 × List UInt8)).length 0], ownC 75 (.pair .str .str) r3.1.2.2 (.slice A4 r3.1.2.2.length c_4), boxC b1 132 [.int .i64 r3.2.1.1, .int .i64 r3.2.1.2.1, .int .i64 r3.2.1.2.2.1, .int .i64 r3.2.1.2.2.2.1, .int .i64 r3.2.1.2.2.2.2.1, .int .i64 r3.2.1.2.2.2.2.2.1, .int .i64 r3.2.1.2.2.2.2.2.2.1, .int .i64 r3.2.1.2.2.2.2.2.2.2, .slice A5 r3.2.2.length c_5], ownC 75 (.pair .str .str) r3.2.2 (.slice A5 r3.2.2.length c_5), ownC 75 (.pair .str .str) r2.1.2.2 (.slice A2 r2.1.2.2.length c_2)] _ _ := h6
  refine RJ.op rfl rfl (op_store ttok 1 rfl h6 rfl rfl rfl rfl rfl rfl rfl) ?_
  intro _ w7 h7
  replace h7 : St w0 F0 [boxC b3 70 [.int .i64 r3.1.1, .string ⟨⟨r3.1.2.1⟩⟩, .slice A4 r3.1.2.2.length c_4], boxC b2 70 [.int .i64 r2.1.1, .string ⟨⟨r2.1.2.1⟩⟩, .slice A2 r2.1.2.2.length c_2], ownC 75 (.pair .str .str) r3.1.2.2 (.slice A4 r3.1.2.2.length c_4), boxC b1 132 [.int .i64 r3.2.1.1, .int .i64 r3.2.1.2.1, .int .i64 r3.2.1.2.2.1, .int .i64 r3.2.1.2.2.2.1, .int .i64 r3.2.1.2.2.2.2.1, .int .i64 r3.2.1.2.2.2.2.2.1, .int .i64 r3.2.1.2.2.2.2.2.2.1, .int .i64 r3.2.1.2.2.2.2.2.2.2, .slice A5 r3.2.2.length c_5], ownC 75 (.pair .str .str) r3.2.2 (.slice A5 r3.2.2.length c_5), ownC 75 (.pair .str .str) r2.1.2.2 (.slice A2 r2.1.2.2.length c_2)] _ _ := h7
  refine RJ.fin [(1, .pointer (some ⟨b1, 0, none⟩)), (2, .pointer (some ⟨b2, 0, none⟩)), (3, .pointer (some ⟨b3, 0, none⟩))] rfl ?_
  refine J.seq ?_
  refine J.region ?_
  refine RJ.run ttok 2 rfl ?_
  obtain ⟨r4, q4, H⟩ := bind_t H
  refine RJ.op rfl rfl (op_call [3, 3] (truth_Truth_Do.spec q4) rfl rfl rfl h7 rfl gnil) ?_
  rintro _ w8 ⟨_, ⟨A6, c_6, A7, c_7, rfl, rfl⟩, h8⟩
  replace h8 : St w0 F0 [ownC 75 (.pair .str .str) r4.1.2.2 (.slice A6 r4.1.2.2.length c_6), boxC b1 132 [.int .i64 r4.2.1.1, .int .i64 r4.2.1.2.1, .int .i64 r4.2.1.2.2.1, .int .i64 r4.2.1.2.2.2.1, .int .i64 r4.2.1.2.2.2.2.1, .int .i64 r4.2.1.2.2.2.2.2.1, .int .i64 r4.2.1.2.2.2.2.2.2.1, .int .i64 r4.2.1.2.2.2.2.2.2.2, .slice A7 r4.2.2.length c_7], ownC 75 (.pair .str .str) r4.2.2 (.slice A7 r4.2.2.length c_7), boxC b3 70 [.int .i64 r3.1.1, .string ⟨⟨r3.1.2.1⟩⟩, .slice A4 r3.1.2.2.length c_4], boxC b2 70 [.int .i64 r2.1.1, .string ⟨⟨r2.1.2.1⟩⟩, .slice A2 r2.1.2.2.length c_2], ownC 75 (.pair .str .str) r3.1.2.2 (.slice A4 r3.1.2.2.length c_4), ownC 75 (.pair .str .str) r2.1.2.2 (.slice A2 r2.1.2.2.length c_2)] _ _ := h8
  refine RJ.run ttok 2 rfl ?_
  obtain ⟨r5, q5, H⟩ := bind_t H
  refine RJ.op rfl rfl (op_call [1, 1] (truth_Truth_Do.spec q5) rfl rfl rfl h8 rfl gnil) ?_
  rintro _ w9 ⟨_, ⟨A8, c_8, A9, c_9, rfl, rfl⟩, h9⟩
  replace h9 : St w0 F0 [ownC 75 (.pair .str .str) r5.1.2.2 (.slice A8 r5.1.2.2.length c_8), boxC b1 132 [.int .i64 r5.2.1.1, .int .i64 r5.2.1.2.1, .int .i64 r5.2.1.2.2.1, .int .i64 r5.2.1.2.2.2.1, .int .i64 r5.2.1.2.2.2.2.1, .int .i64 r5.2.1.2.2.2.2.2.1, .int .i64 r5.2.1.2.2.2.2.2.2.1, .int .i64 r5.2.1.2.2.2.2.2.2.2, .slice A9 r5.2.2.length c_9], ownC 75 (.pair .str .str) r5.2.2 (.slice A9 r5.2.2.length c_9), ownC 75 (.pair .str .str) r4.1.2.2 (.slice A6 r4.1.2.2.length c_6), boxC b3 70 [.int .i64 r3.1.1, .string ⟨⟨r3.1.2.1⟩⟩, .slice A4 r3.1.2.2.length c_4], boxC b2 70 [.int .i64 r2.1.1, .string ⟨⟨r2.1.2.1⟩⟩, .slice A2 r2.1.2.2.length c_2], ownC 75 (.pair .str .str) r3.1.2.2 (.slice A4 r3.1.2.2.length c_4), ownC 75 (.pair .str .str) r2.1.2.2 (.slice A2 r2.1.2.2.length c_2)] _ _ := h9
  refine RJ.op rfl rfl (op_alloc ttok rfl rfl h9) ?_
  rintro _ w10 ⟨b4, rfl, h10⟩
  replace h10 : St w0 F0 [boxC b4 70 [.int .i64 0, .string ⟨⟨([] : List UInt8)⟩⟩, .slice none ([] : List (List UInt8 × List UInt8)).length 0], ownC 75 (.pair .str .str) r5.1.2.2 (.slice A8 r5.1.2.2.length c_8), boxC b1 132 [.int .i64 r5.2.1.1, .int .i64 r5.2.1.2.1, .int .i64 r5.2.1.2.2.1, .int .i64 r5.2.1.2.2.2.1, .int .i64 r5.2.1.2.2.2.2.1, .int .i64 r5.2.1.2.2.2.2.2.1, .int .i64 r5.2.1.2.2.2.2.2.2.1, .int .i64 r5.2.1.2.2.2.2.2.2.2, .slice A9 r5.2.2.length c_9], ownC 75 (.pair .str .str) r5.2.2 (.slice A9 r5.2.2.length c_9), ownC 75 (.pair .str .str) r4.1.2.2 (.slice A6 r4.1.2.2.length c_6), boxC b3 70 [.int .i64 r3.1.1, .string ⟨⟨r3.1.2.1⟩⟩, .slice A4 r3.1.2.2.length c_4], boxC b2 70 [.int .i64 r2.1.1, .string ⟨⟨r2.1.2.1⟩⟩, .slice A2 r2.1.2.2.length c_2], ownC 75 (.pair .str .str) r3.1.2.2 (.slice A4 r3.1.2.2.length c_4), ownC 75 (.pair .str .str) r2.1.2.2 (.slice A2 r2.1.2.2.length c_2)] _ _ := h10
  refine RJ.op rfl rfl (op_alloc ttok rfl rfl h10) ?_
  rintro _ w11 ⟨b5, rfl, h11⟩
  replace h11 : St w0 F0 [boxC b5 70 [.int .i64 0, .string ⟨⟨([] : List UInt8)⟩⟩, .slice none ([] : List (List UInt8 × List UInt8)).length 0], boxC b4 70 [.int .i64 0, .string ⟨⟨([] : List UInt8)⟩⟩, .slice none ([] : List (List UInt8 × List UInt8)).length 0], ownC 75 (.pair .str .str) r5.1.2.2 (.slice A8 r5.1.2.2.length c_8), boxC b1 132 [.int .i64 r5.2.1.1, .int .i64 r5.2.1.2.1, .int .i64 r5.2.1.2.2.1, .int .i64 r5.2.1.2.2.2.1, .int .i64 r5.2.1.2.2.2.2.1, .int .i64 r5.2.1.2.2.2.2.2.1, .int .i64 r5.2.1.2.2.2.2.2.2.1, .int .i64 r5.2.1.2.2.2.2.2.2.2, .slice A9 r5.2.2.length c_9], ownC 75 (.pair .str .str) r5.2.2 (.slice A9 r5.2.2.length c_9), ownC 75 (.pair .str .str) r4.1.2.2 (.slice A6 r4.1.2.2.length c_6), boxC b3 70 [.int .i64 r3.1.1, .string ⟨⟨r3.1.2.1⟩⟩, .slice A4 r3.1.2.2.length c_4], boxC b2 70 [.int .i64 r2.1.1, .string ⟨⟨r2.1.2.1⟩⟩, .slice A2 r2.1.2.2.length c_2], ownC 75 (.pair .str .str) r3.1.2.2 (.slice A4 r3.1.2.2.length c_4), ownC 75 (.pair .str .str) r2.1.2.2 (.slice A2 r2.1.2.2.length c_2)] _ _ := h11
  refine RJ.op rfl rfl (op_store ttok 1 rfl h11 rfl rfl rfl rfl rfl rfl rfl) ?_
  intro _ w12 h12
  replace h12 : St w0 F0 [boxC b4 70 [.int .i64 r4.1.1, .string ⟨⟨r4.1.2.1⟩⟩, .slice A6 r4.1.2.2.length c_6], boxC b5 70 [.int .i64 0, .string ⟨⟨([] : List UInt8)⟩⟩, .slice none ([] : List (List UInt8 × List UInt8)).length 0], ownC 75 (.pair .str .str) r5.1.2.2 (.slice A8 r5.1.2.2.length c_8), boxC b1 132 [.int .i64 r5.2.1.1, .int .i64 r5.2.1.2.1, .int .i64 r5.2.1.2.2.1, .int .i64 r5.2.1.2.2.2.1, .int .i64 r5.2.1.2.2.2.2.1, .int .i64 r5.2.1.2.2.2.2.2.1, .int .i64 r5.2.1.2.2.2.2.2.2.1, .int .i64 r5.2.1.2.2.2.2.2.2.2, .slice A9 r5.2.2.length c_9], ownC 75 (.pair .str .str) r5.2.2 (.slice A9 r5.2.2.length c_9), ownC 75 (.pair .str .str) r4.1.2.2 (.slice A6 r4.1.2.2.length c_6), boxC b3 70 [.int .i64 r3.1.1, .string ⟨⟨r3.1.2.1⟩⟩, .slice A4 r3.1.2.2.length c_4], boxC b2 70 [.int .i64 r2.1.1, .string ⟨⟨r2.1.2.1⟩⟩, .slice A2 r2.1.2.2.length c_2], ownC 75 (.pair .str .str) r3.1.2.2 (.slice A4 r3.1.2.2.length c_4), ownC 75 (.pair .str .str) r2.1.2.2 (.slice A2 r2.1.2.2.length c_2)] _ _ := h12
  refine RJ.op rfl rfl (op_store ttok 1 rfl h12 rfl rfl rfl rfl rfl rfl rfl) ?_
  intro _ w13 h13
  replace h13 : St w0 F0 [boxC b5 70 [.int .i64 r5.1.1, .string ⟨⟨r5.1.2.1⟩⟩, .slice A8 r5.1.2.2.length c_8], boxC b4 70 [.int .i64 r4.1.1, .string ⟨⟨r4.1.2.1⟩⟩, .slice A6 r4.1.2.2.length c_6], ownC 75 (.pair .str .str) r5.1.2.2 (.slice A8 r5.1.2.2.length c_8), boxC b1 132 [.int .i64 r5.2.1.1, .int .i64 r5.2.1.2.1, .int .i64 r5.2.1.2.2.1, .int .i64 r5.2.1.2.2.2.1, .int .i64 r5.2.1.2.2.2.2.1, .int .i64 r5.2.1.2.2.2.2.2.1, .int .i64 r5.2.1.2.2.2.2.2.2.1, .int .i64 r5.2.1.2.2.2.2.2.2.2, .slice A9 r5.2.2.length c_9], ownC 75 (.pair .str .str) r5.2.2 (.slice A9 r5.2.2.length c_9), ownC 75 (.pair .str .str) r4.1.2.2 (.slice A6 r4.1.2.2.length c_6), boxC b3 70 [.int .i64 r3.1.1, .string ⟨⟨r3.1.2.1⟩⟩, .slice A4 r3.1.2.2.length c_4], boxC b2 70 [.int .i64 r2.1.1, .string ⟨⟨r2.1.2.1⟩⟩, .slice A2 r2.1.2.2.length c_2], ownC 75 (.pair .str .str) r3.1.2.2 (.slice A4 r3.1.2.2.length c_4), ownC 75 (.pair .str .str) r2.1.2.2 (.slice A2 r2.1.2.2.length c_2)] _ _ := h13
  refine RJ.fin [(2, .pointer (some ⟨b2, 0, none⟩)), (3, .pointer (some ⟨b3, 0, none⟩)), (4, .pointer (some ⟨b4, 0, none⟩)), (5, .pointer (some ⟨b5, 0, none⟩))] rfl ?_
  have h14 := h13.only [0, 0, 0, 2, 2, 2, 2, 2] rfl
  replace h14 : St w0 F0 [boxC b5 70 [.int .i64 r5.1.1, .string ⟨⟨r5.1.2.1⟩⟩, .slice A8 r5.1.2.2.length c_8], boxC b4 70 [.int .i64 r4.1.1, .string ⟨⟨r4.1.2.1⟩⟩, .slice A6 r4.1.2.2.length c_6], ownC 75 (.pair .str .str) r5.1.2.2 (.slice A8 r5.1.2.2.length c_8), ownC 75 (.pair .str .str) r4.1.2.2 (.slice A6 r4.1.2.2.length c_6), boxC b3 70 [.int .i64 r3.1.1, .string ⟨⟨r3.1.2.1⟩⟩, .slice A4 r3.1.2.2.length c_4], boxC b2 70 [.int .i64 r2.1.1, .string ⟨⟨r2.1.2.1⟩⟩, .slice A2 r2.1.2.2.length c_2], ownC 75 (.pair .str .str) r3.1.2.2 (.slice A4 r3.1.2.2.length c_4), ownC 75 (.pair .str .str) r2.1.2.2 (.slice A2 r2.1.2.2.length c_2)] _ _ := h14
  refine J.seq ?_
  refine J.region ?_
  refine RJ.run ttok 1 rfl ?_
  refine RJ.q rfl rfl (q_load_box ttok 5 h14.wht rfl rfl rfl rfl rfl) ?_
  refine RJ.run ttok 2 rfl ?_
  rcases Bool.eq_false_or_eq_true (decide (r2.1.1 = 0)) with c1 | c1
  · replace H := ite_t c1 H
    refine RJ.know (t := 25) rfl (congrArg Value.bool c1) ?_
    refine RJ.run ttok 1 rfl ?_
    refine RJ.q rfl rfl (q_load_box ttok 4 h14.wht rfl rfl rfl rfl rfl) ?_
    refine RJ.run ttok 3 rfl ?_
    rcases Bool.eq_false_or_eq_true (decide (r3.1.2.1 = ([49] : List UInt8))) with c2 | c2
    · replace H := ite_t c2 H
      refine RJ.know (t := 30) rfl (congrArg Value.bool c2) ?_
      refine RJ.run ttok 1 rfl ?_
      refine RJ.q rfl rfl (q_load_box ttok 1 h14.wht rfl rfl rfl rfl rfl) ?_
      refine RJ.run ttok 3 rfl ?_
      rcases Bool.eq_false_or_eq_true (decide (r4.1.1 = 0)) with c3 | c3
      · replace H := ite_t c3 H
        refine RJ.know (t := 35) rfl (congrArg Value.bool c3) ?_
        refine RJ.run ttok 1 rfl ?_
        refine RJ.q rfl rfl (q_load_box ttok 0 h14.wht rfl rfl rfl rfl rfl) ?_
        refine RJ.run ttok 3 rfl ?_
        refine RJ.fin [(0, .bool (decide (r5.1.1 = 9)))] rfl ?_
        have h15 := h14.only [] rfl
        replace h15 : St w0 F0 [] _ _ := h15
        refine J.ret ?_
        obtain rfl := Option.some.inj H
        exact ⟨_, _, _, (results_slots rfl), ⟨rfl, rfl⟩, h15.only [] rfl⟩
      · replace H := ite_f c3 H
        refine RJ.know (t := 35) rfl (congrArg Value.bool c3) ?_
        refine RJ.run ttok 5 rfl ?_
        refine RJ.fin [(0, .bool false)] rfl ?_
        have h16 := h14.only [] rfl
        replace h16 : St w0 F0 [] _ _ := h16
        refine J.ret ?_
        obtain rfl := Option.some.inj H
        exact ⟨_, _, _, (results_slots rfl), ⟨rfl, rfl⟩, h16.only [] rfl⟩
    · replace H := ite_f c2 H
      refine RJ.know (t := 30) rfl (congrArg Value.bool c2) ?_
      refine RJ.run ttok 10 rfl ?_
      refine RJ.fin [(0, .bool false)] rfl ?_
      have h17 := h14.only [] rfl
      replace h17 : St w0 F0 [] _ _ := h17
      refine J.ret ?_
      obtain rfl := Option.some.inj H
      exact ⟨_, _, _, (results_slots rfl), ⟨rfl, rfl⟩, h17.only [] rfl⟩
  · replace H := ite_f c1 H
    refine RJ.know (t := 25) rfl (congrArg Value.bool c1) ?_
    refine RJ.run ttok 15 rfl ?_
    refine RJ.fin [(0, .bool false)] rfl ?_
    have h18 := h14.only [] rfl
    replace h18 : St w0 F0 [] _ _ := h18
    refine J.ret ?_
    obtain rfl := Option.some.inj H
    exact ⟨_, _, _, (results_slots rfl), ⟨rfl, rfl⟩, h18.only [] rfl⟩

/-! (*sluicegate/truth.Truth).Pairs -/
def truth_Truth_Pairs.f (a0 : (Int × Int × Int × Int × Int × Int × Int × Int) × (List (List UInt8 × List UInt8))) : Option ((List (List UInt8 × List UInt8))) := (slices_Clone_api_Pair_api_Pair.f a0.2).bind fun r1 => (some r1)
set_option maxRecDepth 20000 in
set_option maxHeartbeats 40000000 in
theorem truth_Truth_Pairs.spec {a0 : (Int × Int × Int × Int × Int × Int × Int × Int) × (List (List UInt8 × List UInt8))} {b1 : Nat} {A1 : Option Addr} {c_1 : Nat} {r : (List (List UInt8 × List UInt8))} (H : truth_Truth_Pairs.f a0 = some r) :
    Spec Try.prog 35 [.pointer (some ⟨b1, 0, none⟩)] [boxC b1 132 [.int .i64 a0.1.1, .int .i64 a0.1.2.1, .int .i64 a0.1.2.2.1, .int .i64 a0.1.2.2.2.1, .int .i64 a0.1.2.2.2.2.1, .int .i64 a0.1.2.2.2.2.2.1, .int .i64 a0.1.2.2.2.2.2.2.1, .int .i64 a0.1.2.2.2.2.2.2.2, .slice A1 a0.2.length c_1], ownC 75 (.pair .str .str) a0.2 (.slice A1 a0.2.length c_1)] [] (fun v l => ∃ (A_0 : Option Addr) (c_0 : Nat), v = .slice A_0 r.length c_0 ∧ l = [ownC 75 (.pair .str .str) r (.slice A_0 r.length c_0), boxC b1 132 [.int .i64 a0.1.1, .int .i64 a0.1.2.1, .int .i64 a0.1.2.2.1, .int .i64 a0.1.2.2.2.1, .int .i64 a0.1.2.2.2.2.1, .int .i64 a0.1.2.2.2.2.2.1, .int .i64 a0.1.2.2.2.2.2.2.1, .int .i64 a0.1.2.2.2.2.2.2.2, .slice A1 a0.2.length c_1], ownC 75 (.pair .str .str) a0.2 (.slice A1 a0.2.length c_1)]) := by
  refine Spec.enter Try.func35 rfl (by kernel_rfl) (by kernel_rfl) fun w0 F0 h0 => ?_
  unfold truth_Truth_Pairs.f at H
  refine J.seq ?_
  refine J.region ?_
  refine RJ.run ttok 1 rfl ?_
  refine RJ.fin [(0, .pointer (some ⟨b1, 0, none⟩))] rfl ?_
  refine J.seq ?_
  refine J.seq ?_
  refine J.region ?_
  refine RJ.run ttok 2 rfl ?_
  refine RJ.fin [(0, .pointer (some ⟨b1, 0, none⟩)), (4, .bool false)] rfl ?_
  refine J.condF rfl ?_
  refine J.skip ?_
  refine J.seq ?_
  refine J.region ?_
  refine RJ.run ttok 3 rfl ?_
  refine RJ.q rfl rfl (q_load_box ttok 0 h0.wht rfl rfl rfl rfl rfl) ?_
  obtain ⟨r1, q1, H⟩ := bind_t H
  refine RJ.op rfl rfl (op_call [] (slices_Clone_api_Pair_api_Pair.spec q1) rfl rfl rfl h0 rfl (gcons (Gives.of 1 rfl own_rd) gnil)) ?_
  rintro _ w1 ⟨_, ⟨A2, c_2, rfl, rfl⟩, h1⟩
  replace h1 : St w0 F0 [ownC 75 (.pair .str .str) r1 (.slice A2 r1.length c_2), boxC b1 132 [.int .i64 a0.1.1, .int .i64 a0.1.2.1, .int .i64 a0.1.2.2.1, .int .i64 a0.1.2.2.2.1, .int .i64 a0.1.2.2.2.2.1, .int .i64 a0.1.2.2.2.2.2.1, .int .i64 a0.1.2.2.2.2.2.2.1, .int .i64 a0.1.2.2.2.2.2.2.2, .slice A1 a0.2.length c_1], ownC 75 (.pair .str .str) a0.2 (.slice A1 a0.2.length c_1)] _ _ := h1
  refine RJ.run ttok 1 rfl ?_
  refine RJ.fin [(2, .slice A2 r1.length c_2)] rfl ?_
  refine J.ret ?_
  obtain rfl := Option.some.inj H
  exact ⟨_, _, _, (results_slots rfl), ⟨_, _, rfl, rfl⟩, h1.only [0, 0, 0] rfl⟩

/-! sluicegate/sluicegateref11.Same -/
def sluicegateref11_Same.l0 : Nat → (List (List UInt8 × List UInt8)) → (List (List UInt8 × List UInt8)) → (Int) → Option (Bool)
  | 0, _, _, _ => none
  | k + 1, a0, a1, x1 => if (decide (x1 < (a0.length : Int))) = true then (if 0 ≤ x1 ∧ x1 < (a0.length : Int) then (if 0 ≤ x1 ∧ x1 < (a1.length : Int) then (if (!((decide (((gt a0 x1).1) = ((gt a1 x1).1))) && ((decide (((gt a0 x1).2) = ((gt a1 x1).2))) && true))) = true then (some false) else (sluicegateref11_Same.l0 k a0 a1 (w64 (x1 + 1)))) else none) else none) else (some true)
def sluicegateref11_Same.f (k : Nat) (a0 : List (List UInt8 × List UInt8)) (a1 : List (List UInt8 × List UInt8)) : Option (Bool) := if (!decide ((a0.length : Int) = (a1.length : Int))) = true then (some false) else (sluicegateref11_Same.l0 k a0 a1 0)
set_option maxRecDepth 20000 in
set_option maxHeartbeats 40000000 in
theorem sluicegateref11_Same.spec {k : Nat} {a0 : List (List UInt8 × List UInt8)} {a1 : List (List UInt8 × List UInt8)} {A1 : Option Addr} {c_1 : Nat} {A2 : Option Addr} {c_2 : Nat} {r : Bool} (H : sluicegateref11_Same.f k a0 a1 = some r) :
    Spec Try.prog 37 [.slice A1 a0.length c_1, .slice A2 a1.length c_2] [] [rdC 75 (.pair .str .str) a0 (.slice A1 a0.length c_1), rdC 75 (.pair .str .str) a1 (.slice A2 a1.length c_2)] (fun v l => v = .bool r ∧ l = []) := by
  refine Spec.enter Try.func37 rfl (by kernel_rfl) (by kernel_rfl) fun w0 F0 h0 => ?_
  unfold sluicegateref11_Same.f at H
  refine J.seq ?_
  refine J.region ?_
  refine RJ.run ttok 1 rfl ?_
  refine RJ.fin [(0, .slice A1 a0.length c_1), (1, .slice A2 a1.length c_2)] rfl ?_
  refine J.seq ?_
  refine J.seq ?_
  refine J.region ?_
  refine RJ.run ttok 5 rfl ?_
  refine RJ.fin [(0, .slice A1 a0.length c_1), (1, .slice A2 a1.length c_2), (10, .bool (!decide ((a0.length : Int) = (a1.length : Int))))] rfl ?_
  refine J.cond rfl (fun c1 => ?_) (fun c1 => ?_)
  · replace H := ite_t c1 H
    refine J.seq ?_
    refine J.region ?_
    refine RJ.run ttok 1 rfl ?_
    refine RJ.fin [(4, .bool false)] rfl ?_
    refine J.ret ?_
    obtain rfl := Option.some.inj H
    exact ⟨_, _, _, (results_slots rfl), ⟨rfl, rfl⟩, h0.only [] rfl⟩
  · replace H := ite_f c1 H
    refine J.skip ?_
    refine J.seq ?_
    refine J.seq ?_
    refine J.region ?_
    refine RJ.run ttok 1 rfl ?_
    refine RJ.fin [(0, .slice A1 a0.length c_1), (1, .slice A2 a1.length c_2), (5, .int .i64 0)] rfl ?_
    refine J.block ?_
    have h4 := ((h0.only [] rfl).rds [0, 1] rfl)
    refine J.loop (fun k env w => ∃ (x1 : Int), env = [(0, .slice A1 a0.length c_1), (1, .slice A2 a1.length c_2), (5, .int .i64 x1)] ∧ St w0 F0 [] [rdC 75 (.pair .str .str) a0 (.slice A1 a0.length c_1), rdC 75 (.pair .str .str) a1 (.slice A2 a1.length c_2)] w ∧ sluicegateref11_Same.l0 k a0 a1 x1 = some r) (k := k) ⟨0, rfl, h4, H⟩ ?_
    rintro k1 env w1 ⟨x1, rfl, h1, H⟩
    cases k1 with
    | zero => exact nomatch (show none = some r from H)
    | succ k1 =>
      rw [sluicegateref11_Same.l0] at H
      refine J.seq ?_
      refine J.seq ?_
      refine J.region ?_
      refine RJ.run ttok 4 rfl ?_
      refine RJ.fin [(0, .slice A1 a0.length c_1), (1, .slice A2 a1.length c_2), (5, .int .i64 x1), (14, .bool (decide (x1 < (a0.length : Int))))] rfl ?_
      refine J.cond rfl (fun c2 => ?_) (fun c2 => ?_)
      · replace H := ite_t c2 H
        refine J.skip ?_
        refine J.seq ?_
        refine J.block ?_
        refine J.seq ?_
        refine J.heldSt mix h1 ?_
        have h2 := h1.drew
        refine HJ.run ttok rfl [0, 1, 4, 5] rfl ?_
        obtain ⟨⟨p1, p2⟩, H⟩ := guard_t H
        have e1 := elem_A h2.wh (Gives.self 0 rfl) p1 p2
        refine HJ.q (i := 2) rfl rfl rfl rfl rfl rfl (q_index ttok rfl rfl rfl rfl rfl e1 p1 p2) ?_
        refine HJ.q (i := 3) rfl rfl rfl rfl rfl rfl (q_load_elem (f := 0) ttok rfl (fun w e => e) (Gives.self 0 rfl) p1 p2 rfl rfl rfl rfl rfl) ?_
        obtain ⟨⟨p3, p4⟩, H⟩ := guard_t H
        have e2 := elem_A h2.wh (Gives.self 1 rfl) p3 p4
        refine HJ.q (i := 6) rfl rfl rfl rfl rfl rfl (q_index ttok rfl rfl rfl rfl rfl e2 p3 p4) ?_
        refine HJ.q (i := 7) rfl rfl rfl rfl rfl rfl (q_load_elem (f := 0) ttok rfl (fun w e => e) (Gives.self 1 rfl) p3 p4 rfl rfl rfl rfl rfl) ?_
        refine HJ.run ttok rfl [8] rfl ?_
        refine HJ.fin [(0, .slice A1 a0.length c_1), (1, .slice A2 a1.length c_2), (5, .int .i64 x1), (25, .bool (!((decide (((gt a0 x1).1) = ((gt a1 x1).1))) && ((decide (((gt a0 x1).2) = ((gt a1 x1).2))) && true))))] rfl rfl ?_
        refine J.cond rfl (fun c3 => ?_) (fun c3 => ?_)
        · replace H := ite_t c3 H
          refine J.seq ?_
          refine J.region ?_
          refine RJ.run ttok 1 rfl ?_
          refine RJ.fin [(4, .bool false)] rfl ?_
          refine J.ret ?_
          obtain rfl := Option.some.inj H
          exact ⟨_, _, _, (results_slots rfl), ⟨rfl, rfl⟩, h2.only [] rfl⟩
        · replace H := ite_f c3 H
          refine J.skip ?_
          refine J.region ?_
          refine RJ.run ttok 3 rfl ?_
          refine RJ.fin [(0, .slice A1 a0.length c_1), (1, .slice A2 a1.length c_2), (5, .int .i64 (w64 (x1 + 1)))] rfl ?_
          have h3 := ((h2.only [] rfl).rds [0, 1] rfl)
          exact ⟨k1, by omega, (w64 (x1 + 1)), rfl, h3, H⟩
      · replace H := ite_f c2 H
        refine J.exit ?_
        refine J.seq ?_
        refine J.region ?_
        refine RJ.run ttok 1 rfl ?_
        refine RJ.fin [(4, .bool true)] rfl ?_
        refine J.ret ?_
        obtain rfl := Option.some.inj H
        exact ⟨_, _, _, (results_slots rfl), ⟨rfl, rfl⟩, h1.only [] rfl⟩

end Go.SK.T
